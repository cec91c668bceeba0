/-
  text.UnB64: what is read of every text.
-/
import Derived.Test.YtaghjiffmondjaaB9
set_option linter.unusedSimpArgs false
set_option linter.unusedVariables false
namespace Go.Proofs.Ytaghjiffmondjaa
open Go.RowKit

/-- without one '=' at the end -/
def bare1 (l : List UInt8) : List UInt8 := if l.getLast? = some 61 then l.dropLast else l
def bareN : Nat → List UInt8 → List UInt8
  | 0, l => l
  | n + 1, l => bare1 (bareN n l)
theorem getLast_at (r : ByteArray) (h : r.size - 1 < r.size) : r.data.toList.getLast? = some r[r.size - 1] := by
  have hl : r.data.toList.length = r.size := by simp
  rw [List.getLast?_eq_getElem?, hl, List.getElem?_eq_getElem (by omega)]; rfl
theorem bare_yes (r : ByteArray) (h : r.size - 1 < r.size) (hl : r[r.size - 1] = 61) : bare1 r.data.toList = (r.extract 0 (r.size - 1)).data.toList := by
  unfold bare1
  rw [getLast_at r h, hl, if_pos rfl, ByteArray.data_extract, Array.toList_extract, List.extract_eq_take_drop, List.drop_zero, List.dropLast_eq_take]
  simp
theorem bare_no (r : ByteArray) (h : r.size - 1 < r.size) (hl : ¬ r[r.size - 1] = 61) : bare1 r.data.toList = r.data.toList := by
  unfold bare1
  rw [getLast_at r h, if_neg (by intro e; exact hl (Option.some.inj e))]
theorem bytes_ext {a b : ByteArray} (h : a.data.toList = b.data.toList) : a = b := by
  cases a; cases b
  simpa using h
def bareB (s : ByteArray) : ByteArray := ⟨(bare1 (bare1 s.data.toList)).toArray⟩
def unB64Of (s : ByteArray) : ByteArray := ⟨(digRun 6 (tb SIGNS) (bareB s).data.toList).2.2.toArray⟩
def unB64 (s : ByteArray) : ByteArray × Int := if (bareB s).data.toList.all (fun c => tb SIGNS c != 0) = true ∧ b64 (unB64Of s) = s then (unB64Of s, 0) else (⟨#[]⟩, 40)

theorem digRun_len (bits : Nat) (t : UInt8 → Nat) (l : List UInt8) : (digRun bits t l).2.2.length ≤ l.length := by
  unfold digRun
  suffices ∀ (l : List UInt8) (s : Nat × Nat × List UInt8), (l.foldl (fun s c => digStep bits s (t c)) s).2.2.length ≤ s.2.2.length + l.length by simpa using this l (0, 0, [])
  intro l
  induction l with
  | nil => intro s; simp
  | cons c l ih => intro s; have := ih (digStep bits s (t c)); have := @digStep_len bits s (t c); simp only [List.foldl_cons, List.length_cons]; omega

theorem unB64_calls (s : ByteArray) (hs : s.size ≤ 105553116266000) (w : World) :
    Calls Try.prog 26 #[.string s] w fun e w' => e = .returned (.tuple #[.string (unB64 s).1, .int .i64 (unB64 s).2]) ∧ Below w.heap.size w w' := by
  go_enter Try.func26, Try.ntmps26
  go_wp2
  go_loopw [4, 8] (fun bv_ iv wr => ∃ (i : Nat) (r : ByteArray), i ≤ 2 ∧ iv = .int .i64 i ∧ bv_ = .string r ∧ r.size ≤ s.size ∧ Hid (r.data.toList = bareN i s.data.toList) ∧ w = wr) (fun _ iv _ => 2 - (intOf iv).toNat)
  case atStart => exact ⟨0, s, by omega, rfl, rfl, Nat.le_refl _, Lib.hid rfl, rfl⟩
  case round =>
    obtain ⟨i, r, hi, rfl, rfl, hrs, HR, rfl⟩ := hrel
    by_cases hi2 : i < 2
    · by_cases h0 : r.size = 0
      · have t1 : decide (0 < r.size) = false := decide_eq_false (by omega)
        have HR2 := Lib.hid (show r.data.toList = bareN (i + 1) s.data.toList by
          have hr0 : r.data.toList = [] := List.eq_nil_of_length_eq_zero (by simpa using h0)
          unfold bareN; rw [← HR.out, hr0]; rfl)
        clear h0
        go_wp2
        exact ⟨⟨i + 1, r, by omega, by go_num, rfl, hrs, HR2, trivial⟩, by simp [intOf]; omega⟩
      · have t1 : decide (0 < r.size) = true := decide_eq_true (by omega)
        have b1 : 1 ≤ (r.size : Int) := by omega
        have b2 : r.size - 1 < r.size := by omega
        by_cases hl : r[r.size - 1] = 61
        · have t2 : ((r[r.size - 1].toNat : Int) == 61) = true := by rw [hl]; rfl
          have HR2 := Lib.hid (show (r.extract 0 (r.size - 1)).data.toList = bareN (i + 1) s.data.toList by
            unfold bareN; rw [← HR.out]; exact (bare_yes r b2 hl).symm)
          clear h0 hl
          go_wp2
          exact ⟨⟨i + 1, _, by omega, by go_num, rfl, by simp; omega, HR2, trivial⟩, by simp [intOf]; omega⟩
        · have t2 : ((r[r.size - 1].toNat : Int) == 61) = false := by
            simp; intro h; exact hl (UInt8.toNat_inj.1 (by have : (61 : UInt8).toNat = 61 := rfl; omega))
          have HR2 := Lib.hid (show r.data.toList = bareN (i + 1) s.data.toList by
            unfold bareN; rw [← HR.out]; exact (bare_no r b2 hl).symm)
          clear h0 hl
          go_wp2
          exact ⟨⟨i + 1, r, by omega, by go_num, rfl, hrs, HR2, trivial⟩, by simp [intOf]; omega⟩
    · obtain rfl : i = 2 := by omega
      go_wp2_with fail
      have HRB := Lib.hid (show r = bareB s by
        have := HR.out
        apply bytes_ext
        rw [this]; rfl)
      refine (tab SIGNS w (by decide)).mono ?_
      rintro e w1 ⟨rfl, hb1⟩
      go_wp2_with fail
      refine (digits_calls 6 (.inr rfl) (tb SIGNS) _ (fun c => ⟨tab_at tab_signs rfl c, Nat.le_trans (tb_le _ _) (by decide)⟩) r (by omega) w1).mono ?_
      rintro e w2 ⟨q, ok, rfl, hb2, hyes, hno⟩
      have HB := Lib.hid (hb1.trans (hb2.mono hb1.size))
      have HY := Lib.hid hyes
      have HN := Lib.hid hno
      clear hb1 hb2 hyes hno
      cases ok
      · have HF := Lib.hid (show unB64 s = (⟨#[]⟩, 40) by
          unfold unB64
          obtain ⟨c, hc, h0⟩ := HN.out rfl
          rw [HRB.out] at hc
          have : (bareB s).data.toList.all (fun c => tb SIGNS c != 0) = false := List.all_eq_false.2 ⟨c, hc, by simp [h0]⟩
          rw [if_neg (by rw [this]; simp)])
        clear hs hrs
        go_wp2
        go_ret2
        exact ⟨by rw [HF.out]; rfl, HB.out⟩
      · have hall : (bareB s).data.toList.all (fun c => tb SIGNS c != 0) = true := List.all_eq_true.2 fun c hc => by rw [← HRB.out] at hc; simpa using (HY.out rfl).1 c hc
        have hq : q = unB64Of s := by rw [(HY.out rfl).2, HRB.out]; rfl
        have hqs : q.size ≤ 105553116266000 := by
          have h1 := digRun_len 6 (tb SIGNS) r.data.toList
          have h2 : q.size = (digRun 6 (tb SIGNS) r.data.toList).2.2.length := by rw [(HY.out rfl).2]; rfl
          have h3 : r.data.toList.length = r.size := by simp
          omega
        have HQS := Lib.hid hqs
        have HQ := Lib.hid hq
        clear hq hs hrs hqs
        go_wp2_with fail
        refine (b64_calls q HQS.out w2).mono ?_
        rintro e w3 ⟨rfl, hb3⟩
        have HB3 := Lib.hid (HB.out.trans (hb3.mono HB.out.size))
        clear hb3
        obtain ⟨D, hD⟩ : ∃ D, D = b64 q := ⟨_, rfl⟩
        rw [← hD]
        have HD := Lib.hid hD
        clear hD
        by_cases hDs : D = s
        · have HF := Lib.hid (show unB64 s = (q, 0) by
            unfold unB64
            rw [if_pos ⟨hall, by rw [← HQ.out, ← HD.out]; exact hDs⟩, ← HQ.out])
          have t1 : (D.toList == s.toList) = true := by rw [hDs]; exact str_eq s
          clear hDs hall
          go_wp2
          go_ret2
          exact ⟨by rw [HF.out]; rfl, HB3.out⟩
        · have HF := Lib.hid (show unB64 s = (⟨#[]⟩, 40) by
            unfold unB64
            rw [if_neg (fun h => hDs (by have := h.2; rw [← HQ.out, ← HD.out] at this; exact this))])
          have t1 := str_ne hDs
          clear hDs hall
          go_wp2
          go_ret2
          exact ⟨by rw [HF.out]; rfl, HB3.out⟩
end Go.Proofs.Ytaghjiffmondjaa
