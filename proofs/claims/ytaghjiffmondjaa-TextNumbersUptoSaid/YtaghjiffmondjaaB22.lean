/-
  the document's own UnDec; it answers what the program's answers.
-/
import Derived.Test.YtaghjiffmondjaaB21
set_option linter.unusedVariables false
set_option linter.unusedSimpArgs false
namespace Go.Proofs.Ytaghjiffmondjaa
open Go.RowKit

def rnStep (n : Int) (c : UInt8) : Int := if 48 ≤ c.toNat ∧ c.toNat ≤ 57 then wrap64 (wrap64 (10 * n) - ((c.toNat : Int) - 48)) else n
def rnFold (l : List UInt8) : Int := l.foldl rnStep 0
def rnum (s : ByteArray) : Int := if s.data.toList.head? = some 45 then rnFold s.data.toList else wrap64 (-(rnFold s.data.toList))
def rUnDec (s : ByteArray) : Int × Int := if 20 < s.size then (0, 42) else if dec (rnum s) = s then (rnum s, 0) else (0, 42)
theorem rnFold_snoc (l : List UInt8) (c : UInt8) : rnFold (l ++ [c]) = rnStep (rnFold l) c := by unfold rnFold; rw [List.foldl_append]; rfl
theorem rnStep_in (n : Int) (c : UInt8) (h : -9223372036854775808 ≤ n ∧ n < 9223372036854775808) : -9223372036854775808 ≤ rnStep n c ∧ rnStep n c < 9223372036854775808 := by
  unfold rnStep; split
  · exact wrap64_in _
  · exact h
theorem rnFold_in (l : List UInt8) : -9223372036854775808 ≤ rnFold l ∧ rnFold l < 9223372036854775808 := by
  unfold rnFold
  suffices ∀ (l : List UInt8) (n : Int), -9223372036854775808 ≤ n ∧ n < 9223372036854775808 → -9223372036854775808 ≤ l.foldl rnStep n ∧ l.foldl rnStep n < 9223372036854775808 from this l 0 (by omega)
  intro l
  induction l with
  | nil => intro n h; exact h
  | cons c l ih => intro n h; exact ih _ (rnStep_in n c h)
theorem rnum_in (s : ByteArray) : -9223372036854775808 ≤ rnum s ∧ rnum s < 9223372036854775808 := by
  unfold rnum; split
  · exact rnFold_in _
  · exact wrap64_in _
theorem udNum_in (s : ByteArray) : -9223372036854775808 ≤ udNum s ∧ udNum s < 9223372036854775808 := by
  unfold udNum; split
  · exact wrap64_in _
  · exact udFold_in _
theorem rnFold_decN : ∀ (k n : Nat), n < 10 ^ k → 0 < k → rnFold (decN k n) = wrap64 (-(n : Int))
  | 0, n, _, h => by omega
  | k + 1, n, hn, _ => by
    simp only [decN]
    rw [rnFold_snoc]
    unfold rnStep
    rw [digit_toNat, if_pos (by omega)]
    split
    · have : rnFold [] = 0 := rfl
      rw [this]
      unfold wrap64; omega
    · have hk : 0 < k := by
        rcases k with _ | k
        · simp at hn; omega
        · omega
      rw [rnFold_decN k (n / 10) (by rw [Nat.pow_succ] at hn; omega) hk]
      unfold wrap64
      omega
theorem rnum_dec (z : Int) (hz : -9223372036854775808 ≤ z ∧ z < 9223372036854775808) : rnum (dec z) = z := by
  unfold rnum
  rw [dec_list]
  have hu := rnFold_decN 20 z.natAbs (by omega) (by omega)
  by_cases h : z < 0
  · rw [if_pos h]
    simp only [List.singleton_append, List.head?_cons, if_true]
    have e : rnFold (45 :: decN 20 z.natAbs) = rnFold (decN 20 z.natAbs) := by
      unfold rnFold
      rw [List.foldl_cons]
      rfl
    rw [e, hu]
    unfold wrap64
    omega
  · rw [if_neg h, List.nil_append, if_neg, hu]
    · unfold wrap64; omega
    · intro h2
      have : (45 : UInt8) ∈ decN 20 z.natAbs := List.mem_of_mem_head? h2
      exact absurd (decN_mem _ _ _ this) (by decide)
theorem rUnDec_eq (s : ByteArray) : rUnDec s = unDec s := by
  by_cases h20 : 20 < s.size
  · have e1 : rUnDec s = (0, 42) := by unfold rUnDec; rw [if_pos h20]
    have e2 : unDec s = (0, 42) := by unfold unDec; rw [if_pos (.inr h20)]
    rw [e1, e2]
  · have e1 : rUnDec s = if dec (rnum s) = s then (rnum s, 0) else (0, 42) := by unfold rUnDec; rw [if_neg h20]
    by_cases h0 : s.size = 0
    · have e2 : unDec s = (0, 42) := by unfold unDec; rw [if_pos (.inl h0)]
      rw [e1, e2, if_neg]
      intro h
      have := (dec_size (rnum s) (rnum_in s)).1
      rw [h] at this
      exact this h0
    · have e2 : unDec s = if dec (udNum s) = s then (udNum s, 0) else (0, 42) := by unfold unDec; rw [if_neg (by omega)]
      rw [e1, e2]
      by_cases h1 : dec (udNum s) = s
      · have h2 : rnum s = udNum s := by
          conv => lhs; rw [← h1]
          exact rnum_dec _ (udNum_in s)
        rw [h2]
      · rw [if_neg h1, if_neg]
        intro h3
        apply h1
        have h2 : udNum s = rnum s := by
          conv => lhs; rw [← h3]
          exact udNum_dec _ (rnum_in s)
        rw [h2, h3]

set_option maxHeartbeats 1000000 in
set_option maxRecDepth 100000 in
theorem rUnDec_calls (s : ByteArray) (hs : s.size ≤ 140737488351232) (w : World) :
    Calls Try.prog 21 #[.string s] w fun e w' => e = .returned (.tuple #[.int .i64 (rUnDec s).1, .int .i64 (rUnDec s).2]) ∧ Below w.heap.size w w' := by
  by_cases h20 : 20 < s.size
  · have HF := Lib.hid (show rUnDec s = (0, 42) by unfold rUnDec; rw [if_pos h20])
    clear hs
    go_enter Try.func21, Try.ntmps21
    go_wp2
    go_ret2
    exact ⟨by rw [HF.out]; rfl, Below.refl _ _⟩
  · have HF := Lib.hid (show rUnDec s = (if dec (rnum s) = s then (rnum s, 0) else (0, 42)) by unfold rUnDec; rw [if_neg h20])
    clear hs
    have hs : s.size ≤ 20 := by omega
    clear h20
    go_enter Try.func21, Try.ntmps21
    go_wp2
    go_loopw [4, 5] (fun nv iv wr => ∃ (i : Nat) (n : Int), iv = .int .i64 i ∧ i ≤ s.size ∧ nv = .int .i64 n ∧ Hid (n = rnFold (s.data.toList.take i)) ∧ w = wr) (fun _ iv _ => s.size - (intOf iv).toNat)
    case atStart => exact ⟨0, 0, rfl, by omega, rfl, Lib.hid rfl, rfl⟩
    case round =>
      obtain ⟨i, n, rfl, hi, rfl, HN, rfl⟩ := hrel
      by_cases hlt : i < s.size
      · have HST := Lib.hid (take_snoc s i hlt)
        have hc := s[i].toNat_lt
        by_cases hd : 48 ≤ s[i].toNat ∧ s[i].toNat ≤ 57
        · have k1 : decide ((48 : Int) ≤ (s[i].toNat : Int)) = true := by simp; omega
          have k2 : decide ((s[i].toNat : Int) ≤ 57) = true := by simp; omega
          have HD := Lib.hid hd
          go_wp2
          exact ⟨⟨i + 1, _, by go_num, by omega, rfl, Lib.hid (by rw [HST.out, rnFold_snoc, ← HN.out]; unfold rnStep; rw [if_pos HD.out]), trivial⟩, by simp [intOf]; omega⟩
        · by_cases h48 : 48 ≤ s[i].toNat
          · have k1 : decide ((48 : Int) ≤ (s[i].toNat : Int)) = true := by simp; omega
            have k2 : decide ((s[i].toNat : Int) ≤ 57) = false := by simp; omega
            have HD := Lib.hid hd
            clear hd
            go_wp2
            exact ⟨⟨i + 1, _, by go_num, by omega, rfl, Lib.hid (by rw [HST.out, rnFold_snoc, ← HN.out]; unfold rnStep; rw [if_neg HD.out]), trivial⟩, by simp [intOf]; omega⟩
          · have k1 : decide ((48 : Int) ≤ (s[i].toNat : Int)) = false := by simp; omega
            have HD := Lib.hid hd
            clear hd
            go_wp2
            exact ⟨⟨i + 1, _, by go_num, by omega, rfl, Lib.hid (by rw [HST.out, rnFold_snoc, ← HN.out]; unfold rnStep; rw [if_neg HD.out]), trivial⟩, by simp [intOf]; omega⟩
      · obtain rfl : i = s.size := by omega
        have hn : n = rnFold s.data.toList := by rw [HN.out, List.take_of_length_le (by simp)]
        have HN2 := Lib.hid hn
        have HR := Lib.hid (rnFold_in s.data.toList)
        clear hn
        by_cases h0 : s.size = 0
        · have HV := Lib.hid (show rnum s = wrap64 (-n) by
            unfold rnum
            rw [HN2.out, if_neg]
            rw [List.eq_nil_of_length_eq_zero (show s.data.toList.length = 0 by simpa using h0)]
            simp)
          have k1 : ((s.size : Int) == 0) = true := by simp [h0]
          go_wp2_with fail
          rw [← HV.out]
          refine (rdec_calls 20 (rnum s) (rnum_in s) (by have := rnum_in s; omega) w).mono ?_
          rintro e w1 ⟨rfl, hb⟩
          have HB := Lib.hid hb
          clear hb
          by_cases hq : dec (rnum s) = s
          · have HF2 := Lib.hid (show rUnDec s = (rnum s, 0) by rw [HF.out, if_pos hq])
            rw [hq]
            have t1 := str_eq s
            clear hq HV HN2
            generalize rnum s = z at HF2 ⊢
            go_wp2
            go_ret2
            exact ⟨by rw [HF2.out]; rfl, HB.out⟩
          · have HF2 := Lib.hid (show rUnDec s = (0, 42) by rw [HF.out, if_neg hq])
            have t1 := str_ne hq
            clear hq HV HN2
            generalize dec (rnum s) = y at t1 ⊢
            generalize rnum s = z at HF2 ⊢
            go_wp2
            go_ret2
            exact ⟨by rw [HF2.out]; rfl, HB.out⟩
        · have k1 : ((s.size : Int) == 0) = false := by rw [beq_eq_false_iff_ne]; omega
          have b0 : 0 < s.size := by omega
          have hhd : s.data.toList.head? = some s[0] := by
            rw [List.head?_eq_getElem?, List.getElem?_eq_getElem (by simpa using b0)]; rfl
          by_cases h45 : s[0] = 45
          · have HV := Lib.hid (show rnum s = n by unfold rnum; rw [HN2.out, hhd, h45, if_pos rfl])
            have k2 : ((s[0].toNat : Int) != 45) = false := by rw [h45]; rfl
            clear hhd h45 h0
            go_wp2_with fail
            rw [← HV.out]
            refine (rdec_calls 20 (rnum s) (rnum_in s) (by have := rnum_in s; omega) w).mono ?_
            rintro e w1 ⟨rfl, hb⟩
            have HB := Lib.hid hb
            clear hb
            by_cases hq : dec (rnum s) = s
            · have HF2 := Lib.hid (show rUnDec s = (rnum s, 0) by rw [HF.out, if_pos hq])
              rw [hq]
              have t1 := str_eq s
              clear hq HV HN2
              generalize rnum s = z at HF2 ⊢
              go_wp2
              go_ret2
              exact ⟨by rw [HF2.out]; rfl, HB.out⟩
            · have HF2 := Lib.hid (show rUnDec s = (0, 42) by rw [HF.out, if_neg hq])
              have t1 := str_ne hq
              clear hq HV HN2
              generalize dec (rnum s) = y at t1 ⊢
              generalize rnum s = z at HF2 ⊢
              go_wp2
              go_ret2
              exact ⟨by rw [HF2.out]; rfl, HB.out⟩
          · have HV := Lib.hid (show rnum s = wrap64 (-n) by unfold rnum; rw [HN2.out, hhd, if_neg (fun h => h45 (Option.some.inj h))])
            have k2 : ((s[0].toNat : Int) != 45) = true := by
              simp; intro h; exact h45 (UInt8.toNat_inj.1 (by have : (45 : UInt8).toNat = 45 := rfl; omega))
            clear hhd h45 h0
            go_wp2_with fail
            rw [← HV.out]
            refine (rdec_calls 20 (rnum s) (rnum_in s) (by have := rnum_in s; omega) w).mono ?_
            rintro e w1 ⟨rfl, hb⟩
            have HB := Lib.hid hb
            clear hb
            by_cases hq : dec (rnum s) = s
            · have HF2 := Lib.hid (show rUnDec s = (rnum s, 0) by rw [HF.out, if_pos hq])
              rw [hq]
              have t1 := str_eq s
              clear hq HV HN2
              generalize rnum s = z at HF2 ⊢
              go_wp2
              go_ret2
              exact ⟨by rw [HF2.out]; rfl, HB.out⟩
            · have HF2 := Lib.hid (show rUnDec s = (0, 42) by rw [HF.out, if_neg hq])
              have t1 := str_ne hq
              clear hq HV HN2
              generalize dec (rnum s) = y at t1 ⊢
              generalize rnum s = z at HF2 ⊢
              go_wp2
              go_ret2
              exact ⟨by rw [HF2.out]; rfl, HB.out⟩
end Go.Proofs.Ytaghjiffmondjaa
