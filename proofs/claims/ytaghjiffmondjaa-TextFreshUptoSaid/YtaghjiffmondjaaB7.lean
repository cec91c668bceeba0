/-
  text.UnDec: what is read of every text.
-/
import Derived.Test.YtaghjiffmondjaaB6
set_option linter.unusedSimpArgs false
set_option linter.unusedVariables false
namespace Go.Proofs.Ytaghjiffmondjaa
open Go.RowKit

def udStep (n : Int) (c : UInt8) : Int := wrap64 (wrap64 (wrap64 (10 * n) + c.toNat) - 48)
def udFold (l : List UInt8) : Int := l.foldl udStep 0
theorem wrap64_in (x : Int) : -9223372036854775808 ≤ wrap64 x ∧ wrap64 x < 9223372036854775808 := by unfold wrap64; omega
theorem udFold_in (l : List UInt8) : -9223372036854775808 ≤ udFold l ∧ udFold l < 9223372036854775808 := by
  unfold udFold
  suffices ∀ (l : List UInt8) (n : Int), -9223372036854775808 ≤ n ∧ n < 9223372036854775808 → -9223372036854775808 ≤ l.foldl udStep n ∧ l.foldl udStep n < 9223372036854775808 from this l 0 (by omega)
  intro l
  induction l with
  | nil => intro n h; exact h
  | cons c l ih => intro n h; exact ih _ (wrap64_in _)

theorem unDec1_calls (c : UInt8) (n : Int) (p : Nat) (w : World) (hp : w.heap[p]? = some (.cells #[.int .i64 n] 3 (0, 0))) :
    Calls Try.prog 46 (#[.int .u8 (c.toNat : Int)] ++ #[.pointer (some ⟨p, 0, none⟩)]) w fun e w' => e = .returned (.bool true) ∧ w.setCell ⟨p, 0, none⟩ (.int .i64 (udStep n c)) = w' := by
  have hc : (c.toNat : Int) < 256 := by have := c.toNat_lt; omega
  have c0 : w.cell? ⟨p, 0, none⟩ = some (.int .i64 n) := by simp [World.cell?, hp]
  have f0 := frozen_of_block (off := 0) hp
  have HP := Lib.hid hp
  clear hp
  go_enter Try.func46, Try.ntmps46
  go_wp2
  go_ret
  exact ⟨rfl, rfl⟩

def UdI (p : Nat) (s : ByteArray) (w0 : World) (i : Nat) (w : World) : Prop :=
  w.heap[p]? = some (.cells #[.int .i64 (udFold (s.data.toList.take i))] 3 (0, 0)) ∧ Below p w0 w
theorem ud_round (p : Nat) (s : ByteArray) (w0 : World) (i : Nat) (hi : i < s.size) (w : World) (h : UdI p s w0 i w) :
    Calls Try.prog 46 (#[.int .u8 (s[i].toNat : Int)] ++ #[.pointer (some ⟨p, 0, none⟩)]) w fun e w' => ∃ b, e = .returned (.bool b) ∧ (b = true → UdI p s w0 (i + 1) w') ∧ (b = false → False) := by
  refine (unDec1_calls s[i] _ p w h.1).mono ?_
  rintro e w' ⟨rfl, rfl⟩
  refine ⟨true, rfl, fun _ => ⟨?_, h.2.setCell (Nat.le_refl _) _⟩, by simp⟩
  rw [take_snoc s i hi]
  have := block_setCell (off := 0) h.1 (.int .i64 (udStep (udFold (s.data.toList.take i)) s[i]))
  unfold udFold at *
  rw [List.foldl_append]
  exact this

theorem ext_tail (s : ByteArray) : (s.extract 1 s.size).data.toList = s.data.toList.tail := by
  rw [ByteArray.data_extract, Array.toList_extract, List.extract_eq_take_drop, List.take_of_length_le (by simp)]
  simp
theorem str_ne {a b : ByteArray} (h : ¬ a = b) : (a.toList == b.toList) = false := by
  rw [toList_eq, toList_eq, beq_eq_false_iff_ne]
  intro e
  apply h
  cases a; cases b
  simpa using e
theorem str_eq (a : ByteArray) : (a.toList == a.toList) = true := by simp
/-- the number that is reckoned from a text -/
def udNum (s : ByteArray) : Int := if s.data.toList.head? = some 45 then wrap64 (-(udFold s.data.toList.tail)) else udFold s.data.toList
def unDec (s : ByteArray) : Int × Int := if s.size = 0 ∨ 20 < s.size then (0, 42) else if dec (udNum s) = s then (udNum s, 0) else (0, 42)

theorem unDec_calls (s : ByteArray) (hs : s.size ≤ 140737488351232) (w : World) :
    Calls Try.prog 20 #[.string s] w fun e w' => e = .returned (.tuple #[.int .i64 (unDec s).1, .int .i64 (unDec s).2]) ∧ Below w.heap.size w w' := by
  have hmf := makeFunc_run
  have hsm : s.size ≤ maxLen := by unfold maxLen; omega
  by_cases h0 : s.size = 0
  · have HF := Lib.hid (show unDec s = (0, 42) by unfold unDec; rw [if_pos (by omega)])
    have e1 : ((s.size : Int) == 0) = true := by simp [h0]
    clear h0
    go_enter Try.func20, Try.ntmps20
    go_wp2
    go_ret2
    exact ⟨by rw [HF.out]; rfl, Below.refl _ _⟩
  · by_cases h20 : 20 < s.size
    · have HF := Lib.hid (show unDec s = (0, 42) by unfold unDec; rw [if_pos (by omega)])
      have e1 : ((s.size : Int) == 0) = false := by simp [h0]
      have e2 : decide (20 < (s.size : Int)) = true := by simp; omega
      clear h0 h20
      go_enter Try.func20, Try.ntmps20
      go_wp2
      go_ret2
      exact ⟨by rw [HF.out]; rfl, Below.refl _ _⟩
    · have HF := Lib.hid (show unDec s = if dec (udNum s) = s then (udNum s, 0) else (0, 42) by unfold unDec; rw [if_neg (by omega)])
      have e1 : ((s.size : Int) == 0) = false := by simp [h0]
      have e2 : decide (20 < (s.size : Int)) = false := by simp; omega
      have hpos : 0 < s.size := by omega
      clear h0 h20
      by_cases hm : s[0] = 45
      · have e3 : ((s[0].toNat : Int) == 45) = true := by simp [hm]
        have HN := Lib.hid (show udNum s = wrap64 (-(udFold (s.extract 1 s.size).data.toList)) by
          unfold udNum
          have hh : s.data.toList.head? = some 45 := by rw [List.head?_eq_getElem?]; simp [hpos]; exact hm
          rw [if_pos hh, ext_tail])
        have HS := Lib.hid (show (s.extract 1 s.size).size ≤ maxLen by simp; omega)
        clear hm
        go_enter Try.func20, Try.ntmps20
        go_wp2_with fail
        have hU : UdI w.heap.size (s.extract 1 s.size) w 0 (w.alloc (.cells #[.int .i64 0] 3)) := ⟨heap_alloc_new _ _, (Below.refl _ _).alloc (Nat.le_refl _) _⟩
        generalize w.alloc (.cells #[.int .i64 0] 3) = w0 at hU ⊢
        refine (each_any 46 #[.pointer (some ⟨w.heap.size, 0, none⟩)] _ HS.out (UdI w.heap.size (s.extract 1 s.size) w) (fun _ _ => False) (fun _ _ => rfl) (fun i hi w' h => ud_round _ _ w i hi w' h) w0 hU).mono ?_
        rintro e w1 h1
        obtain ⟨rfl, hW1, hB1⟩ : e = .returned (.bool true) ∧ UdI w.heap.size (s.extract 1 s.size) w (s.extract 1 s.size).size w1 := by
          rcases h1 with h | ⟨_, _, _, h⟩
          · exact h
          · exact h.elim
        rw [List.take_of_length_le (by simp)] at hW1
        have c1 : w1.cell? ⟨w.heap.size, 0, none⟩ = some (.int .i64 (udFold (s.extract 1 s.size).data.toList)) := by simp [World.cell?, hW1]
        have f1 := frozen_of_block (off := 0) hW1
        have HB1 := Lib.hid hB1
        have hlt : w.heap.size < w1.heap.size := (Array.getElem?_eq_some_iff.1 hW1).1
        obtain ⟨n, hn⟩ : ∃ n, n = udFold (s.extract 1 s.size).data.toList := ⟨_, rfl⟩
        rw [← hn] at c1 HN hW1
        obtain ⟨m, hm⟩ : ∃ m, m = wrap64 (-n) := ⟨_, rfl⟩
        have hmr := Lib.hid (wrap64_in (-n))
        have hW2 := block_setCell (off := 0) hW1 (.int .i64 m)
        rw [← hm] at HN hmr
        have HM := Lib.hid hm.symm
        have HW2 := Lib.hid hW2
        clear hU h1 hW1 hB1 hmf hn hm hW2
        go_wp2_with fail
        rw [HM.out]
        refine (dec_calls m hmr.out _).mono ?_
        rintro e w2 ⟨rfl, hb2⟩
        have c2 : w2.cell? ⟨w.heap.size, 0, none⟩ = some (.int .i64 m) := by
          rw [hb2.cell (by simp; omega)]; have := HW2.out; simp [World.cell?, this]
        have HB2 := Lib.hid ((HB1.out.setCell (p := ⟨w.heap.size, 0, none⟩) (Nat.le_refl _) (.int .i64 m)).trans (hb2.mono (by simp; omega)))
        clear hb2 c1 f1
        obtain ⟨D, hD⟩ : ∃ D, D = dec m := ⟨_, rfl⟩
        rw [HN.out, ← hD] at HF
        rw [← hD]
        have HDD := Lib.hid hD
        clear hD
        by_cases hDs : D = s
        · rw [if_pos hDs] at HF
          subst hDs
          go_wp2
          go_ret2
          exact ⟨by rw [HF.out]; rfl, HB2.out⟩
        · rw [if_neg hDs] at HF
          have hne := str_ne hDs
          go_wp2
          go_ret2
          exact ⟨by rw [HF.out]; rfl, HB2.out⟩
      · have e3 : ((s[0].toNat : Int) == 45) = false := by
          simp; intro h; exact hm (UInt8.toNat_inj.1 (by have : (45 : UInt8).toNat = 45 := rfl; omega))
        have HN := Lib.hid (show udNum s = udFold s.data.toList by
          unfold udNum
          have hh : ¬ s.data.toList.head? = some 45 := by rw [List.head?_eq_getElem?]; simp [hpos]; exact hm
          rw [if_neg hh])
        have HS := Lib.hid hsm
        clear hm
        go_enter Try.func20, Try.ntmps20
        go_wp2_with fail
        have hU : UdI w.heap.size s w 0 (w.alloc (.cells #[.int .i64 0] 3)) := ⟨heap_alloc_new _ _, (Below.refl _ _).alloc (Nat.le_refl _) _⟩
        generalize w.alloc (.cells #[.int .i64 0] 3) = w0 at hU ⊢
        refine (each_any 46 #[.pointer (some ⟨w.heap.size, 0, none⟩)] _ HS.out (UdI w.heap.size s w) (fun _ _ => False) (fun _ _ => rfl) (fun i hi w' h => ud_round _ _ w i hi w' h) w0 hU).mono ?_
        rintro e w1 h1
        obtain ⟨rfl, hW1, hB1⟩ : e = .returned (.bool true) ∧ UdI w.heap.size s w s.size w1 := by
          rcases h1 with h | ⟨_, _, _, h⟩
          · exact h
          · exact h.elim
        rw [List.take_of_length_le (by simp)] at hW1
        have c1 : w1.cell? ⟨w.heap.size, 0, none⟩ = some (.int .i64 (udFold s.data.toList)) := by simp [World.cell?, hW1]
        have f1 := frozen_of_block (off := 0) hW1
        have HB1 := Lib.hid hB1
        have hlt : w.heap.size < w1.heap.size := (Array.getElem?_eq_some_iff.1 hW1).1
        obtain ⟨n, hn⟩ : ∃ n, n = udFold s.data.toList := ⟨_, rfl⟩
        rw [← hn] at c1 HN hW1
        have hmr := Lib.hid (udFold_in s.data.toList)
        rw [← hn] at hmr
        clear hU h1 hW1 hB1 hmf hn
        go_wp2_with fail
        refine (dec_calls n hmr.out _).mono ?_
        rintro e w2 ⟨rfl, hb2⟩
        have c2 : w2.cell? ⟨w.heap.size, 0, none⟩ = some (.int .i64 n) := by
          rw [hb2.cell hlt]; exact c1
        have HB2 := Lib.hid (HB1.out.trans (hb2.mono (Nat.le_of_lt hlt)))
        clear hb2 c1 f1
        obtain ⟨D, hD⟩ : ∃ D, D = dec n := ⟨_, rfl⟩
        rw [HN.out, ← hD] at HF
        rw [← hD]
        have HDD := Lib.hid hD
        clear hD
        by_cases hDs : D = s
        · rw [if_pos hDs] at HF
          subst hDs
          go_wp2
          go_ret2
          exact ⟨by rw [HF.out]; rfl, HB2.out⟩
        · rw [if_neg hDs] at HF
          have hne := str_ne hDs
          go_wp2
          go_ret2
          exact ⟨by rw [HF.out]; rfl, HB2.out⟩
end Go.Proofs.Ytaghjiffmondjaa
