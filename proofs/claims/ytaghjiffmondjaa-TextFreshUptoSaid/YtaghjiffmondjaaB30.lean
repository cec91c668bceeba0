/-
  the document's own value and byteAt.
-/
import Derived.Test.YtaghjiffmondjaaB29
set_option linter.unusedVariables false
set_option linter.unusedSimpArgs false
namespace Go.Proofs.Ytaghjiffmondjaa
open Go.RowKit


theorem idx_at (l : List UInt8) (c : UInt8) (i : Nat) (hi : i < l.length) (h : l[i] = c) (hn : c ∉ l.take i) : l.idxOf c = i := by
  have h1 : l = l.take i ++ c :: l.drop (i + 1) := by
    rw [← h, ← List.drop_eq_getElem_cons hi, List.take_append_drop]
  rw [h1, List.idxOf_append, if_neg hn, List.idxOf_cons_self]
  simp; omega
theorem tb_yes (a : ByteArray) (c : UInt8) (i : Nat) (hi : i < a.size) (h : a[i] = c) (hn : c ∉ a.data.toList.take i) : tb a c = i + 1 := by
  have hl : i < a.data.toList.length := by simpa using hi
  have hg : a.data.toList[i] = c := h
  unfold tb
  rw [if_pos (by rw [List.contains_iff_mem]; rw [← hg]; exact List.getElem_mem hl), idx_at _ c i hl hg hn]
theorem tb_no (a : ByteArray) (c : UInt8) (hn : c ∉ a.data.toList) : tb a c = 0 := by
  unfold tb
  rw [if_neg (by rw [List.contains_iff_mem]; exact hn)]
theorem rvalue_calls (a : ByteArray) (c : UInt8) (n : Int) (hn : n = (c.toNat : Int)) (hs : a.size ≤ 1000000) (w : World) :
    Calls Try.prog 51 #[.string a, .int .u8 n] w fun e w' => e = .returned (.int .i64 ((tb a c - 1 : Nat) : Int)) ∧ w = w' := by
  subst hn
  go_enter Try.func51, Try.ntmps51
  go_wp2
  go_loopw [5] (fun iv wr => ∃ i : Nat, iv = .int .i64 i ∧ i ≤ a.size ∧ Hid (c ∉ a.data.toList.take i) ∧ w = wr) (fun iv _ => a.size - (intOf iv).toNat)
  case atStart => exact ⟨0, rfl, by omega, Lib.hid (by simp), rfl⟩
  case round =>
    obtain ⟨i, rfl, hi, HI, rfl⟩ := hrel
    by_cases hlt : i < a.size
    · by_cases he : a[i] = c
      · have HF := Lib.hid (tb_yes a c i hlt he HI.out)
        have k1 : ((a[i].toNat : Int) == (c.toNat : Int)) = true := by rw [he]; simp
        clear he
        go_wp2
        go_ret
        exact ⟨by rw [HF.out]; rfl, rfl⟩
      · have k1 : ((a[i].toNat : Int) == (c.toNat : Int)) = false := by
          rw [beq_eq_false_iff_ne]; intro h; exact he (UInt8.toNat_inj.1 (by omega))
        have HN := Lib.hid (show c ∉ a.data.toList.take (i + 1) by
          rw [take_snoc a i hlt, List.mem_append]; rintro (h | h)
          · exact HI.out h
          · exact he (List.mem_singleton.1 h).symm)
        clear he
        go_wp2
        exact ⟨⟨i + 1, by go_num, by omega, HN, trivial⟩, by simp [intOf]; omega⟩
    · obtain rfl : i = a.size := by omega
      have HF := Lib.hid (tb_no a c (by have := HI.out; rwa [List.take_of_length_le (by simp)] at this))
      go_wp2
      go_ret
      exact ⟨by rw [HF.out]; rfl, rfl⟩

def byAt (s : ByteArray) (i : Nat) : UInt8 := s.data.toList.getD i 0
theorem byAt_lt (s : ByteArray) (i : Nat) (h : i < s.size) : byAt s i = s[i] := by
  unfold byAt
  rw [List.getD_eq_getElem?_getD, List.getElem?_eq_getElem (by simpa using h)]; rfl
theorem byAt_ge (s : ByteArray) (i : Nat) (h : ¬ i < s.size) : byAt s i = 0 := by
  unfold byAt
  rw [List.getD_eq_getElem?_getD, List.getElem?_eq_none (by simpa using h)]; rfl
theorem rbyteAt_calls (s : ByteArray) (n : Int) (i : Nat) (hn : n = (i : Int)) (hs : s.size ≤ 2 ^ 63 - 1) (w : World) :
    Calls Try.prog 47 #[.string s, .int .i64 n] w fun e w' => e = .returned (.int .i64 ((byAt s i).toNat : Int)) ∧ w = w' := by
  subst hn
  by_cases h : i < s.size
  · have HF := Lib.hid (byAt_lt s i h)
    have hc := s[i].toNat_lt
    go_enter Try.func47, Try.ntmps47
    go_wp2
    go_ret
    exact ⟨by rw [HF.out]; rfl, rfl⟩
  · have HF := Lib.hid (byAt_ge s i h)
    go_enter Try.func47, Try.ntmps47
    go_wp2
    go_ret
    exact ⟨by rw [HF.out]; rfl, rfl⟩
end Go.Proofs.Ytaghjiffmondjaa
