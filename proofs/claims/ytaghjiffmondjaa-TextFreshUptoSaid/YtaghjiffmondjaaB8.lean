/-
  text.UnHex: what is read of every text; the tables of the alphabets.
-/
import Derived.Test.YtaghjiffmondjaaB7
set_option linter.unusedSimpArgs false
set_option linter.unusedVariables false
namespace Go.Proofs.Ytaghjiffmondjaa
open Go.RowKit

def SIGNS : ByteArray := ⟨#[65, 66, 67, 68, 69, 70, 71, 72, 73, 74, 75, 76, 77, 78, 79, 80, 81, 82, 83, 84, 85, 86, 87, 88, 89, 90, 97, 98, 99, 100, 101, 102, 103, 104, 105, 106, 107, 108, 109, 110, 111, 112, 113, 114, 115, 116, 117, 118, 119, 120, 121, 122, 48, 49, 50, 51, 52, 53, 54, 55, 56, 57, 43, 47]⟩
/-- which place a byte has in an alphabet, counted from 1; 0: none -/
def tb (a : ByteArray) (c : UInt8) : Nat := if a.data.toList.contains c then a.data.toList.idxOf c + 1 else 0
theorem tab_small : tabN 256 SMALL.data.toList 16 = (List.range 256).map fun n => Value.int .u8 ((tb SMALL (UInt8.ofNat n) : Nat) : Int) := by kernel_rfl
theorem tab_big : tabN 256 BIG.data.toList 16 = (List.range 256).map fun n => Value.int .u8 ((tb BIG (UInt8.ofNat n) : Nat) : Int) := by kernel_rfl
theorem tab_signs : tabN 256 SIGNS.data.toList 64 = (List.range 256).map fun n => Value.int .u8 ((tb SIGNS (UInt8.ofNat n) : Nat) : Int) := by kernel_rfl
theorem tb_le (a : ByteArray) (c : UInt8) : tb a c ≤ a.size := by
  unfold tb
  split
  · rename_i h
    have : a.data.toList.idxOf c < a.data.toList.length := List.idxOf_lt_length_of_mem (by simpa using h)
    have h2 : a.data.toList.length = a.size := by simp
    omega
  · omega
theorem tab_at {a : ByteArray} {n : Nat} (h : tabN 256 a.data.toList n = (List.range 256).map fun n => Value.int .u8 ((tb a (UInt8.ofNat n) : Nat) : Int)) (hn : a.size = n) (c : UInt8) : (tabA a a.size)[c.toNat]? = some (.int .u8 (tb a c)) := by
  unfold tabA
  rw [hn, h]
  have hc : c.toNat < 256 := c.toNat_lt
  simp [hc]

def unHex (s : ByteArray) : ByteArray × Int := if s.data.toList.all (fun c => tb SMALL c != 0) && s.size % 2 == 0 then (⟨(digRun 4 (tb SMALL) s.data.toList).2.2.toArray⟩, 0) else (⟨#[]⟩, 41)

theorem unHex_calls (s : ByteArray) (hs : s.size ≤ 140737488351232) (w : World) :
    Calls Try.prog 28 #[.string s] w fun e w' => e = .returned (.tuple #[.string (unHex s).1, .int .i64 (unHex s).2]) ∧ Below w.heap.size w w' := by
  go_enter Try.func28, Try.ntmps28
  go_wp2_with fail
  refine (tab SMALL w (by decide)).mono ?_
  rintro e w1 ⟨rfl, hb1⟩
  go_wp2_with fail
  refine (digits_calls 4 (.inl rfl) (tb SMALL) _ (fun c => ⟨tab_at tab_small rfl c, Nat.le_trans (tb_le _ _) (by decide)⟩) s hs w1).mono ?_
  rintro e w2 ⟨r, ok, rfl, hb2, hyes, hno⟩
  have HB := Lib.hid (hb1.trans (hb2.mono hb1.size))
  have HY := Lib.hid hyes
  have HN := Lib.hid hno
  clear hb1 hb2 hyes hno
  cases ok
  · have HF := Lib.hid (show unHex s = (⟨#[]⟩, 41) by
      unfold unHex
      obtain ⟨c, hc, h0⟩ := HN.out rfl
      have : s.data.toList.all (fun c => tb SMALL c != 0) = false := List.all_eq_false.2 ⟨c, hc, by simp [h0]⟩
      rw [this]; rfl)
    go_wp2
    go_ret2
    exact ⟨by rw [HF.out]; rfl, HB.out⟩
  · have hall : s.data.toList.all (fun c => tb SMALL c != 0) = true := List.all_eq_true.2 fun c hc => by simpa using (HY.out rfl).1 c hc
    by_cases h2 : s.size % 2 = 0
    · have HF := Lib.hid (show unHex s = (r, 0) by unfold unHex; rw [hall, (HY.out rfl).2]; simp [h2])
      have e1 : (((s.size : Int) % 2) != 0) = false := by simp; omega
      clear h2 hall
      go_wp2
      go_ret2
      exact ⟨by rw [HF.out]; rfl, HB.out⟩
    · have HF := Lib.hid (show unHex s = (⟨#[]⟩, 41) by unfold unHex; rw [hall]; simp [h2])
      have e1 : (((s.size : Int) % 2) != 0) = true := by simp; omega
      clear h2 hall
      go_wp2
      go_ret2
      exact ⟨by rw [HF.out]; rfl, HB.out⟩
end Go.Proofs.Ytaghjiffmondjaa
