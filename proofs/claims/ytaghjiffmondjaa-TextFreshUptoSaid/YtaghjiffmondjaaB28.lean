/-
  the document's own Name.
-/
import Derived.Test.YtaghjiffmondjaaB21
set_option linter.unusedVariables false
set_option linter.unusedSimpArgs false
namespace Go.Proofs.Ytaghjiffmondjaa
open Go.RowKit

theorem nameB_iff (c : UInt8) : nameB c = decide (33 ≤ c.toNat ∧ c.toNat ≤ 126 ∧ c.toNat ≠ 43) := by
  have := all_u8 (p := fun c => nameB c == decide (33 ≤ c.toNat ∧ c.toNat ≤ 126 ∧ c.toNat ≠ 43)) (by kernel_rfl) c
  simpa using this
set_option maxHeartbeats 1000000 in
set_option maxRecDepth 100000 in
theorem rName_calls (s : ByteArray) (hs : s.size ≤ 2 ^ 63 - 1) (w : World) :
    Calls Try.prog 33 #[.string s] w fun e w' => e = .returned (.bool (nameOk s)) ∧ w = w' := by
  go_enter Try.func33, Try.ntmps33
  go_wp2
  go_loopw [3] (fun iv wr => ∃ i : Nat, iv = .int .i64 i ∧ i ≤ s.size ∧ Hid ((s.data.toList.take i).all nameB = true) ∧ w = wr) (fun iv _ => s.size - (intOf iv).toNat)
  case atStart => exact ⟨0, rfl, by omega, Lib.hid rfl, rfl⟩
  case round =>
    obtain ⟨i, rfl, hi, HI, rfl⟩ := hrel
    by_cases hlt : i < s.size
    · have HST := Lib.hid (take_snoc s i hlt)
      have HNB := Lib.hid (nameB_iff s[i])
      have HMEM := Lib.hid (show s[i] ∈ s.data.toList from List.getElem_mem (l := s.data.toList) (by simpa using hlt))
      have hc := s[i].toNat_lt
      by_cases h1 : s[i].toNat < 33
      · have k1 : decide ((s[i].toNat : Int) < 33) = true := by simp; omega
        have HF := Lib.hid (show nameOk s = false by
          unfold nameOk
          rw [List.all_eq_false.2 ⟨s[i], HMEM.out, by rw [HNB.out]; simp; omega⟩, Bool.and_false])
        clear h1
        go_wp2
        go_ret
        exact ⟨by rw [HF.out]; rfl, rfl⟩
      · have k1 : decide ((s[i].toNat : Int) < 33) = false := by simp; omega
        by_cases h2 : 126 < s[i].toNat
        · have k2 : decide ((126 : Int) < (s[i].toNat : Int)) = true := by simp; omega
          have HF := Lib.hid (show nameOk s = false by
            unfold nameOk
            rw [List.all_eq_false.2 ⟨s[i], HMEM.out, by rw [HNB.out]; simp; omega⟩, Bool.and_false])
          clear h1 h2
          go_wp2
          go_ret
          exact ⟨by rw [HF.out]; rfl, rfl⟩
        · have k2 : decide ((126 : Int) < (s[i].toNat : Int)) = false := by simp; omega
          by_cases h3 : s[i].toNat = 43
          · have k3 : ((s[i].toNat : Int) == 43) = true := by rw [h3]; rfl
            have HF := Lib.hid (show nameOk s = false by
              unfold nameOk
              rw [List.all_eq_false.2 ⟨s[i], HMEM.out, by rw [HNB.out]; simp; omega⟩, Bool.and_false])
            clear h1 h2 h3
            go_wp2
            go_ret
            exact ⟨by rw [HF.out]; rfl, rfl⟩
          · have k3 : ((s[i].toNat : Int) == 43) = false := by rw [beq_eq_false_iff_ne]; omega
            have HOK := Lib.hid (show nameB s[i] = true by rw [HNB.out]; simp; omega)
            clear h1 h2 h3
            go_wp2
            exact ⟨⟨i + 1, by go_num, by omega, Lib.hid (by rw [HST.out, List.all_append, HI.out]; simp [HOK.out]), trivial⟩, by simp [intOf]; omega⟩
    · obtain rfl : i = s.size := by omega
      have HALL := Lib.hid (show s.data.toList.all nameB = true by have := HI.out; rwa [List.take_of_length_le (by simp)] at this)
      have HF := Lib.hid (show nameOk s = decide (1 ≤ s.size ∧ s.size ≤ 64) by unfold nameOk; rw [HALL.out, Bool.and_true])
      by_cases h1 : 1 ≤ s.size
      · have HG := Lib.hid (show nameOk s = decide ((s.size : Int) ≤ 64) by
          rw [HF.out]
          by_cases h2 : s.size ≤ 64
          · rw [decide_eq_true ⟨h1, h2⟩, decide_eq_true (by omega)]
          · rw [decide_eq_false (fun h => h2 h.2), decide_eq_false (by omega)])
        go_wp2
        go_ret
        exact ⟨by rw [HG.out]; rfl, rfl⟩
      · have HG := Lib.hid (show nameOk s = false by rw [HF.out]; simp; omega)
        have k1 : decide ((1 : Int) ≤ (s.size : Int)) = false := by simp; omega
        go_wp2
        go_ret
        exact ⟨by rw [HG.out]; rfl, rfl⟩
end Go.Proofs.Ytaghjiffmondjaa
