/-
  The walks of the closures of package text.
-/
import Derived.Test.YtaghjiffmondjaaB0
set_option linter.unusedVariables false
set_option linter.unusedSimpArgs false
namespace Go.Proofs.Ytaghjiffmondjaa
open Go.RowKit
def nameB (c : UInt8) : Bool := decide (32 < c.toNat ∧ c.toNat < 127 ∧ c.toNat ≠ 43)
theorem name1_calls (c : UInt8) (w : World) :
    Calls Try.prog 53 #[.int .u8 (c.toNat : Int)] w fun e w' => e = .returned (.bool (nameB c)) ∧ w = w' := by
  have hc : (c.toNat : Int) < 256 := by have := c.toNat_lt; omega
  have key : ∀ b, nameB c = b → Calls Try.prog 53 #[.int .u8 (c.toNat : Int)] w fun e w' => e = .returned (.bool b) ∧ w = w' := by
    intro b hb
    by_cases h1 : 32 < c.toNat
    · by_cases h2 : c.toNat < 127
      · by_cases h3 : c.toNat = 43
        · have hb' : b = false := by rw [← hb]; simp [nameB, h3]
          subst hb'
          clear hb
          have e1 : decide (32 < (c.toNat : Int)) = true := by simp; omega
          have e2 : decide ((c.toNat : Int) < 127) = true := by simp; omega
          have e3 : ((c.toNat : Int) != 43) = false := by simp; omega
          clear h1 h2 h3
          go_enter Try.func53, Try.ntmps53
          go_wp2
          go_ret
          exact ⟨rfl, rfl⟩
        · have hb' : b = true := by rw [← hb]; simp [nameB, h1, h2, h3]
          subst hb'
          clear hb
          have e1 : decide (32 < (c.toNat : Int)) = true := by simp; omega
          have e2 : decide ((c.toNat : Int) < 127) = true := by simp; omega
          have e3 : ((c.toNat : Int) != 43) = true := by simp; omega
          clear h1 h2 h3
          go_enter Try.func53, Try.ntmps53
          go_wp2
          go_ret
          exact ⟨rfl, rfl⟩
      · have hb' : b = false := by rw [← hb]; simp [nameB, h2]
        subst hb'
        clear hb
        have e1 : decide (32 < (c.toNat : Int)) = true := by simp; omega
        have e2 : decide ((c.toNat : Int) < 127) = false := by simp; omega
        clear h1 h2
        go_enter Try.func53, Try.ntmps53
        go_wp2
        go_ret
        exact ⟨rfl, rfl⟩
    · have hb' : b = false := by rw [← hb]; simp [nameB, h1]
      subst hb'
      clear hb
      have e1 : decide (32 < (c.toNat : Int)) = false := by simp; omega
      clear h1
      go_enter Try.func53, Try.ntmps53
      go_wp2
      go_ret
      exact ⟨rfl, rfl⟩
  exact key _ rfl
end Go.Proofs.Ytaghjiffmondjaa
