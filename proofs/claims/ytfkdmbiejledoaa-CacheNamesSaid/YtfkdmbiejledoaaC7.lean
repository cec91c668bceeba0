/-
  the law CacheNames, walked: it answers true.
-/
import Derived.Test.YtfkdmbiejledoaaC6
set_option linter.unusedVariables false
set_option linter.unusedSimpArgs false
namespace Go.Proofs.Ytfkdmbiejledoaa
open Go.RowKit


set_option maxHeartbeats 1000000 in
set_option maxRecDepth 100000 in
theorem names_calls (w : World) : Calls Try.prog 3 #[] w fun e w' => e = .returned (.bool true) ∧ Below w.heap.size w w' := by
  go_enter Try.func3, Try.ntmps3
  go_wp2_with fail
  refine (newS_no (-1) (.inl (by omega)) w).mono ?_
  rintro e w1 ⟨rfl, rfl⟩
  go_wp2_with fail
  refine (newB_no 4097 (.inr (by omega)) w).mono ?_
  rintro e w1 ⟨rfl, rfl⟩
  go_wp2_with fail
  refine (newI_no 4611686018427387904 (.inr (by omega)) w).mono ?_
  rintro e w1 ⟨rfl, rfl⟩
  go_wp2_with fail
  refine (newS_calls 0 (by omega) (by omega) w).mono ?_
  rintro e w1 ⟨c, m, h, rfl, _, _, _, _, hb⟩
  have HB := Lib.hid hb
  clear hb
  go_wp2_with fail
  refine (newL_calls 4096 (by omega) (by omega) w1).mono ?_
  rintro e w2 ⟨c2, rfl, hb⟩
  have HB2 := Lib.hid (HB.out.trans (hb.mono HB.out.size))
  clear hb
  go_wp2
  go_ret
  exact ⟨rfl, HB2.out⟩
end Go.Proofs.Ytfkdmbiejledoaa
