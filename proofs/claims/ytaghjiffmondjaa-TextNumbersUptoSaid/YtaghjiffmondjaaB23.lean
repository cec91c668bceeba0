/-
  the law TextNumbers, walked: it answers true.
-/
import Derived.Test.YtaghjiffmondjaaB22
set_option linter.unusedVariables false
set_option linter.unusedSimpArgs false
namespace Go.Proofs.Ytaghjiffmondjaa
open Go.RowKit

set_option maxHeartbeats 1000000 in
set_option maxRecDepth 100000 in
theorem numbers_calls (k : Int) (s : ByteArray) (hk : -9223372036854775808 ≤ k ∧ k ≤ 9223372036854775807) (hs : s.size ≤ 140737488351232) (w : World) :
    Calls Try.prog 6 #[.int .i64 k, .string s] w fun e w' => e = .returned (.bool true) ∧ Below w.heap.size w w' := by
  have HS := Lib.hid hs
  have HK := Lib.hid (show -9223372036854775808 ≤ k ∧ k < 9223372036854775808 by omega)
  clear hs hk
  go_enter Try.func6, Try.ntmps6
  go_wp2_with fail
  refine (dec_calls k HK.out w).mono ?_
  rintro e w1 ⟨rfl, hb⟩
  have HB1 := Lib.hid hb
  clear hb
  go_wp2_with fail
  refine (rdec_calls 20 k HK.out (by have := HK.out; omega) w1).mono ?_
  rintro e w2 ⟨rfl, hb⟩
  have HB2 := Lib.hid (HB1.out.trans (hb.mono HB1.out.size))
  clear hb
  have t1 := str_eq (dec k)
  generalize dec k = D at t1 ⊢
  go_wp2_with fail
  refine (unDec_calls s HS.out w2).mono ?_
  rintro e w3 ⟨rfl, hb⟩
  have HB3 := Lib.hid (HB2.out.trans (hb.mono HB2.out.size))
  clear hb
  go_wp2_with fail
  refine (rUnDec_calls s HS.out w3).mono ?_
  rintro e w4 ⟨rfl, hb⟩
  have HB4 := Lib.hid (HB3.out.trans (hb.mono HB3.out.size))
  clear hb
  rw [rUnDec_eq]
  generalize (unDec s).1 = x
  generalize (unDec s).2 = y
  go_wp2
  go_ret
  exact ⟨rfl, HB4.out⟩
end Go.Proofs.Ytaghjiffmondjaa
