/-
  the law TextBytes, walked: it answers true.
-/
import Derived.Test.YtaghjiffmondjaaB34
set_option linter.unusedVariables false
set_option linter.unusedSimpArgs false
namespace Go.Proofs.Ytaghjiffmondjaa
open Go.RowKit


set_option maxHeartbeats 1000000 in
set_option maxRecDepth 100000 in
theorem bytes_calls (s : ByteArray) (hs : s.size ≤ 1048576) (w : World) :
    Calls Try.prog 7 #[.string s] w fun e w' => e = .returned (.bool true) ∧ Below w.heap.size w w' := by
  have HS := Lib.hid hs
  have HB0 := Lib.hid (Below.refl w.heap.size w)
  clear hs
  go_enter Try.func7, Try.ntmps7
  go_wp2_with fail
  refine (b64_calls s (by have := HS.out; omega) w).mono ?_
  rintro e w1 ⟨rfl, hb⟩
  have HB1 := Lib.hid (HB0.out.trans (hb.mono HB0.out.size))
  clear hb
  go_wp2_with fail
  refine (rB64_calls s (by have := HS.out; omega) w1).mono ?_
  rintro e w2 ⟨rfl, hb⟩
  have HB2 := Lib.hid (HB1.out.trans (hb.mono HB1.out.size))
  clear hb
  have tD := str_eq (b64 s)
  generalize b64 s = D at tD ⊢
  go_wp2_with fail
  refine (hex_calls s (by have := HS.out; omega) w2).mono ?_
  rintro e w3 ⟨rfl, hb⟩
  have HB3 := Lib.hid (HB2.out.trans (hb.mono HB2.out.size))
  clear hb
  go_wp2_with fail
  refine (rHex_calls s (by have := HS.out; omega) w3).mono ?_
  rintro e w4 ⟨rfl, hb⟩
  have HB4 := Lib.hid (HB3.out.trans (hb.mono HB3.out.size))
  clear hb
  have tE := str_eq (hex s)
  generalize hex s = E at tE ⊢
  go_wp2_with fail
  refine (unB64_calls s (by have := HS.out; omega) w4).mono ?_
  rintro e w5 ⟨rfl, hb⟩
  have HB5 := Lib.hid (HB4.out.trans (hb.mono HB4.out.size))
  clear hb
  go_wp2_with fail
  refine (rUnB64_calls s (by have := HS.out; omega) w5).mono ?_
  rintro e w6 ⟨rfl, hb⟩
  have HB6 := Lib.hid (HB5.out.trans (hb.mono HB5.out.size))
  clear hb
  have tU := str_eq (unB64 s).1
  generalize (unB64 s).1 = U1 at tU ⊢
  generalize (unB64 s).2 = U2
  go_wp2_with fail
  refine (unHex_calls s (by have := HS.out; omega) w6).mono ?_
  rintro e w7 ⟨rfl, hb⟩
  have HB7 := Lib.hid (HB6.out.trans (hb.mono HB6.out.size))
  clear hb
  go_wp2_with fail
  refine (rUnHex_calls s (by have := HS.out; omega) w7).mono ?_
  rintro e w8 ⟨rfl, hb⟩
  have HB8 := Lib.hid (HB7.out.trans (hb.mono HB7.out.size))
  clear hb
  have tV := str_eq (unHex s).1
  generalize (unHex s).1 = V1 at tV ⊢
  generalize (unHex s).2 = V2
  go_wp2
  go_ret
  exact ⟨rfl, HB8.out⟩
end Go.Proofs.Ytaghjiffmondjaa
