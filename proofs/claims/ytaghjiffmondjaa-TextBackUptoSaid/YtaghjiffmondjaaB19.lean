/-
  the law TextBack, walked: it answers true.
-/
import Derived.Test.YtaghjiffmondjaaB18
set_option linter.unusedVariables false
set_option linter.unusedSimpArgs false
namespace Go.Proofs.Ytaghjiffmondjaa
open Go.RowKit

theorem b64_sz (s : ByteArray) : (b64 s).size ≤ 2 * s.size + 4 := by rw [b64_size]; omega
theorem hex_sz (s : ByteArray) : (hex s).size ≤ 2 * s.size + 4 := by rw [hex_size]; omega
theorem escape_sz (s : ByteArray) : (escape s).size ≤ 3 * s.size + 4 := by have := escape_len s; omega

set_option maxHeartbeats 4000000 in
set_option maxRecDepth 100000 in
theorem back_calls (s m : ByteArray) (hs : s.size ≤ 1048576) (hm : m.size ≤ 1048576) (w : World) :
    Calls Try.prog 11 #[.string s, .string m] w fun e w' => e = .returned (.bool true) ∧ Below w.heap.size w w' := by
  have HS := Lib.hid hs
  have HM := Lib.hid hm
  have HSM := Lib.hid (show (s ++ m).size ≤ 2097152 by rw [ByteArray.size_append]; omega)
  have HADD := Lib.hid (show s.size + m.size ≤ 9223372036854775807 by omega)
  clear hm
  go_enter Try.func11, Try.ntmps11
  go_wp2_with fail
  refine (b64_calls s (by have := HS.out; omega) w).mono ?_
  rintro e w1 ⟨rfl, hb⟩
  have HB1 := Lib.hid hb
  clear hb
  obtain ⟨A, hA⟩ : ∃ A, A = b64 s := ⟨_, rfl⟩
  rw [← hA]
  have HA := Lib.hid hA
  have HA1 := Lib.hid (show unB64 A = (s, 0) by rw [hA]; exact unB64_b64 s)
  have HA2 := Lib.hid (show A.size = (s.size + 2) / 3 * 4 by rw [hA]; exact b64_size s)
  have HA3 := Lib.hid (show amongB A AMONG4 = true by rw [hA]; exact among_b64 s)
  clear hA
  go_wp2_with fail
  refine (hex_calls s (by have := HS.out; omega) w1).mono ?_
  rintro e w2 ⟨rfl, hb⟩
  have HB2 := Lib.hid (HB1.out.trans (hb.mono HB1.out.size))
  clear hb
  obtain ⟨X, hX⟩ : ∃ X, X = hex s := ⟨_, rfl⟩
  rw [← hX]
  have HX := Lib.hid hX
  have HX1 := Lib.hid (show unHex X = (s, 0) by rw [hX]; exact unHex_hex s)
  have HX2 := Lib.hid (show X.size = 2 * s.size by rw [hX]; exact hex_size s)
  have HX3 := Lib.hid (show amongB X SMALL = true by rw [hX]; exact among_hex s)
  clear hX
  go_wp2_with fail
  refine (escape_calls s (by have := HS.out; omega) w2).mono ?_
  rintro e w3 ⟨rfl, hb⟩
  have HB3 := Lib.hid (HB2.out.trans (hb.mono HB2.out.size))
  clear hb
  obtain ⟨C, hC⟩ : ∃ C, C = escape s := ⟨_, rfl⟩
  rw [← hC]
  have HC := Lib.hid hC
  have HC1 := Lib.hid (show unescape C = (s, 0) by rw [hC]; exact unescape_escape s)
  have HC2 := Lib.hid (show C.size ≤ 3 * s.size + 1 by rw [hC]; exact escape_len s)
  have HC3 := Lib.hid (show ∀ x ∈ C.data.toList, 32 < x.toNat ∧ x.toNat < 127 by rw [hC]; exact escape_byte s)
  have HC4 := Lib.hid (show C.size ≠ 0 by rw [hC]; exact escape_size s)
  clear hC
  go_wp2_with fail
  refine (unB64_calls A (by have := HS.out; have := HA2.out; omega) w3).mono ?_
  rintro e w4 ⟨rfl, hb⟩
  rw [HA1.out]
  have HB4 := Lib.hid (HB3.out.trans (hb.mono HB3.out.size))
  clear hb
  go_wp2_with fail
  refine (unHex_calls X (by have := HS.out; have := HX2.out; omega) w4).mono ?_
  rintro e w5 ⟨rfl, hb⟩
  rw [HX1.out]
  have HB5 := Lib.hid (HB4.out.trans (hb.mono HB4.out.size))
  clear hb
  go_wp2_with fail
  refine (unescape_calls C (by have := HS.out; have := HC2.out; omega) w5).mono ?_
  rintro e w6 ⟨rfl, hb⟩
  rw [HC1.out]
  have HB6 := Lib.hid (HB5.out.trans (hb.mono HB5.out.size))
  clear hb
  have t1 := str_eq s
  go_wp2_with fail
  refine (among_calls A AMONG4 (by have := HS.out; have := HA2.out; omega) (by decide) w6).mono ?_
  rintro e w7 ⟨rfl, hb⟩
  rw [HA3.out]
  have HB7 := Lib.hid (HB6.out.trans (hb.mono HB6.out.size))
  clear hb
  go_wp2_with fail
  refine (among_calls X SMALL (by have := HS.out; have := HX2.out; omega) (by decide) w7).mono ?_
  rintro e w8 ⟨rfl, hb⟩
  rw [HX3.out]
  have HB8 := Lib.hid (HB7.out.trans (hb.mono HB7.out.size))
  clear hb
  go_wp2
  have hcs : C.size ≤ 2 ^ 63 - 1 := by have := HC2.out; have := HS.out; omega
  go_loopw [16] (fun iv wr => ∃ i : Nat, iv = .int .i64 i ∧ i ≤ C.size ∧ w8 = wr) (fun iv _ => C.size - (intOf iv).toNat)
  case atStart => exact ⟨0, rfl, by omega, rfl⟩
  case round =>
    obtain ⟨i, rfl, hi, rfl⟩ := hrel
    by_cases hlt : i < C.size
    · have hx := HC3.out C[i] (List.getElem_mem (l := C.data.toList) (by simpa using hlt))
      have k1 : decide ((C[i].toNat : Int) < 33) = false := by simp; omega
      have k2 : decide ((126 : Int) < (C[i].toNat : Int)) = false := by simp; omega
      go_wp2
      exact ⟨⟨i + 1, by go_num, by omega, trivial⟩, by simp [intOf]; omega⟩
    · obtain rfl : i = C.size := by omega
      have k1 : decide ((A.size : Int) = ((s.size : Int) + 2) / 3 * 4) = true := by rw [HA2.out]; simp
      have k2 : decide ((X.size : Int) = 2 * (s.size : Int)) = true := by rw [HX2.out]; simp
      have k3 : C.toList.isEmpty = false := isEmpty_of_size HC4.out
      obtain ⟨T, hT⟩ : ∃ T, T = s ++ m := ⟨_, rfl⟩
      have a1 := fun (w : World) => run_string_add_sum (P := Try.prog) (w := w) s m HADD.out
      rw [← hT] at a1 HSM
      have HT := Lib.hid hT
      clear hT
      by_cases h1 : s.size = 0
      · have e1 : s.toList = [] := toList_of_size h1
        have k4 : ((s.size : Int) % 3 == 0) = true := by rw [h1]; rfl
        have H3 := Lib.hid (show s.size % 3 = 0 by rw [h1])
        clear h1
        go_wp2_with fail
        all_goals try (exfalso; have := HA2.out; have := HX2.out; omega)
        refine (b64_calls T (by have := HSM.out; omega) _).mono ?_
        rintro e wpa ⟨rfl, hb⟩
        have HBwpa := Lib.hid (HB8.out.trans (hb.mono HB8.out.size))
        clear hb
        go_wp2_with fail
        refine (b64_calls m (by have := HM.out; omega) _).mono ?_
        rintro e wpb ⟨rfl, hb⟩
        have HBwpb := Lib.hid (HBwpa.out.trans (hb.mono HBwpa.out.size))
        clear hb
        have hq : b64 T = A ++ b64 m := by rw [HT.out, HA.out]; exact b64_app s m H3.out
        have hsum : A.size + (b64 m).size ≤ 9223372036854775807 := by rw [← ByteArray.size_append, ← hq]; have := HSM.out; have := b64_sz T; omega
        obtain ⟨Mwp, hM⟩ : ∃ M, M = b64 m := ⟨_, rfl⟩
        rw [hq]
        rw [← hM] at hsum ⊢
        have a2 := fun (w : World) => run_string_add_sum (P := Try.prog) (w := w) A Mwp hsum
        have t2 := str_eq (A ++ Mwp)
        clear hq hM hsum
        go_wp2_with fail
        clear a2 t2
        refine (hex_calls T (by have := HSM.out; omega) _).mono ?_
        rintro e wra ⟨rfl, hb⟩
        have HBwra := Lib.hid (HBwpb.out.trans (hb.mono HBwpb.out.size))
        clear hb
        go_wp2_with fail
        refine (hex_calls m (by have := HM.out; omega) _).mono ?_
        rintro e wrb ⟨rfl, hb⟩
        have HBwrb := Lib.hid (HBwra.out.trans (hb.mono HBwra.out.size))
        clear hb
        have hq : hex T = X ++ hex m := by rw [HT.out, HX.out]; exact hex_app s m
        have hsum : X.size + (hex m).size ≤ 9223372036854775807 := by rw [← ByteArray.size_append, ← hq]; have := HSM.out; have := hex_sz T; omega
        obtain ⟨Mwr, hM⟩ : ∃ M, M = hex m := ⟨_, rfl⟩
        rw [hq]
        rw [← hM] at hsum ⊢
        have a2 := fun (w : World) => run_string_add_sum (P := Try.prog) (w := w) X Mwr hsum
        have t2 := str_eq (X ++ Mwr)
        clear hq hM hsum
        go_wp2
        go_ret
        exact ⟨rfl, HBwrb.out⟩
      · have e1 : s.toList.isEmpty = false := isEmpty_of_size h1
        have HE1 := Lib.hid h1
        clear h1
        by_cases h2 : m.size = 0
        · have e2 : m.toList = [] := toList_of_size h2
          clear h2
          by_cases h3 : s.size % 3 = 0
          · have k4 : ((s.size : Int) % 3 == 0) = true := by simp; omega
            have H3 := Lib.hid h3
            clear h3
            go_wp2_with fail
            all_goals try (exfalso; have := HA2.out; have := HX2.out; omega)
            refine (b64_calls T (by have := HSM.out; omega) _).mono ?_
            rintro e wpa ⟨rfl, hb⟩
            have HBwpa := Lib.hid (HB8.out.trans (hb.mono HB8.out.size))
            clear hb
            go_wp2_with fail
            refine (b64_calls m (by have := HM.out; omega) _).mono ?_
            rintro e wpb ⟨rfl, hb⟩
            have HBwpb := Lib.hid (HBwpa.out.trans (hb.mono HBwpa.out.size))
            clear hb
            have hq : b64 T = A ++ b64 m := by rw [HT.out, HA.out]; exact b64_app s m H3.out
            have hsum : A.size + (b64 m).size ≤ 9223372036854775807 := by rw [← ByteArray.size_append, ← hq]; have := HSM.out; have := b64_sz T; omega
            obtain ⟨Mwp, hM⟩ : ∃ M, M = b64 m := ⟨_, rfl⟩
            rw [hq]
            rw [← hM] at hsum ⊢
            have a2 := fun (w : World) => run_string_add_sum (P := Try.prog) (w := w) A Mwp hsum
            have t2 := str_eq (A ++ Mwp)
            clear hq hM hsum
            go_wp2_with fail
            clear a2 t2
            refine (hex_calls T (by have := HSM.out; omega) _).mono ?_
            rintro e wra ⟨rfl, hb⟩
            have HBwra := Lib.hid (HBwpb.out.trans (hb.mono HBwpb.out.size))
            clear hb
            go_wp2_with fail
            refine (hex_calls m (by have := HM.out; omega) _).mono ?_
            rintro e wrb ⟨rfl, hb⟩
            have HBwrb := Lib.hid (HBwra.out.trans (hb.mono HBwra.out.size))
            clear hb
            have hq : hex T = X ++ hex m := by rw [HT.out, HX.out]; exact hex_app s m
            have hsum : X.size + (hex m).size ≤ 9223372036854775807 := by rw [← ByteArray.size_append, ← hq]; have := HSM.out; have := hex_sz T; omega
            obtain ⟨Mwr, hM⟩ : ∃ M, M = hex m := ⟨_, rfl⟩
            rw [hq]
            rw [← hM] at hsum ⊢
            have a2 := fun (w : World) => run_string_add_sum (P := Try.prog) (w := w) X Mwr hsum
            have t2 := str_eq (X ++ Mwr)
            clear hq hM hsum
            go_wp2
            go_ret
            exact ⟨rfl, HBwrb.out⟩
          · have k4 : ((s.size : Int) % 3 == 0) = false := by simp; omega
            clear h3
            go_wp2_with fail
            all_goals try (exfalso; have := HA2.out; have := HX2.out; omega)
            refine (hex_calls T (by have := HSM.out; omega) _).mono ?_
            rintro e wra ⟨rfl, hb⟩
            have HBwra := Lib.hid (HB8.out.trans (hb.mono HB8.out.size))
            clear hb
            go_wp2_with fail
            refine (hex_calls m (by have := HM.out; omega) _).mono ?_
            rintro e wrb ⟨rfl, hb⟩
            have HBwrb := Lib.hid (HBwra.out.trans (hb.mono HBwra.out.size))
            clear hb
            have hq : hex T = X ++ hex m := by rw [HT.out, HX.out]; exact hex_app s m
            have hsum : X.size + (hex m).size ≤ 9223372036854775807 := by rw [← ByteArray.size_append, ← hq]; have := HSM.out; have := hex_sz T; omega
            obtain ⟨Mwr, hM⟩ : ∃ M, M = hex m := ⟨_, rfl⟩
            rw [hq]
            rw [← hM] at hsum ⊢
            have a2 := fun (w : World) => run_string_add_sum (P := Try.prog) (w := w) X Mwr hsum
            have t2 := str_eq (X ++ Mwr)
            clear hq hM hsum
            go_wp2
            go_ret
            exact ⟨rfl, HBwrb.out⟩
        · have e2 : m.toList.isEmpty = false := isEmpty_of_size h2
          have HE2 := Lib.hid h2
          clear h2
          by_cases h3 : s.size % 3 = 0
          · have k4 : ((s.size : Int) % 3 == 0) = true := by simp; omega
            have H3 := Lib.hid h3
            clear h3
            go_wp2_with fail
            all_goals try (exfalso; have := HA2.out; have := HX2.out; omega)
            refine (b64_calls T (by have := HSM.out; omega) _).mono ?_
            rintro e wpa ⟨rfl, hb⟩
            have HBwpa := Lib.hid (HB8.out.trans (hb.mono HB8.out.size))
            clear hb
            go_wp2_with fail
            refine (b64_calls m (by have := HM.out; omega) _).mono ?_
            rintro e wpb ⟨rfl, hb⟩
            have HBwpb := Lib.hid (HBwpa.out.trans (hb.mono HBwpa.out.size))
            clear hb
            have hq : b64 T = A ++ b64 m := by rw [HT.out, HA.out]; exact b64_app s m H3.out
            have hsum : A.size + (b64 m).size ≤ 9223372036854775807 := by rw [← ByteArray.size_append, ← hq]; have := HSM.out; have := b64_sz T; omega
            obtain ⟨Mwp, hM⟩ : ∃ M, M = b64 m := ⟨_, rfl⟩
            rw [hq]
            rw [← hM] at hsum ⊢
            have a2 := fun (w : World) => run_string_add_sum (P := Try.prog) (w := w) A Mwp hsum
            have t2 := str_eq (A ++ Mwp)
            clear hq hM hsum
            go_wp2_with fail
            clear a2 t2
            refine (escape_calls T (by have := HSM.out; omega) _).mono ?_
            rintro e wqa ⟨rfl, hb⟩
            have HBwqa := Lib.hid (HBwpb.out.trans (hb.mono HBwpb.out.size))
            clear hb
            go_wp2_with fail
            refine (escape_calls m (by have := HM.out; omega) _).mono ?_
            rintro e wqb ⟨rfl, hb⟩
            have HBwqb := Lib.hid (HBwqa.out.trans (hb.mono HBwqa.out.size))
            clear hb
            have hq : escape T = C ++ escape m := by rw [HT.out, HC.out]; exact escape_app s m HE1.out HE2.out
            have hsum : C.size + (escape m).size ≤ 9223372036854775807 := by rw [← ByteArray.size_append, ← hq]; have := HSM.out; have := escape_sz T; omega
            obtain ⟨Mwq, hM⟩ : ∃ M, M = escape m := ⟨_, rfl⟩
            rw [hq]
            rw [← hM] at hsum ⊢
            have a2 := fun (w : World) => run_string_add_sum (P := Try.prog) (w := w) C Mwq hsum
            have t2 := str_eq (C ++ Mwq)
            clear hq hM hsum
            go_wp2_with fail
            clear a2 t2
            refine (hex_calls T (by have := HSM.out; omega) _).mono ?_
            rintro e wra ⟨rfl, hb⟩
            have HBwra := Lib.hid (HBwqb.out.trans (hb.mono HBwqb.out.size))
            clear hb
            go_wp2_with fail
            refine (hex_calls m (by have := HM.out; omega) _).mono ?_
            rintro e wrb ⟨rfl, hb⟩
            have HBwrb := Lib.hid (HBwra.out.trans (hb.mono HBwra.out.size))
            clear hb
            have hq : hex T = X ++ hex m := by rw [HT.out, HX.out]; exact hex_app s m
            have hsum : X.size + (hex m).size ≤ 9223372036854775807 := by rw [← ByteArray.size_append, ← hq]; have := HSM.out; have := hex_sz T; omega
            obtain ⟨Mwr, hM⟩ : ∃ M, M = hex m := ⟨_, rfl⟩
            rw [hq]
            rw [← hM] at hsum ⊢
            have a2 := fun (w : World) => run_string_add_sum (P := Try.prog) (w := w) X Mwr hsum
            have t2 := str_eq (X ++ Mwr)
            clear hq hM hsum
            go_wp2
            go_ret
            exact ⟨rfl, HBwrb.out⟩
          · have k4 : ((s.size : Int) % 3 == 0) = false := by simp; omega
            clear h3
            go_wp2_with fail
            all_goals try (exfalso; have := HA2.out; have := HX2.out; omega)
            refine (escape_calls T (by have := HSM.out; omega) _).mono ?_
            rintro e wqa ⟨rfl, hb⟩
            have HBwqa := Lib.hid (HB8.out.trans (hb.mono HB8.out.size))
            clear hb
            go_wp2_with fail
            refine (escape_calls m (by have := HM.out; omega) _).mono ?_
            rintro e wqb ⟨rfl, hb⟩
            have HBwqb := Lib.hid (HBwqa.out.trans (hb.mono HBwqa.out.size))
            clear hb
            have hq : escape T = C ++ escape m := by rw [HT.out, HC.out]; exact escape_app s m HE1.out HE2.out
            have hsum : C.size + (escape m).size ≤ 9223372036854775807 := by rw [← ByteArray.size_append, ← hq]; have := HSM.out; have := escape_sz T; omega
            obtain ⟨Mwq, hM⟩ : ∃ M, M = escape m := ⟨_, rfl⟩
            rw [hq]
            rw [← hM] at hsum ⊢
            have a2 := fun (w : World) => run_string_add_sum (P := Try.prog) (w := w) C Mwq hsum
            have t2 := str_eq (C ++ Mwq)
            clear hq hM hsum
            go_wp2_with fail
            clear a2 t2
            refine (hex_calls T (by have := HSM.out; omega) _).mono ?_
            rintro e wra ⟨rfl, hb⟩
            have HBwra := Lib.hid (HBwqb.out.trans (hb.mono HBwqb.out.size))
            clear hb
            go_wp2_with fail
            refine (hex_calls m (by have := HM.out; omega) _).mono ?_
            rintro e wrb ⟨rfl, hb⟩
            have HBwrb := Lib.hid (HBwra.out.trans (hb.mono HBwra.out.size))
            clear hb
            have hq : hex T = X ++ hex m := by rw [HT.out, HX.out]; exact hex_app s m
            have hsum : X.size + (hex m).size ≤ 9223372036854775807 := by rw [← ByteArray.size_append, ← hq]; have := HSM.out; have := hex_sz T; omega
            obtain ⟨Mwr, hM⟩ : ∃ M, M = hex m := ⟨_, rfl⟩
            rw [hq]
            rw [← hM] at hsum ⊢
            have a2 := fun (w : World) => run_string_add_sum (P := Try.prog) (w := w) X Mwr hsum
            have t2 := str_eq (X ++ Mwr)
            clear hq hM hsum
            go_wp2
            go_ret
            exact ⟨rfl, HBwrb.out⟩
end Go.Proofs.Ytaghjiffmondjaa
