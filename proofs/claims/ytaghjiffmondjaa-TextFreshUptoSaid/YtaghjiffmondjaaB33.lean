/-
  the document's own B64.
-/
import Derived.Test.YtaghjiffmondjaaB32
set_option linter.unusedVariables false
set_option linter.unusedSimpArgs false
namespace Go.Proofs.Ytaghjiffmondjaa
open Go.RowKit


def v3 (s : ByteArray) (i : Nat) : Nat := val3 (byAt s i) (byAt s (i + 1)) (byAt s (i + 2))
def f4 (v : Nat) : ByteArray := mk [dg SIGNS (v / 262144 % 64)] ++ mk [dg SIGNS (v / 4096 % 64)] ++ mk [dg SIGNS (v / 64 % 64)] ++ mk [dg SIGNS (v % 64)]
theorem f4_eq (v : Nat) : f4 v = mk [sg v 0, sg v 1, sg v 2, sg v 3] := by
  unfold f4; rw [mk_app, mk_app, mk_app]
  have e0 : sg v 0 = dg SIGNS (v / 262144 % 64) := rfl
  have e1 : sg v 1 = dg SIGNS (v / 4096 % 64) := rfl
  have e2 : sg v 2 = dg SIGNS (v / 64 % 64) := rfl
  have e3 : sg v 3 = dg SIGNS (v % 64) := by unfold sg; rw [show 18 - 6 * 3 = 0 from rfl, Nat.pow_zero, Nat.div_one]
  rw [e0, e1, e2, e3]; rfl
theorem f4_size (v : Nat) : (f4 v).size = 4 := by rw [f4_eq]; rfl
theorem drop_getD (s : ByteArray) (i k : Nat) : (s.data.toList.drop i).getD k 0 = byAt s (i + k) := by
  unfold byAt
  rw [List.getD_eq_getElem?_getD, List.getD_eq_getElem?_getD, List.getElem?_drop]
theorem b64_at (s : ByteArray) (i : Nat) (h : i < s.size) : b64L (s.data.toList.drop i) = four (Nat.min (s.size - i) 3) (v3 s i) ++ b64L (s.data.toList.drop (i + 3)) := by
  rw [b64L_step _ (by rw [drop_at s i h]; simp), List.drop_drop]
  unfold fourOf by3 v3
  rw [drop_getD, drop_getD, drop_getD, List.length_drop]
  simp
theorem b64_rest (s acc q : ByteArray) (i : Nat) (h : i < s.size) (ha : b64L s.data.toList = acc.data.toList ++ b64L (s.data.toList.drop i)) (hq : q.data.toList = four (Nat.min (s.size - i) 3) (v3 s i)) :
    b64L s.data.toList = (acc ++ q).data.toList ++ b64L (s.data.toList.drop (i + 3)) := by
  rw [ha, b64_at s i h, ← hq, ByteArray.data_append]; simp
theorem pad1 (v : Nat) : ((f4 v).extract 0 2 ++ ⟨#[61, 61]⟩).data.toList = four 1 v := by rw [f4_eq]; rfl
theorem pad2 (v : Nat) : ((f4 v).extract 0 3 ++ ⟨#[61]⟩).data.toList = four 2 v := by rw [f4_eq]; rfl
theorem pad3 (v : Nat) : (f4 v).data.toList = four 3 v := by rw [f4_eq]; rfl
set_option maxHeartbeats 1000000 in
set_option maxRecDepth 100000 in
theorem rB64_calls (s : ByteArray) (hs : s.size ≤ 1000000000) (w : World) :
    Calls Try.prog 23 #[.string s] w fun e w' => e = .returned (.string (b64 s)) ∧ Below w.heap.size w w' := by
  go_enter Try.func23, Try.ntmps23
  go_wp2
  go_loopw [3, 4] (fun ov iv wr => ∃ (i : Nat) (acc : ByteArray), iv = .int .i64 i ∧ i ≤ s.size + 2 ∧ ov = .string acc ∧ Hid (acc.size ≤ 2 * i ∧ b64L s.data.toList = acc.data.toList ++ b64L (s.data.toList.drop i)) ∧ Hid (Below w.heap.size w wr)) (fun _ iv _ => s.size + 3 - (intOf iv).toNat)
  case atStart => exact ⟨0, ⟨#[]⟩, rfl, by omega, rfl, Lib.hid ⟨Nat.zero_le _, rfl⟩, Lib.hid (Below.refl _ _)⟩
  case round =>
    obtain ⟨i, acc, rfl, hi, rfl, HA, HB⟩ := hrel
    by_cases hlt : i < s.size
    · have hv : v3 s i < 16777216 := val3_lt _ _ _
      have hx := (byAt s i).toNat_lt
      have hy := (byAt s (i + 1)).toNat_lt
      have hz := (byAt s (i + 2)).toNat_lt
      have HV : Hid (v3 s i = (byAt s i).toNat * 65536 + (byAt s (i + 1)).toNat * 256 + (byAt s (i + 2)).toNat) := Lib.hid rfl
      obtain ⟨v, hve⟩ : ∃ v, v = v3 s i := ⟨_, rfl⟩
      rw [← hve] at HV hv
      have HVE := Lib.hid hve
      clear hve
      go_wp2_with fail
      refine (rbyteAt_calls s _ i rfl (by omega) _).mono ?_
      rintro e w1 ⟨rfl, rfl⟩
      go_wp2_with fail
      refine (rbyteAt_calls s _ (i + 1) (by omega) (by omega) _).mono ?_
      rintro e w1 ⟨rfl, rfl⟩
      go_wp2_with fail
      refine (rbyteAt_calls s _ (i + 2) (by omega) (by omega) _).mono ?_
      rintro e w1 ⟨rfl, rfl⟩
      have HV2 : Hid (((byAt s i).toNat : Int) * 65536 + ((byAt s (i + 1)).toNat : Int) * 256 + ((byAt s (i + 2)).toNat : Int) = (v : Int)) := Lib.hid (by rw [HV.out]; simp)
      go_wp2_with fail
      rw [HV2.out]
      clear hx hy hz HV HV2
      refine (sign_calls SIGNS _ (v / 262144 % 64) (by omega) (by show _ < 64; omega) (by decide) _).mono ?_
      rintro e w1 ⟨rfl, rfl⟩
      go_wp2_with fail
      refine (sign_calls SIGNS _ (v / 4096 % 64) (by omega) (by show _ < 64; omega) (by decide) _).mono ?_
      rintro e w1 ⟨rfl, rfl⟩
      have z1 : ∀ x, (mk [x]).size = 1 := fun x => mk_size _
      have a1 := fun (w : World) => run_string_add_sum (P := Try.prog) (w := w) (mk [dg SIGNS (v / 262144 % 64)]) (mk [dg SIGNS (v / 4096 % 64)]) (by rw [z1, z1]; omega)
      have a2 := fun (w : World) => run_string_add_sum (P := Try.prog) (w := w) (mk [dg SIGNS (v / 262144 % 64)] ++ mk [dg SIGNS (v / 4096 % 64)]) (mk [dg SIGNS (v / 64 % 64)]) (by rw [ByteArray.size_append, z1, z1, z1]; omega)
      have a3 : ∀ (w : World), _ = Result.ok (Value.string (f4 v)) w := fun (w : World) => run_string_add_sum (P := Try.prog) (w := w) (mk [dg SIGNS (v / 262144 % 64)] ++ mk [dg SIGNS (v / 4096 % 64)] ++ mk [dg SIGNS (v / 64 % 64)]) (mk [dg SIGNS (v % 64)]) (by rw [ByteArray.size_append, ByteArray.size_append, z1, z1, z1, z1]; omega)
      clear z1
      have h4 := f4_size v
      have b4 : 3 ≤ (f4 v).size := by omega
      have HA4 : Hid (acc.size ≤ 3000000000) := Lib.hid (by have := HA.out.1; omega)
      have HF4 := Lib.hid h4
      clear h4
      go_wp2_with fail
      refine (sign_calls SIGNS _ (v / 64 % 64) (by omega) (by show _ < 64; omega) (by decide) _).mono ?_
      rintro e w1 ⟨rfl, rfl⟩
      go_wp2_with fail
      refine (sign_calls SIGNS _ (v % 64) (by omega) (by show _ < 64; omega) (by decide) _).mono ?_
      rintro e w1 ⟨rfl, rfl⟩
      by_cases c1 : s.size = i + 1
      · have k1 : ((s.size : Int) - (i : Int) == 1) = true := by rw [beq_iff_eq]; omega
        have HN := Lib.hid (show (acc ++ ((f4 v).extract 0 2 ++ ⟨#[61, 61]⟩)).size ≤ 2 * (i + 3) ∧ b64L s.data.toList = (acc ++ ((f4 v).extract 0 2 ++ ⟨#[61, 61]⟩)).data.toList ++ b64L (s.data.toList.drop (i + 3)) by
          refine ⟨?_, b64_rest s acc _ i hlt HA.out.2 (by rw [pad1, ← HVE.out, show Nat.min (s.size - i) 3 = 1 by rw [c1, show i + 1 - i = 1 by omega]; rfl])⟩
          have := congrArg List.length (pad1 v)
          rw [four_len] at this
          have h2 : ((f4 v).extract 0 2 ++ (⟨#[61, 61]⟩ : ByteArray)).size = 4 := by rw [← this]; simp; rfl
          rw [ByteArray.size_append, h2]; have := HA.out.1; omega)
        have a4 := fun (w : World) => run_string_add_sum (P := Try.prog) (w := w) ((f4 v).extract 0 2) ⟨#[61, 61]⟩ (by have : (⟨#[61, 61]⟩ : ByteArray).size = 2 := rfl; rw [this]; simp; have := HF4.out; omega)
        have a5 := fun (w : World) => run_string_add_sum (P := Try.prog) (w := w) acc ((f4 v).extract 0 2 ++ ⟨#[61, 61]⟩) (by have : (⟨#[61, 61]⟩ : ByteArray).size = 2 := rfl; rw [ByteArray.size_append, this]; simp; have := HF4.out; have := HA4.out; omega)
        clear c1
        go_wp2
        exact ⟨⟨i + 3, _, by go_num, by omega, rfl, HN, HB⟩, by simp [intOf]; omega⟩
      · by_cases c2 : s.size = i + 2
        · have k1 : ((s.size : Int) - (i : Int) == 1) = false := by rw [c2]; simp; omega
          have k2 : ((s.size : Int) - (i : Int) == 2) = true := by rw [beq_iff_eq]; omega
          have HN := Lib.hid (show (acc ++ ((f4 v).extract 0 3 ++ ⟨#[61]⟩)).size ≤ 2 * (i + 3) ∧ b64L s.data.toList = (acc ++ ((f4 v).extract 0 3 ++ ⟨#[61]⟩)).data.toList ++ b64L (s.data.toList.drop (i + 3)) by
            refine ⟨?_, b64_rest s acc _ i hlt HA.out.2 (by rw [pad2, ← HVE.out, show Nat.min (s.size - i) 3 = 2 by rw [c2, show i + 2 - i = 2 by omega]; rfl])⟩
            have := congrArg List.length (pad2 v)
            rw [four_len] at this
            have h2 : ((f4 v).extract 0 3 ++ (⟨#[61]⟩ : ByteArray)).size = 4 := by rw [← this]; simp; rfl
            rw [ByteArray.size_append, h2]; have := HA.out.1; omega)
          have a4 := fun (w : World) => run_string_add_sum (P := Try.prog) (w := w) ((f4 v).extract 0 3) ⟨#[61]⟩ (by have : (⟨#[61]⟩ : ByteArray).size = 1 := rfl; rw [this]; simp; have := HF4.out; omega)
          have a5 := fun (w : World) => run_string_add_sum (P := Try.prog) (w := w) acc ((f4 v).extract 0 3 ++ ⟨#[61]⟩) (by have : (⟨#[61]⟩ : ByteArray).size = 1 := rfl; rw [ByteArray.size_append, this]; simp; have := HF4.out; have := HA4.out; omega)
          clear c1 c2
          go_wp2
          exact ⟨⟨i + 3, _, by go_num, by omega, rfl, HN, HB⟩, by simp [intOf]; omega⟩
        · have k1 : ((s.size : Int) - (i : Int) == 1) = false := by rw [beq_eq_false_iff_ne]; omega
          have k2 : ((s.size : Int) - (i : Int) == 2) = false := by rw [beq_eq_false_iff_ne]; omega
          have HN := Lib.hid (show (acc ++ f4 v).size ≤ 2 * (i + 3) ∧ b64L s.data.toList = (acc ++ f4 v).data.toList ++ b64L (s.data.toList.drop (i + 3)) by
            refine ⟨?_, b64_rest s acc _ i hlt HA.out.2 (by rw [pad3, ← HVE.out, show Nat.min (s.size - i) 3 = 3 from Nat.min_eq_right (by omega)])⟩
            rw [ByteArray.size_append, HF4.out]; have := HA.out.1; omega)
          have a5 := fun (w : World) => run_string_add_sum (P := Try.prog) (w := w) acc (f4 v) (by have := HF4.out; have := HA4.out; omega)
          clear c1 c2
          go_wp2
          exact ⟨⟨i + 3, _, by go_num, by omega, rfl, HN, HB⟩, by simp [intOf]; omega⟩
    · have HR := Lib.hid (show mk (b64L s.data.toList) = acc by
        rw [HA.out.2, List.drop_eq_nil_of_le (by simp; omega)]; simp [b64L, mk_data])
      go_wp2
      go_ret
      exact ⟨by rw [← HR.out]; rfl, HB.out⟩
end Go.Proofs.Ytaghjiffmondjaa
