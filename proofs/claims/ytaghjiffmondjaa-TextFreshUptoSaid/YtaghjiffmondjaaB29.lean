/-
  the document's own Hex.
-/
import Derived.Test.YtaghjiffmondjaaB21
import Derived.BigQuiet
import Derived.Test.YtaghjiffmondjaaReg
set_option linter.unusedVariables false
set_option linter.unusedSimpArgs false
namespace Go.Proofs.Ytaghjiffmondjaa
open Go.RowKit

theorem sign_quiet (s : ByteArray) (v : Int) (n : Nat) (hv : v = n) (hn : n < s.size) (hs : s.size ≤ 1000000) (w : World) :
    Calls Try.prog 45 #[.string s, .int .i64 v] w fun e w' => e = .returned (.string (mk [dg s n])) ∧ w' = w :=
  (sign_calls s v n hv hn hs w).mono fun _ _ h => ⟨h.1, h.2.symm⟩

theorem hexL_snoc (l : List UInt8) (c : UInt8) : hexL (l ++ [c]) = hexL l ++ hexC c := by
  unfold hexL; rw [List.flatMap_append]; simp
theorem quo16 (c : UInt8) : IntKind.i64.wrap ((IntKind.i64.wrap (c.toNat : Int)).tdiv 16) = ((c.toNat / 16 : Nat) : Int) := by
  have := all_u8 (p := fun c => IntKind.i64.wrap ((IntKind.i64.wrap (c.toNat : Int)).tdiv 16) == ((c.toNat / 16 : Nat) : Int)) (by kernel_rfl) c
  simpa using this
theorem rem16 (c : UInt8) : IntKind.i64.wrap ((IntKind.i64.wrap (c.toNat : Int)).tmod 16) = ((c.toNat % 16 : Nat) : Int) := by
  have := all_u8 (p := fun c => IntKind.i64.wrap ((IntKind.i64.wrap (c.toNat : Int)).tmod 16) == ((c.toNat % 16 : Nat) : Int)) (by kernel_rfl) c
  simpa using this
set_option maxHeartbeats 1000000 in
set_option maxRecDepth 100000 in
theorem rHex_calls (s : ByteArray) (hs : s.size ≤ 1000000000) (w : World) :
    Calls Try.prog 25 #[.string s] w fun e w' => e = .returned (.string (hex s)) ∧ Below w.heap.size w w' := by
  go_enter Try.func25, Try.ntmps25
  go_wp2
  go_loopw [3, 4] (fun ov iv wr => ∃ (i : Nat) (acc : ByteArray), iv = .int .i64 i ∧ i ≤ s.size ∧ ov = .string acc ∧ Hid (acc = mk (hexL (s.data.toList.take i))) ∧ Hid (Below w.heap.size w wr)) (fun _ iv _ => s.size - (intOf iv).toNat)
  case atStart => exact ⟨0, _, rfl, by omega, rfl, Lib.hid rfl, Lib.hid (Below.refl _ _)⟩
  case round =>
    obtain ⟨i, acc, rfl, hi, rfl, HA, HB⟩ := hrel
    by_cases hlt : i < s.size
    · have hc := s[i].toNat_lt
      have hacc : acc.size ≤ 2000000000 := by rw [HA.out, mk_size, hexL_len]; simp; omega
      have z1 : (mk [dg SMALL (s[i].toNat / 16)]).size = 1 := mk_size _
      have z2 : (mk [dg SMALL (s[i].toNat % 16)]).size = 1 := mk_size _
      have a1 := fun (w : World) => run_string_add_sum (P := Try.prog) (w := w) acc (mk [dg SMALL (s[i].toNat / 16)]) (by omega)
      have a2 := fun (w : World) => run_string_add_sum (P := Try.prog) (w := w) (acc ++ mk [dg SMALL (s[i].toNat / 16)]) (mk [dg SMALL (s[i].toNat % 16)]) (by rw [ByteArray.size_append]; omega)
      clear z1 z2
      have HN := Lib.hid (show acc ++ mk [dg SMALL (s[i].toNat / 16)] ++ mk [dg SMALL (s[i].toNat % 16)] = mk (hexL (s.data.toList.take (i + 1))) by
        rw [HA.out, take_snoc s i hlt, hexL_snoc, mk_app, mk_app, List.append_assoc]; rfl)
      go_wp2
      refine wp_region_seq (fun _ => True) [(0, false), (1, false), (2, false), (3, false), (4, false), (5, false), (8, false), (9, false), (10, false), (11, false), (12, false), (6, true), (7, false), (13, true), (14, false), (15, true)] (by kernel_rfl) (by kernel_rfl) (fun _ _ d _ _ h => by cases d <;> exact h) trivial ?_
      repeat (refine seqH_held ?_ (by rfl) (by rfl) (fun w' s1 => ?_) ?_; rotate_left; focus (go_simp; exact rfl))
      refine seqH_actS (by rfl) (by rfl) (fun K hK => ?_)
      go_wp2_with fail
      refine (sign_calls SMALL _ (s[i].toNat / 16) (by omega) (by rw [small_size]; omega) (by decide) _).mono ?_
      rintro e w1 ⟨rfl, rfl⟩
      refine hK _ _ trivial ?_
      clear hK
      repeat (refine seqH_held ?_ (by rfl) (by rfl) (fun w' s1 => ?_) ?_; rotate_left; focus (go_simp; exact rfl))
      refine seqH_actS (by rfl) (by rfl) (fun K hK => ?_)
      go_wp2_with fail
      refine (sign_calls SMALL _ (s[i].toNat % 16) (by omega) (by rw [small_size]; omega) (by decide) _).mono ?_
      rintro e w1 ⟨rfl, rfl⟩
      refine hK _ _ trivial ?_
      clear hK
      repeat (refine seqH_held ?_ (by rfl) (by rfl) (fun w' s1 => ?_) ?_; rotate_left; focus (go_simp; exact rfl))
      refine seqH_actS (by rfl) (by rfl) (fun K hK => ?_)
      go_wp2_with fail
      refine hK _ _ trivial ?_
      clear hK
      refine seqH_nil ?_
      go_wp2
      exact ⟨⟨i + 1, _, by go_num, by omega, rfl, HN, Lib.hid HB.out.drew⟩, by simp [intOf]; omega⟩
    · obtain rfl : i = s.size := by omega
      have HF := Lib.hid (show acc = hex s by rw [HA.out, List.take_of_length_le (by simp)]; rfl)
      go_wp2
      go_ret
      exact ⟨by rw [← HF.out]; rfl, HB.out⟩
end Go.Proofs.Ytaghjiffmondjaa
