/-
  the document's own Escape.
-/
import Derived.Test.YtaghjiffmondjaaB30
set_option linter.unusedVariables false
set_option linter.unusedSimpArgs false
namespace Go.Proofs.Ytaghjiffmondjaa
open Go.RowKit


theorem plainB_iff (c : UInt8) : plainB c = decide (33 ≤ c.toNat ∧ c.toNat ≤ 126 ∧ c.toNat ≠ 37) := by
  have := all_u8 (p := fun c => plainB c == decide (33 ≤ c.toNat ∧ c.toNat ≤ 126 ∧ c.toNat ≠ 37)) (by kernel_rfl) c
  simpa using this
theorem escL_snoc (s : ByteArray) (i : Nat) (hi : i < s.size) : escL (s.data.toList.take (i + 1)) = escL (s.data.toList.take i) ++ escOne s[i] := flatMap_snoc escOne s i hi
theorem big_size : BIG.size = 16 := rfl
set_option maxHeartbeats 1000000 in
set_option maxRecDepth 100000 in
theorem rEscape_calls (s : ByteArray) (hs : s.size ≤ 200000000000000) (w : World) :
    Calls Try.prog 34 #[.string s] w fun e w' => e = .returned (.string (escape s)) ∧ Below w.heap.size w w' := by
  by_cases h0 : s.size = 0
  · have h1 : s.toList = [] := toList_of_size h0
    have HF := Lib.hid (show escape s = ⟨#[37]⟩ by unfold escape; rw [if_pos h0])
    clear h0
    go_enter Try.func34, Try.ntmps34
    go_wp2
    go_ret
    exact ⟨by rw [HF.out]; rfl, Below.refl _ _⟩
  have h1 : s.toList.isEmpty = false := isEmpty_of_size h0
  have HF := Lib.hid (show escape s = mk (escL s.data.toList) by unfold escape; rw [if_neg h0]; rfl)
  clear h0
  go_enter Try.func34, Try.ntmps34
  go_wp2
  go_loopw [3, 4] (fun ov iv wr => ∃ (i : Nat) (acc : ByteArray), iv = .int .i64 i ∧ i ≤ s.size ∧ ov = .string acc ∧ Hid (acc = mk (escL (s.data.toList.take i))) ∧ Hid (Below w.heap.size w wr)) (fun _ iv _ => s.size - (intOf iv).toNat)
  case atStart => exact ⟨0, _, rfl, by omega, rfl, Lib.hid rfl, Lib.hid (Below.refl _ _)⟩
  case round =>
    obtain ⟨i, acc, rfl, hi, rfl, HA, HB⟩ := hrel
    by_cases hlt : i < s.size
    · have hc := s[i].toNat_lt
      have hacc : acc.size ≤ 600000000000000 := by
        have := flatMap_len escOne_len (s.data.toList.take i)
        have h2 : (s.data.toList.take i).length ≤ s.size := by simp; omega
        rw [HA.out, mk_size]; unfold escL; omega
      have HP := Lib.hid (plainB_iff s[i])
      have HS := Lib.hid (escL_snoc s i hlt)
      by_cases hp : plainB s[i] = true
      · have hq : 33 ≤ s[i].toNat ∧ s[i].toNat ≤ 126 ∧ s[i].toNat ≠ 37 := by rw [HP.out] at hp; simpa using hp
        have k1 : decide (33 ≤ (s[i].toNat : Int)) = true := by simp; omega
        have k2 : decide ((s[i].toNat : Int) ≤ 126) = true := by simp; omega
        have k3 : ((s[i].toNat : Int) != 37) = true := by simp; omega
        have HN := Lib.hid (show acc ++ s.extract i (i + 1) = mk (escL (s.data.toList.take (i + 1))) by
          rw [HA.out, HS.out, ext_one s i hlt, mk_app]; unfold escOne dg; rw [if_pos hp]
          rw [List.getD_eq_getElem?_getD, List.getElem?_eq_getElem (by simpa using hlt)]; rfl)
        have z1 : (s.extract i (i + 1)).size = 1 := by simp; omega
        have a1 := fun (w : World) => run_string_add_sum (P := Try.prog) (w := w) acc (s.extract i (i + 1)) (by omega)
        clear hp hq z1
        go_wp2
        exact ⟨⟨i + 1, _, by go_num, by omega, rfl, HN, HB⟩, by simp [intOf]; omega⟩
      · have z1 : (mk [dg BIG (s[i].toNat / 16)]).size = 1 := mk_size _
        have z2 : (mk [dg BIG (s[i].toNat % 16)]).size = 1 := mk_size _
        have z3 : ((⟨#[37]⟩ : ByteArray)).size = 1 := rfl
        have a0 := fun (w : World) => run_string_add_sum (P := Try.prog) (w := w) acc ⟨#[37]⟩ (by omega)
        have a1 := fun (w : World) => run_string_add_sum (P := Try.prog) (w := w) (acc ++ ⟨#[37]⟩) (mk [dg BIG (s[i].toNat / 16)]) (by rw [ByteArray.size_append]; omega)
        have a2 := fun (w : World) => run_string_add_sum (P := Try.prog) (w := w) (acc ++ ⟨#[37]⟩ ++ mk [dg BIG (s[i].toNat / 16)]) (mk [dg BIG (s[i].toNat % 16)]) (by rw [ByteArray.size_append, ByteArray.size_append]; omega)
        clear z1 z2 z3
        have HN := Lib.hid (show acc ++ ⟨#[37]⟩ ++ mk [dg BIG (s[i].toNat / 16)] ++ mk [dg BIG (s[i].toNat % 16)] = mk (escL (s.data.toList.take (i + 1))) by
          rw [HA.out, HS.out, show (⟨#[37]⟩ : ByteArray) = mk [37] from rfl, mk_app, mk_app, mk_app]; unfold escOne; rw [if_neg hp]; congr 1; simp [escC])
        have hq : s[i].toNat < 33 ∨ 126 < s[i].toNat ∨ s[i].toNat = 37 := by
          rw [HP.out] at hp; simp at hp; omega
        clear hp
        by_cases q1 : s[i].toNat < 33
        · have k1 : decide (33 ≤ (s[i].toNat : Int)) = false := by simp; omega
          clear q1
          clear hq
          go_wp2
          refine wp_region_seq (fun _ => True) [(0, false), (1, false), (2, false), (3, false), (4, false), (5, false), (6, false), (9, false), (10, false), (11, false), (12, false), (13, false), (7, true), (8, false), (14, true), (15, false), (16, true)] (by kernel_rfl) (by kernel_rfl) (fun _ _ d _ _ h => by cases d <;> exact h) trivial ?_
          repeat (refine seqH_held ?_ (by rfl) (by rfl) (fun w' s1 => ?_) ?_; rotate_left; focus (go_simp; (try go_bits); exact rfl))
          refine seqH_actS (by rfl) (by rfl) (fun K hK => ?_)
          go_wp2_with fail
          refine (sign_calls BIG _ (s[i].toNat / 16) (by omega) (by rw [big_size]; omega) (by decide) _).mono ?_
          rintro e w1 ⟨rfl, rfl⟩
          refine hK _ _ trivial ?_
          clear hK
          repeat (refine seqH_held ?_ (by rfl) (by rfl) (fun w' s1 => ?_) ?_; rotate_left; focus (go_simp; (try go_bits); exact rfl))
          refine seqH_actS (by rfl) (by rfl) (fun K hK => ?_)
          go_wp2_with fail
          refine (sign_calls BIG _ (s[i].toNat % 16) (by omega) (by rw [big_size]; omega) (by decide) _).mono ?_
          rintro e w1 ⟨rfl, rfl⟩
          refine hK _ _ trivial ?_
          clear hK
          repeat (refine seqH_held ?_ (by rfl) (by rfl) (fun w' s1 => ?_) ?_; rotate_left; focus (go_simp; (try go_bits); exact rfl))
          refine seqH_actS (by rfl) (by rfl) (fun K hK => ?_)
          go_wp2_with fail
          refine hK _ _ trivial ?_
          clear hK
          refine seqH_nil ?_
          go_wp2
          exact ⟨⟨i + 1, _, by go_num, by omega, rfl, HN, Lib.hid HB.out.drew⟩, by simp [intOf]; omega⟩
        · have k1 : decide (33 ≤ (s[i].toNat : Int)) = true := by simp; omega
          by_cases q2 : 126 < s[i].toNat
          · have k2 : decide ((s[i].toNat : Int) ≤ 126) = false := by simp; omega
            clear q1 q2
            clear hq
            go_wp2
            refine wp_region_seq (fun _ => True) [(0, false), (1, false), (2, false), (3, false), (4, false), (5, false), (6, false), (9, false), (10, false), (11, false), (12, false), (13, false), (7, true), (8, false), (14, true), (15, false), (16, true)] (by kernel_rfl) (by kernel_rfl) (fun _ _ d _ _ h => by cases d <;> exact h) trivial ?_
            repeat (refine seqH_held ?_ (by rfl) (by rfl) (fun w' s1 => ?_) ?_; rotate_left; focus (go_simp; (try go_bits); exact rfl))
            refine seqH_actS (by rfl) (by rfl) (fun K hK => ?_)
            go_wp2_with fail
            refine (sign_calls BIG _ (s[i].toNat / 16) (by omega) (by rw [big_size]; omega) (by decide) _).mono ?_
            rintro e w1 ⟨rfl, rfl⟩
            refine hK _ _ trivial ?_
            clear hK
            repeat (refine seqH_held ?_ (by rfl) (by rfl) (fun w' s1 => ?_) ?_; rotate_left; focus (go_simp; (try go_bits); exact rfl))
            refine seqH_actS (by rfl) (by rfl) (fun K hK => ?_)
            go_wp2_with fail
            refine (sign_calls BIG _ (s[i].toNat % 16) (by omega) (by rw [big_size]; omega) (by decide) _).mono ?_
            rintro e w1 ⟨rfl, rfl⟩
            refine hK _ _ trivial ?_
            clear hK
            repeat (refine seqH_held ?_ (by rfl) (by rfl) (fun w' s1 => ?_) ?_; rotate_left; focus (go_simp; (try go_bits); exact rfl))
            refine seqH_actS (by rfl) (by rfl) (fun K hK => ?_)
            go_wp2_with fail
            refine hK _ _ trivial ?_
            clear hK
            refine seqH_nil ?_
            go_wp2
            exact ⟨⟨i + 1, _, by go_num, by omega, rfl, HN, Lib.hid HB.out.drew⟩, by simp [intOf]; omega⟩
          · have k2 : decide ((s[i].toNat : Int) ≤ 126) = true := by simp; omega
            have k3 : ((s[i].toNat : Int) != 37) = false := by
              have h37 : s[i].toNat = 37 := by omega
              rw [h37]; rfl
            clear q1 q2
            clear hq
            go_wp2
            refine wp_region_seq (fun _ => True) [(0, false), (1, false), (2, false), (3, false), (4, false), (5, false), (6, false), (9, false), (10, false), (11, false), (12, false), (13, false), (7, true), (8, false), (14, true), (15, false), (16, true)] (by kernel_rfl) (by kernel_rfl) (fun _ _ d _ _ h => by cases d <;> exact h) trivial ?_
            repeat (refine seqH_held ?_ (by rfl) (by rfl) (fun w' s1 => ?_) ?_; rotate_left; focus (go_simp; (try go_bits); exact rfl))
            refine seqH_actS (by rfl) (by rfl) (fun K hK => ?_)
            go_wp2_with fail
            refine (sign_calls BIG _ (s[i].toNat / 16) (by omega) (by rw [big_size]; omega) (by decide) _).mono ?_
            rintro e w1 ⟨rfl, rfl⟩
            refine hK _ _ trivial ?_
            clear hK
            repeat (refine seqH_held ?_ (by rfl) (by rfl) (fun w' s1 => ?_) ?_; rotate_left; focus (go_simp; (try go_bits); exact rfl))
            refine seqH_actS (by rfl) (by rfl) (fun K hK => ?_)
            go_wp2_with fail
            refine (sign_calls BIG _ (s[i].toNat % 16) (by omega) (by rw [big_size]; omega) (by decide) _).mono ?_
            rintro e w1 ⟨rfl, rfl⟩
            refine hK _ _ trivial ?_
            clear hK
            repeat (refine seqH_held ?_ (by rfl) (by rfl) (fun w' s1 => ?_) ?_; rotate_left; focus (go_simp; (try go_bits); exact rfl))
            refine seqH_actS (by rfl) (by rfl) (fun K hK => ?_)
            go_wp2_with fail
            refine hK _ _ trivial ?_
            clear hK
            refine seqH_nil ?_
            go_wp2
            exact ⟨⟨i + 1, _, by go_num, by omega, rfl, HN, Lib.hid HB.out.drew⟩, by simp [intOf]; omega⟩
    · obtain rfl : i = s.size := by omega
      have HR := Lib.hid (show acc = escape s by rw [HA.out, HF.out, List.take_of_length_le (by simp)])
      go_wp2
      go_ret
      exact ⟨by rw [← HR.out]; rfl, HB.out⟩
end Go.Proofs.Ytaghjiffmondjaa
