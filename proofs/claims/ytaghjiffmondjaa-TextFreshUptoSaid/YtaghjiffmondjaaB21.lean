/-
  the document's own sign, Dec and UnDec.
-/
import Derived.Test.YtaghjiffmondjaaB20
set_option linter.unusedVariables false
set_option linter.unusedSimpArgs false
namespace Go.Proofs.Ytaghjiffmondjaa
open Go.RowKit

theorem ext_one (s : ByteArray) (n : Nat) (h : n < s.size) : s.extract n (n + 1) = mk [dg s n] := bytes_ext (by
  rw [ext_list, mk_list, drop_at s n h, show n + 1 - n = 1 by omega]
  unfold dg
  have h2 : n < s.data.toList.length := by simpa using h
  simp only [List.take_succ_cons, List.take_zero, List.getD_eq_getElem?_getD, List.getElem?_eq_getElem h2, Option.getD_some]
  rfl)
theorem sign_calls (s : ByteArray) (v : Int) (n : Nat) (hv : v = n) (hn : n < s.size) (hs : s.size ≤ 1000000) (w : World) :
    Calls Try.prog 45 #[.string s, .int .i64 v] w fun e w' => e = .returned (.string (mk [dg s n])) ∧ w = w' := by
  subst hv
  have HE := Lib.hid (ext_one s n hn)
  have b1 : n + 1 ≤ s.size := by omega
  go_enter Try.func45, Try.ntmps45
  go_wp2
  go_ret
  exact ⟨by rw [← HE.out]; rfl, rfl⟩

theorem decN_digit (n : Nat) (h : n < 10) : decN 20 n = [dg SMALL n] := by
  have := all_below (n := 10) (p := fun n => decN 20 n == [dg SMALL n]) (by kernel_rfl) n h
  simpa using this
theorem dec_digit (n : Nat) (h : n < 10) : dec (n : Int) = mk [dg SMALL n] := by rw [dec_nat, decN_digit n h]
theorem dec_minus (n : Nat) (h : n < 10) (h0 : 0 < n) : dec (-(n : Int)) = (⟨#[45]⟩ : ByteArray) ++ mk [dg SMALL n] := by
  rw [dec_neg n h0, decN_digit n h, ← mk_app]; rfl
theorem small_size : SMALL.size = 16 := rfl

set_option maxHeartbeats 1000000 in
set_option maxRecDepth 100000 in
theorem rdec_calls : ∀ (k : Nat) (z : Int), (-9223372036854775808 ≤ z ∧ z < 9223372036854775808) → z.natAbs < 10 ^ k → ∀ w : World,
    Calls Try.prog 19 #[.int .i64 z] w fun e w' => e = .returned (.string (dec z)) ∧ Below w.heap.size w w' := by
  intro k
  induction k with
  | zero =>
    intro z hz hk w
    obtain rfl : z = 0 := by simp at hk; omega
    go_enter Try.func19, Try.ntmps19
    go_wp2_with fail
    refine (sign_calls SMALL 0 0 rfl (by decide) (by decide) w).mono ?_
    rintro e w1 ⟨rfl, rfl⟩
    go_wp2
    go_ret
    exact ⟨by rw [show dec 0 = mk [dg SMALL 0] from dec_digit 0 (by omega)]; rfl, Below.refl _ _⟩
  | succ k ih =>
    intro z hz hk w
    rw [Nat.pow_succ] at hk
    have IH := Lib.hid ih
    clear ih
    by_cases h0 : 0 ≤ z
    · obtain ⟨n, rfl⟩ : ∃ n : Nat, z = (n : Int) := ⟨z.natAbs, by omega⟩
      by_cases h9 : n < 10
      · have hlt : n ≤ 9 := by omega
        have HD := Lib.hid (dec_digit n h9)
        clear hk
        go_enter Try.func19, Try.ntmps19
        go_wp2_with fail
        refine (sign_calls SMALL n n rfl (by rw [small_size]; omega) (by decide) w).mono ?_
        rintro e w1 ⟨rfl, rfl⟩
        go_wp2
        go_ret
        exact ⟨by rw [HD.out]; rfl, Below.refl _ _⟩
      · have HD := Lib.hid ((dec_pos_a n (by omega) (by omega)).trans (congrArg _ (dec_digit (n % 10) (by omega))))
        have hn : ¬ n ≤ 9 := by omega
        have HK := Lib.hid (show ((n : Int) / 10).natAbs < 10 ^ k by omega)
        clear hk h9
        go_enter Try.func19, Try.ntmps19
        go_wp2_with fail
        refine (IH.out _ (by omega) HK.out w).mono ?_
        rintro e w1 ⟨rfl, hb⟩
        have HB := Lib.hid hb
        clear hb
        have hsum : (dec ((n : Int) / 10)).size + (mk [dg SMALL (n % 10)]).size ≤ 9223372036854775807 := by
          have := (dec_size ((n : Int) / 10) (by omega)).2
          rw [mk_size]; simp only [List.length_cons, List.length_nil]; omega
        have a2 := fun (w : World) => run_string_add_sum (P := Try.prog) (w := w) (dec ((n : Int) / 10)) (mk [dg SMALL (n % 10)]) hsum
        clear hsum
        go_wp2_with fail
        refine (sign_calls SMALL _ (n % 10) (by omega) (by rw [small_size]; omega) (by decide) _).mono ?_
        rintro e w2 ⟨rfl, rfl⟩
        go_wp2
        go_ret
        exact ⟨by rw [HD.out]; rfl, HB.out⟩
    · obtain ⟨n, rfl⟩ : ∃ n : Nat, z = -(n : Int) := ⟨z.natAbs, by omega⟩
      by_cases h9 : n < 10
      · have HD := Lib.hid (dec_minus n h9 (by omega))
        clear hk
        go_enter Try.func19, Try.ntmps19
        go_wp2_with fail
        refine (sign_calls SMALL _ n rfl (by rw [small_size]; omega) (by decide) _).mono ?_
        rintro e w1 ⟨rfl, rfl⟩
        have a2 := fun (w : World) => run_string_add_sum (P := Try.prog) (w := w) ⟨#[45]⟩ (mk [dg SMALL n]) (by rw [mk_size]; exact (by decide : 1 + 1 ≤ 9223372036854775807))
        go_wp2
        go_ret
        exact ⟨by rw [HD.out]; rfl, Below.refl _ _⟩
      · have HD := Lib.hid ((dec_neg_a n (by omega) (by omega)).trans (congrArg _ (dec_digit (n % 10) (by omega))))
        have HK := Lib.hid (show (-((n : Int) / 10)).natAbs < 10 ^ k by omega)
        clear hk
        go_enter Try.func19, Try.ntmps19
        go_wp2_with fail
        refine (IH.out _ (by omega) HK.out w).mono ?_
        rintro e w1 ⟨rfl, hb⟩
        have HB := Lib.hid hb
        clear hb
        have hsum : (dec (-((n : Int) / 10))).size + (mk [dg SMALL (n % 10)]).size ≤ 9223372036854775807 := by
          have := (dec_size (-((n : Int) / 10)) (by omega)).2
          rw [mk_size]; simp only [List.length_cons, List.length_nil]; omega
        have a2 := fun (w : World) => run_string_add_sum (P := Try.prog) (w := w) (dec (-((n : Int) / 10))) (mk [dg SMALL (n % 10)]) hsum
        clear hsum
        go_wp2_with fail
        refine (sign_calls SMALL _ (n % 10) (by omega) (by rw [small_size]; omega) (by decide) _).mono ?_
        rintro e w2 ⟨rfl, rfl⟩
        go_wp2
        go_ret
        exact ⟨by rw [HD.out]; rfl, HB.out⟩
end Go.Proofs.Ytaghjiffmondjaa
