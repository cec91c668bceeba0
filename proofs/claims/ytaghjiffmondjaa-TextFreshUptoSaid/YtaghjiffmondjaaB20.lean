/-
  the law TextOne, walked: it answers true.
-/
import Derived.Test.YtaghjiffmondjaaP3
import Derived.Deep.DeepCutAuto
set_option linter.unusedVariables false
set_option linter.unusedSimpArgs false
namespace Go.Proofs.Ytaghjiffmondjaa
open Go.RowKit

theorem unB64_len (s : ByteArray) : (unB64 s).1.size ≤ s.size := by
  unfold unB64
  split
  · rename_i h
    have h1 : (b64 (unB64Of s)).size = s.size := by rw [h.2]
    rw [b64_size] at h1
    show (unB64Of s).size ≤ _
    omega
  · exact Nat.zero_le _
theorem unescape_len (s : ByteArray) : (unescape s).1.size ≤ 3 * s.size + 3 := by
  rcases unescape_code s with h | h
  · have h1 := escape_unescape s h
    have h2 : (escape (unescape s).1).size = s.size := by rw [h1]
    have h3 : (unescape s).1.size ≤ (escape (unescape s).1).size := by
      unfold escape
      split
      · omega
      · show _ ≤ (escL _).length
        have : ∀ l : List UInt8, l.length ≤ (escL l).length := by
          intro l
          unfold escL
          induction l with
          | nil => simp
          | cons c l ih =>
            rw [List.flatMap_cons, List.length_append, List.length_cons]
            have : 1 ≤ (escOne c).length := by
              rcases escOne_cases c with ⟨h, _⟩ | ⟨y, z, h, _⟩ <;> rw [h] <;> simp
            omega
        have := this (unescape s).1.data.toList
        simpa using this
    omega
  · unfold unescape at h ⊢
    split
    · exact Nat.zero_le _
    · split
      · exact Nat.zero_le _
      · split
        · rename_i h1 _ t h2 h3
          rw [if_neg h1, h2] at h
          simp only at h
          rw [if_pos h3] at h
          simp at h
        · exact Nat.zero_le _

theorem dec_pos_a (n : Nat) (h : 10 ≤ n) (hn : n ≤ 9223372036854775807) : dec (n : Int) = dec ((n : Int) / 10) ++ dec ((n : Int) % 10) := by
  rw [dec_pos_ten n h (by omega)]; rfl
theorem dec_neg_a (n : Nat) (h : 10 ≤ n) (hn : n ≤ 9223372036854775808) : dec (-(n : Int)) = dec (-((n : Int) / 10)) ++ dec ((n : Int) % 10) := by
  rw [dec_neg_ten n h (by omega)]; rfl
theorem dec_neg_b (n : Nat) (h : 10 ≤ n) (hn : n ≤ 9223372036854775808) (h0 : (n : Int) % 10 = 0) : dec (-(n : Int)) = dec (-((n : Int) / 10)) ++ dec (-((n : Int) % 10)) := by
  rw [dec_neg_a n h hn, h0]; rfl
theorem unDec_in (s : ByteArray) : -9223372036854775808 ≤ (unDec s).1 ∧ (unDec s).1 < 9223372036854775808 := by
  have h : -9223372036854775808 ≤ udNum s ∧ udNum s < 9223372036854775808 := by
    unfold udNum
    split
    · exact wrap64_in _
    · exact udFold_in _
  unfold unDec
  split
  · exact ⟨by decide, by decide⟩
  · split
    · exact h
    · exact ⟨by decide, by decide⟩

set_option maxHeartbeats 4000000 in
set_option maxRecDepth 100000 in
theorem one_calls (s : ByteArray) (k : Int) (hs : s.size ≤ 1048576) (hk : -9223372036854775808 ≤ k ∧ k ≤ 9223372036854775807) (w : World) :
    Calls Try.prog 12 #[.string s, .int .i64 k] w fun e w' => e = .returned (.bool true) ∧ Below w.heap.size w w' := by
  have HS := Lib.hid hs
  have HK := Lib.hid hk
  clear hs hk
  go_enter Try.func12, Try.ntmps12
  go_wp2_with fail
  refine (unHex_calls ⟨#[48, 48]⟩ (by decide) w).mono ?_
  rintro e w1 ⟨rfl, hb⟩
  have HB1 := Lib.hid hb
  clear hb
  rw [one_a]
  go_wp2_with fail
  refine (unB64_calls ⟨#[90, 103, 61]⟩ (by decide) w1).mono ?_
  rintro e w2 ⟨rfl, hb⟩
  have HB2 := Lib.hid (HB1.out.trans (hb.mono HB1.out.size))
  clear hb
  rw [one_b]
  go_wp2_with fail
  refine (unescape_calls ⟨#[37, 52]⟩ (by decide) w2).mono ?_
  rintro e w3 ⟨rfl, hb⟩
  have HB3 := Lib.hid (HB2.out.trans (hb.mono HB2.out.size))
  clear hb
  rw [one_c]
  go_wp2_with fail
  refine (unDec_calls ⟨#[48, 49]⟩ (by decide) w3).mono ?_
  rintro e w4 ⟨rfl, hb⟩
  have HB4 := Lib.hid (HB3.out.trans (hb.mono HB3.out.size))
  clear hb
  rw [one_d]
  go_wp2_with fail
  refine (unB64_calls s (by have := HS.out; omega) w4).mono ?_
  rintro e w5 ⟨rfl, hb⟩
  have HB5 := Lib.hid (HB4.out.trans (hb.mono HB4.out.size))
  clear hb
  go_wp2_with fail
  refine (unHex_calls s (by have := HS.out; omega) w5).mono ?_
  rintro e w6 ⟨rfl, hb⟩
  have HB6 := Lib.hid (HB5.out.trans (hb.mono HB5.out.size))
  clear hb
  go_wp2_with fail
  refine (unescape_calls s (by have := HS.out; omega) w6).mono ?_
  rintro e w7 ⟨rfl, hb⟩
  have HB7 := Lib.hid (HB6.out.trans (hb.mono HB6.out.size))
  clear hb
  go_wp2_with fail
  refine (unDec_calls s (by have := HS.out; omega) w7).mono ?_
  rintro e w8 ⟨rfl, hb⟩
  have HB8 := Lib.hid (HB7.out.trans (hb.mono HB7.out.size))
  clear hb
  have A1 := Lib.hid (b64_unB64 s)
  have A2 := Lib.hid (hex_unHex s)
  have A3 := Lib.hid (escape_unescape s)
  have A4 := Lib.hid (dec_unDec s)
  have L1 := Lib.hid (unB64_len s)
  have L2 := Lib.hid (unHex_len s)
  have L3 := Lib.hid (unescape_len s)
  have L4 := Lib.hid (unDec_in s)
  have C1 := Lib.hid (unB64_codes s)
  have C2 := Lib.hid (unHex_codes s)
  have C3 := Lib.hid (unescape_code s)
  have C4 := Lib.hid (unDec_codes s)
  obtain ⟨r1, hr1⟩ : ∃ r, r = unB64 s := ⟨_, rfl⟩
  obtain ⟨r2, hr2⟩ : ∃ r, r = unHex s := ⟨_, rfl⟩
  obtain ⟨r3, hr3⟩ : ∃ r, r = unescape s := ⟨_, rfl⟩
  obtain ⟨r4, hr4⟩ : ∃ r, r = unDec s := ⟨_, rfl⟩
  rw [← hr1] at A1 L1 C1 ⊢
  rw [← hr2] at A2 L2 C2 ⊢
  rw [← hr3] at A3 L3 C3 ⊢
  rw [← hr4] at A4 L4 C4 ⊢
  clear hr1 hr2 hr3 hr4
  obtain ⟨x1, c1⟩ := r1
  obtain ⟨x2, c2⟩ := r2
  obtain ⟨x3, c3⟩ := r3
  obtain ⟨x4, c4⟩ := r4
  have t1 := str_eq s
  go_upto_region 11 with (fail)
  go_cut [17] (fun v wc => v = .bool true ∧ Hid (Below w.heap.size w wc))
  case first =>
    rcases C1.out with hc | hc
    · replace hc : c1 = 0 := hc
      subst hc
      go_wp2_with fail
      refine (b64_calls x1 (by have := HS.out; have h : x1.size ≤ s.size := L1.out; omega) _).mono ?_
      rintro e wq ⟨rfl, hb⟩
      rw [show b64 x1 = s from A1.out (by first | trivial | rfl)]
      have HBq := Lib.hid (HB8.out.trans (hb.mono HB8.out.size))
      clear hb
      go_wp2
      go_meet
      case rel => exact ⟨rfl, HBq⟩
    · replace hc : c1 = 40 := hc
      subst hc
      go_wp2
      go_meet
      case rel => exact ⟨rfl, HB8⟩
  case rest =>
  obtain ⟨rfl, HB9⟩ := hcut
  go_upto_region 12 with (fail)
  go_cut [18] (fun v wc => v = .bool true ∧ Hid (Below w.heap.size w wc))
  case first =>
    rcases C2.out with hc | hc
    · replace hc : c2 = 0 := hc
      subst hc
      go_wp2_with fail
      refine (hex_calls x2 (by have := HS.out; have h : x2.size ≤ s.size := L2.out; omega) _).mono ?_
      rintro e wq ⟨rfl, hb⟩
      rw [show hex x2 = s from A2.out (by first | trivial | rfl)]
      have HBq := Lib.hid (HB9.out.trans (hb.mono HB9.out.size))
      clear hb
      go_wp2
      go_meet
      case rel => exact ⟨rfl, HBq⟩
    · replace hc : c2 = 41 := hc
      subst hc
      go_wp2
      go_meet
      case rel => exact ⟨rfl, HB9⟩
  case rest =>
  obtain ⟨rfl, HB10⟩ := hcut
  go_upto_region 13 with (fail)
  go_cut [19] (fun v wc => v = .bool true ∧ Hid (Below w.heap.size w wc))
  case first =>
    rcases C3.out with hc | hc
    · replace hc : c3 = 0 := hc
      subst hc
      go_wp2_with fail
      refine (escape_calls x3 (by have := HS.out; have h : x3.size ≤ 3 * s.size + 3 := L3.out; omega) _).mono ?_
      rintro e wq ⟨rfl, hb⟩
      rw [show escape x3 = s from A3.out (by first | trivial | rfl)]
      have HBq := Lib.hid (HB10.out.trans (hb.mono HB10.out.size))
      clear hb
      go_wp2
      go_meet
      case rel => exact ⟨rfl, HBq⟩
    · replace hc : c3 = 44 := hc
      subst hc
      go_wp2
      go_meet
      case rel => exact ⟨rfl, HB10⟩
  case rest =>
  obtain ⟨rfl, HB11⟩ := hcut
  go_upto_region 14 with (fail)
  go_cut [20] (fun v wc => v = .bool true ∧ Hid (Below w.heap.size w wc))
  case first =>
    rcases C4.out with hc | hc
    · replace hc : c4 = 0 := hc
      subst hc
      go_wp2_with fail
      refine (dec_calls x4 L4.out _).mono ?_
      rintro e wq ⟨rfl, hb⟩
      rw [show dec x4 = s from A4.out (by first | trivial | rfl)]
      have HBq := Lib.hid (HB11.out.trans (hb.mono HB11.out.size))
      clear hb
      go_wp2
      go_meet
      case rel => exact ⟨rfl, HBq⟩
    · replace hc : c4 = 42 := hc
      subst hc
      go_wp2
      go_meet
      case rel => exact ⟨rfl, HB11⟩
  case rest =>
  obtain ⟨rfl, HB12⟩ := hcut
  go_wp2_with fail
  refine (dec_calls k (by have := HK.out; omega) _).mono ?_
  rintro e wd ⟨rfl, hb⟩
  have HB13 := Lib.hid (HB12.out.trans (hb.mono HB12.out.size))
  clear hb
  obtain ⟨D, hD⟩ : ∃ D, D = dec k := ⟨_, rfl⟩
  rw [← hD]
  have HD := Lib.hid hD
  have hD20 : D.size ≤ 20 := by rw [hD]; exact (dec_size k (by have := HK.out; omega)).2
  have HU := Lib.hid (show unDec D = (k, 0) by rw [hD]; exact unDec_dec k (by have := HK.out; omega))
  clear hD
  go_wp2_with fail
  refine (unDec_calls D (by omega) _).mono ?_
  rintro e we ⟨rfl, hb⟩
  have HB14 := Lib.hid (HB13.out.trans (hb.mono HB13.out.size))
  clear hb
  rw [HU.out]
  have k1 : decide ((20 : Int) < (D.size : Int)) = false := by simp; omega
  by_cases ha : k < 10
  · by_cases hb : -10 < k
    · go_wp2
      go_ret
      exact ⟨rfl, HB14.out⟩
    · obtain ⟨n, rfl⟩ : ∃ n : Nat, k = -(n : Int) := ⟨k.natAbs, by omega⟩
      have hn : 10 ≤ n := by omega
      have hn2 : n ≤ 9223372036854775808 := by have := HK.out; omega
      have HDT := Lib.hid (dec_neg_ten n hn (by omega))
      have e1 := tdiv_neg n
      have e2 := tmod_neg n
      go_wp2_with fail
      all_goals refine (dec_calls _ (by omega) _).mono ?_
      all_goals rintro e wf ⟨rfl, hb⟩
      all_goals have HB15 := Lib.hid (HB14.out.trans (hb.mono HB14.out.size))
      all_goals clear hb
      all_goals go_wp2_with fail
      · refine (dec_calls _ (by omega) _).mono ?_
        rintro e wg ⟨rfl, hb⟩
        have HB16 := Lib.hid (HB15.out.trans (hb.mono HB15.out.size))
        clear hb
        have hq : D = dec (-((n : Int) / 10)) ++ dec ((n : Int) % 10) := HD.out.trans (dec_neg_a n hn hn2)
        have hsum : (dec (-((n : Int) / 10))).size + (dec ((n : Int) % 10)).size ≤ 9223372036854775807 := by
          have h1 := (dec_size (-((n : Int) / 10)) (by omega)).2
          have h2 := (dec_size ((n : Int) % 10) (by omega)).2
          omega
        have HQ := Lib.hid hq
        have t2 : (D.toList == (dec (-((n : Int) / 10)) ++ dec ((n : Int) % 10)).toList) = true := by rw [← HQ.out]; exact str_eq D
        clear hq
        generalize dec (-((n : Int) / 10)) = P1 at hsum t2 ⊢
        generalize dec ((n : Int) % 10) = P2 at hsum t2 ⊢
        have a2 := fun (w : World) => run_string_add_sum (P := Try.prog) (w := w) P1 P2 hsum
        clear hsum HQ
        go_wp2
        go_ret
        exact ⟨rfl, HB16.out⟩
      · refine (dec_calls _ (by omega) _).mono ?_
        rintro e wg ⟨rfl, hb⟩
        have HB16 := Lib.hid (HB15.out.trans (hb.mono HB15.out.size))
        clear hb
        have hq : D = dec (-((n : Int) / 10)) ++ dec (-((n : Int) % 10)) := HD.out.trans (dec_neg_b n hn hn2 (by omega))
        have hsum : (dec (-((n : Int) / 10))).size + (dec (-((n : Int) % 10))).size ≤ 9223372036854775807 := by
          have h1 := (dec_size (-((n : Int) / 10)) (by omega)).2
          have h2 := (dec_size (-((n : Int) % 10)) (by omega)).2
          omega
        have HQ := Lib.hid hq
        have t2 : (D.toList == (dec (-((n : Int) / 10)) ++ dec (-((n : Int) % 10))).toList) = true := by rw [← HQ.out]; exact str_eq D
        clear hq
        generalize dec (-((n : Int) / 10)) = P1 at hsum t2 ⊢
        generalize dec (-((n : Int) % 10)) = P2 at hsum t2 ⊢
        have a2 := fun (w : World) => run_string_add_sum (P := Try.prog) (w := w) P1 P2 hsum
        clear hsum HQ
        go_wp2
        go_ret
        exact ⟨rfl, HB16.out⟩
  · obtain ⟨n, rfl⟩ : ∃ n : Nat, k = (n : Int) := ⟨k.natAbs, by omega⟩
    have hn : 10 ≤ n := by omega
    have hn2 : n ≤ 9223372036854775807 := by have := HK.out; omega
    have HDT := Lib.hid (dec_pos_ten n hn (by omega))
    go_wp2_with fail
    refine (dec_calls _ (by omega) _).mono ?_
    rintro e wf ⟨rfl, hb⟩
    have HB15 := Lib.hid (HB14.out.trans (hb.mono HB14.out.size))
    clear hb
    go_wp2_with fail
    refine (dec_calls _ (by omega) _).mono ?_
    rintro e wg ⟨rfl, hb⟩
    have HB16 := Lib.hid (HB15.out.trans (hb.mono HB15.out.size))
    clear hb
    have hq : D = dec ((n : Int) / 10) ++ dec ((n : Int) % 10) := HD.out.trans (dec_pos_a n hn hn2)
    have hsum : (dec ((n : Int) / 10)).size + (dec ((n : Int) % 10)).size ≤ 9223372036854775807 := by
      have h1 := (dec_size ((n : Int) / 10) (by omega)).2
      have h2 := (dec_size ((n : Int) % 10) (by omega)).2
      omega
    have HQ := Lib.hid hq
    have t2 : (D.toList == (dec ((n : Int) / 10) ++ dec ((n : Int) % 10)).toList) = true := by rw [← HQ.out]; exact str_eq D
    clear hq
    generalize dec ((n : Int) / 10) = P1 at hsum t2 ⊢
    generalize dec ((n : Int) % 10) = P2 at hsum t2 ⊢
    have a2 := fun (w : World) => run_string_add_sum (P := Try.prog) (w := w) P1 P2 hsum
    clear hsum HQ
    go_wp2
    go_ret
    exact ⟨rfl, HB16.out⟩
end Go.Proofs.Ytaghjiffmondjaa
