/-
  the document's own UnB64.
-/
import Derived.Test.YtaghjiffmondjaaP4
set_option linter.unusedVariables false
set_option linter.unusedSimpArgs false
namespace Go.Proofs.Ytaghjiffmondjaa
open Go.RowKit


theorem own_prefix {w : World} {B g cap n m : Nat} {xs : List UInt8} (h : w.ownsRow B 5 1 (.slice (some ⟨g, 0, none⟩) n cap) n (xs.map bv)) (hx : xs.length = n) (hm : m ≤ n) : w.ownsRow B 5 1 (.slice (some ⟨g, 0, none⟩) m cap) (xs.take m).length ((xs.take m).map bv) := by
  have hl : (xs.take m).length = m := by rw [List.length_take]; omega
  rcases h.2 with ⟨h1, _⟩ | ⟨g', cap', cur, hv, hB, hg, hn, hc, hs, ht⟩
  · cases h1
  · injection hv with e1 e2 e3
    injection e1 with e1
    injection e1 with e1
    subst e1 e3
    refine ⟨by simp, .inr ⟨g, cap, cur, by rw [hl], hB, hg, by omega, hc, hs, ?_⟩⟩
    rw [List.map_take, ← ht, List.take_take]
    congr 1
    omega
theorem three_bv (n : Nat) (hn : n < 16777216) : [Value.int .u8 ((n : Int) / 65536), Value.int .u8 ((n : Int) / 256 % 256), Value.int .u8 ((n : Int) % 256)] = (three n).map bv := by
  unfold three bv
  simp only [List.map_cons, List.map_nil]
  rw [UInt8.toNat_ofNat', UInt8.toNat_ofNat', UInt8.toNat_ofNat', Nat.mod_eq_of_lt (show n / 65536 < 2 ^ 8 by omega), Nat.mod_eq_of_lt (show n / 256 % 256 < 2 ^ 8 by omega), Nat.mod_eq_of_lt (show n % 256 < 2 ^ 8 by omega)]
  simp
theorem cutL_int (s : ByteArray) (k : Nat) (h : cutL s.data.toList = k) : Value.int .i64 (k : Int) = Value.int .i64 ((cutL s.data.toList : Nat) : Int) := by rw [h]
theorem eq61 (c : UInt8) : ((c.toNat : Int) == 61) = (some c == some (61 : UInt8)) := by
  by_cases h : c = 61
  · subst h; rfl
  · rw [show (some c == some (61 : UInt8)) = false by simpa using h, beq_eq_false_iff_ne]
    intro e; exact h (UInt8.toNat_inj.1 (by have : (61 : UInt8).toNat = 61 := rfl; omega))
def b1L (l : List UInt8) : Bool := l.getLast? == some 61
def b2L (l : List UInt8) : Bool := l.dropLast.getLast? == some 61
theorem b1_is0 (s : ByteArray) (h : s.size = 0) : b1L s.data.toList = false := by
  rw [List.eq_nil_of_length_eq_zero (show s.data.toList.length = 0 by simpa using h)]; rfl
theorem b1_is (s : ByteArray) (b : s.size - 1 < s.size) : b1L s.data.toList = ((s[s.size - 1].toNat : Int) == 61) := by
  unfold b1L
  rw [getLast_at s b, eq61]
theorem b2_is (s : ByteArray) (b : s.size - 2 < s.size) (h : 1 < s.size) : b2L s.data.toList = ((s[s.size - 2].toNat : Int) == 61) := by
  unfold b2L
  rw [getLast_at2 s b h, eq61]
theorem b2_no (s : ByteArray) (h : ¬ 1 < s.size) : b2L s.data.toList = false := by
  unfold b2L
  rw [List.eq_nil_of_length_eq_zero (show s.data.toList.dropLast.length = 0 by rw [List.length_dropLast]; simp; omega)]; rfl
theorem cut_is (s : ByteArray) : cutL s.data.toList = if b1L s.data.toList = true then (if b2L s.data.toList = true then 2 else 1) else 0 := by
  unfold cutL b1L b2L
  simp only [beq_iff_eq]
set_option maxHeartbeats 2000000 in
set_option maxRecDepth 100000 in
theorem rUnB64_calls (s : ByteArray) (hs : s.size ≤ 300000000) (w : World) :
    Calls Try.prog 27 #[.string s] w fun e w' => e = .returned (.tuple #[.string (unB64 s).1, .int .i64 (unB64 s).2]) ∧ Below w.heap.size w w' := by
  rw [← rUnB64_eq]
  obtain ⟨i0, hi, hz0, hz1, hz2⟩ := info_parts info5
  go_enter Try.func27, Try.ntmps27
  go_wp2
  go_loopw [4, 5] (fun ov iv wr => ∃ (i : Nat) (xs : List UInt8), iv = .int .i64 i ∧ i ≤ s.size + 3 ∧ Hid (xs.length ≤ i ∧ quadsL s.data.toList = xs ++ quadsL (s.data.toList.drop i)) ∧ Hid (wr.ownsRow w.heap.size 5 1 ov xs.length (xs.map bv)) ∧ Hid (Below w.heap.size w wr)) (fun _ iv _ => s.size + 4 - (intOf iv).toNat)
  case atStart => exact ⟨0, [], rfl, by omega, Lib.hid ⟨by simp, by simp⟩, Lib.hid (World.ownsRow_nil _ _ _ _), Lib.hid (Below.refl _ _)⟩
  case round =>
    obtain ⟨i, xs, rfl, hi', HL, HO, HB⟩ := hrel
    by_cases hlt : i + 3 < s.size
    · have hlt0 : i < s.size := by omega
      have hlt1 : i + 1 < s.size := by omega
      have hlt2 : i + 2 < s.size := by omega
      have g1 : 0 ≤ (i : Int) + 1 ∧ (i : Int) + 1 < (s.size : Int) := by omega
      have g2 : 0 ≤ (i : Int) + 2 ∧ (i : Int) + 2 < (s.size : Int) := by omega
      have g3 : 0 ≤ (i : Int) + 3 ∧ (i : Int) + 3 < (s.size : Int) := by omega
      have d0 := vl_lt s[i]
      have d1 := vl_lt s[i + 1]
      have d2 := vl_lt s[i + 2]
      have d3 := vl_lt s[i + 3]
      have hn := qd_lt s[i] s[i + 1] s[i + 2] s[i + 3]
      have HQ : Hid (qd s[i] s[i + 1] s[i + 2] s[i + 3] = vl s[i] * 262144 + vl s[i + 1] * 4096 + vl s[i + 2] * 64 + vl s[i + 3]) := Lib.hid rfl
      have HN := Lib.hid (quads_at s i hlt)
      obtain ⟨n, hne⟩ : ∃ n, n = qd s[i] s[i + 1] s[i + 2] s[i + 3] := ⟨_, rfl⟩
      rw [← hne] at HQ HN hn
      clear hne
      obtain ⟨y0, hy0⟩ : ∃ y, y = vl s[i] := ⟨_, rfl⟩
      obtain ⟨y1, hy1⟩ : ∃ y, y = vl s[i + 1] := ⟨_, rfl⟩
      obtain ⟨y2, hy2⟩ : ∃ y, y = vl s[i + 2] := ⟨_, rfl⟩
      obtain ⟨y3, hy3⟩ : ∃ y, y = vl s[i + 3] := ⟨_, rfl⟩
      rw [← hy0] at d0 HQ
      rw [← hy1] at d1 HQ
      rw [← hy2] at d2 HQ
      rw [← hy3] at d3 HQ
      have HY0 : Hid (y0 = tb SIGNS s[i] - 1) := Lib.hid hy0
      have HY1 : Hid (y1 = tb SIGNS s[i + 1] - 1) := Lib.hid hy1
      have HY2 : Hid (y2 = tb SIGNS s[i + 2] - 1) := Lib.hid hy2
      have HY3 : Hid (y3 = tb SIGNS s[i + 3] - 1) := Lib.hid hy3
      have HV : Hid ((y0 : Int) * 262144 + (y1 : Int) * 4096 + (y2 : Int) * 64 + (y3 : Int) = (n : Int)) := Lib.hid (by rw [HQ.out]; simp)
      clear hy0 hy1 hy2 hy3
      go_wp2
      refine wp_region_seq (fun _ => True) [(0, false), (1, false), (2, false), (5, false), (6, false), (7, false), (8, false), (12, false), (13, false), (14, false), (15, false), (19, false), (20, false), (21, false), (22, false), (3, true), (4, false), (9, true), (10, false), (11, false), (16, true), (17, false), (18, false), (23, true), (24, false), (25, true)] (by kernel_rfl) (by kernel_rfl) (fun _ _ d _ _ h => by cases d <;> exact h) trivial ?_
      repeat (refine seqH_held ?_ (by rfl) (by rfl) (fun w' s1 => ?_) ?_; rotate_left; focus (go_simp; (try go_bits); exact rfl))
      refine seqH_actS (by rfl) (by rfl) (fun K hK => ?_)
      go_wp2_with fail
      refine (rvalue_calls SIGNS s[i] _ rfl (by decide) _).mono ?_
      rintro e w1 ⟨rfl, rfl⟩
      rw [← HY0.out]
      refine hK _ _ trivial ?_
      clear hK
      repeat (refine seqH_held ?_ (by rfl) (by rfl) (fun w' s1 => ?_) ?_; rotate_left; focus (go_simp; (try go_bits); exact rfl))
      refine seqH_actS (by rfl) (by rfl) (fun K hK => ?_)
      go_wp2_with fail
      refine (rvalue_calls SIGNS s[i + 1] _ rfl (by decide) _).mono ?_
      rintro e w1 ⟨rfl, rfl⟩
      rw [← HY1.out]
      refine hK _ _ trivial ?_
      clear hK
      repeat (refine seqH_held ?_ (by rfl) (by rfl) (fun w' s1 => ?_) ?_; rotate_left; focus (go_simp; (try go_bits); exact rfl))
      refine seqH_actS (by rfl) (by rfl) (fun K hK => ?_)
      go_wp2_with fail
      refine (rvalue_calls SIGNS s[i + 2] _ rfl (by decide) _).mono ?_
      rintro e w1 ⟨rfl, rfl⟩
      rw [← HY2.out]
      refine hK _ _ trivial ?_
      clear hK
      repeat (refine seqH_held ?_ (by rfl) (by rfl) (fun w' s1 => ?_) ?_; rotate_left; focus (go_simp; (try go_bits); exact rfl))
      refine seqH_actS (by rfl) (by rfl) (fun K hK => ?_)
      go_wp2_with fail
      refine (rvalue_calls SIGNS s[i + 3] _ rfl (by decide) _).mono ?_
      rintro e w1 ⟨rfl, rfl⟩
      rw [← HY3.out]
      refine hK _ _ trivial ?_
      clear hK
      repeat (refine seqH_held ?_ (by rfl) (by rfl) (fun w' s1 => ?_) ?_; rotate_left; focus (go_simp; (try go_bits); exact rfl))
      refine seqH_actS (by rfl) (by rfl) (fun K hK => ?_)
      go_wp2_with fail
      rw [HV.out]
      refine hK _ _ trivial ?_
      clear hK
      refine seqH_nil ?_
      clear HQ d0 d1 d2 d3
      have HN3 := Lib.hid (show (xs ++ three n).length ≤ i + 4 ∧ quadsL s.data.toList = (xs ++ three n) ++ quadsL (s.data.toList.drop (i + 4)) by
        obtain ⟨h1, h2⟩ := HL.out
        exact ⟨by simp [three]; omega, by rw [h2, HN.out]; simp⟩)
      have HT := Lib.hid (three_bv n hn)
      clear HN
      go_wp2_with (at_builtin; refine wpList_append_lies _ rfl (.tmp 42) (.tmp 53) 52 rfl w.heap.size 5 i0 (.int .u8 0) 1 1 Try.underlying52 hi hz0 hz1 hz2 rfl (by decide) _ _ _ rfl (HO.out.drew.alloc _) ⟨wr.heap.size, 0, none⟩ 3 3 [Value.int IntKind.u8 ((n : Int) / 65536), Value.int IntKind.u8 ((n : Int) / 256 % 256), Value.int IntKind.u8 ((n : Int) % 256)] rfl rfl (World.news_of_block (heap_alloc_new _ _)) (by rw [HT.out]; exact bv_one (three n)) (by decide) (by have := HL.out.1; unfold maxLen; omega) (by have := HL.out.1; omega) (by have := HB.out.size; simp; omega) _ rfl ?_)
      intro g cap w2 hown2 hgrow hat hltg
      have HO2 : Hid (w2.ownsRow w.heap.size 5 1 (.slice (some ⟨g, 0, none⟩) (xs.length + 3) cap) (xs ++ three n).length ((xs ++ three n).map bv)) := Lib.hid (by
        rw [HT.out] at hown2; rw [List.length_append, List.map_append]; exact hown2)
      have HB2 := Lib.hid ((HB.out.drew.alloc HB.out.size _).grown hgrow (by have := HB.out.size; simp; omega) (fun k hk => (HO.out.lt k hk).1))
      clear hown2 hgrow hat hltg
      go_wp2
      exact ⟨⟨i + 4, _, by go_num, by omega, HN3, HO2, HB2⟩, by simp [intOf]; omega⟩
    · have HE := Lib.hid (show quadsL s.data.toList = xs ∧ xs.length ≤ s.size + 3 by
        obtain ⟨h1, h2⟩ := HL.out
        exact ⟨by rw [h2, quads_end s i hlt, List.append_nil], by omega⟩)
      have hxl : xs.length ≤ 300000003 := by have := HE.out.2; omega
      clear HL
      go_upto_region 8 with (fail)
      clear hlt
      go_cut [65] (fun v wc => v = .bool (b1L s.data.toList) ∧ wr = wc)
      case first =>
        by_cases h0 : s.size = 0
        · have hk := Lib.hid (show Value.bool false = Value.bool (b1L s.data.toList) by rw [b1_is0 s h0])
          have k1 : decide (0 < s.size) = false := decide_eq_false (by omega)
          clear h0
          go_wp2
          go_meet
          case rel => exact ⟨hk.out, rfl⟩
        · have k1 : decide (0 < s.size) = true := decide_eq_true (by omega)
          have b1 : 1 ≤ (s.size : Int) := by omega
          have b2 : s.size - 1 < s.size := by omega
          have hk := Lib.hid (show Value.bool ((s[s.size - 1].toNat : Int) == 61) = Value.bool (b1L s.data.toList) by rw [b1_is s b2])
          clear h0
          go_wp2
          go_meet
          case rel => exact ⟨hk.out, rfl⟩
      case rest =>
      obtain ⟨rfl, rfl⟩ := hcut
      have HC2 := Lib.hid (cut_is s)
      obtain ⟨b, hb⟩ : ∃ c, c = b1L s.data.toList := ⟨_, rfl⟩
      rw [← hb] at HC2 ⊢
      clear hb
      go_upto_if 65 with (fail)
      go_cut [7] (fun v wc => v = .int .i64 (if b = true then 1 else 0) ∧ wr = wc)
      case first =>
        cases b
        · go_wp2
          go_meet
          case rel => exact ⟨rfl, rfl⟩
        · go_wp2
          go_meet
          case rel => exact ⟨rfl, rfl⟩
      case rest =>
      obtain ⟨rfl, rfl⟩ := hcut
      go_upto_region 10 with (fail)
      go_cut [80] (fun v wc => v = .bool (b && b2L s.data.toList) ∧ wr = wc)
      case first =>
        by_cases h1 : 1 < s.size
        · have k2 : decide (1 < s.size) = true := decide_eq_true h1
          have b3 : 2 ≤ (s.size : Int) := by omega
          have b4 : s.size - 2 < s.size := by omega
          have hk := Lib.hid (show ((s[s.size - 2].toNat : Int) == 61) = (b2L s.data.toList) from (b2_is s b4 h1).symm)
          cases b
          · go_wp2
            go_meet
            case rel => exact ⟨rfl, rfl⟩
          · go_wp2
            go_meet
            case rel => exact ⟨by rw [← hk.out]; rfl, rfl⟩
        · have k2 : decide (1 < s.size) = false := decide_eq_false h1
          have hk := Lib.hid (b2_no s h1)
          cases b
          · go_wp2
            go_meet
            case rel => exact ⟨rfl, rfl⟩
          · go_wp2
            go_meet
            case rel => exact ⟨by rw [hk.out]; rfl, rfl⟩
      case rest =>
      obtain ⟨rfl, rfl⟩ := hcut
      obtain ⟨b2, hb2⟩ : ∃ c, c = b2L s.data.toList := ⟨_, rfl⟩
      rw [← hb2] at HC2 ⊢
      clear hb2
      go_upto_if 80 with (fail)
      go_cut [7] (fun v wc => v = .int .i64 ((cutL s.data.toList : Nat) : Int) ∧ wr = wc)
      case first =>
        cases b
        · cases b2
          · go_wp2
            go_meet
            case rel => exact ⟨by rw [HC2.out]; rfl, rfl⟩
          · go_wp2
            go_meet
            case rel => exact ⟨by rw [HC2.out]; rfl, rfl⟩
        · cases b2
          · go_wp2
            go_meet
            case rel => exact ⟨by rw [HC2.out]; rfl, rfl⟩
          · go_wp2
            go_meet
            case rel => exact ⟨by rw [HC2.out]; rfl, rfl⟩
      case rest =>
      obtain ⟨rfl, rfl⟩ := hcut
      clear HC2
      have hc2 : cutL s.data.toList ≤ 2 := by unfold cutL; split <;> (try split) <;> omega
      have HS1 := Lib.hid (show (quadsL s.data.toList).length < cutL s.data.toList → rUnB64 s = (⟨#[]⟩, 40) from cut_short s)
      have HR := Lib.hid (show rUnB64 s = if b64 (mk (xs.take (xs.length - cutL s.data.toList))) = s then (mk (xs.take (xs.length - cutL s.data.toList)), 0) else (⟨#[]⟩, 40) by
        unfold rUnB64 rBare; rw [HE.out.1])
      obtain ⟨c, hce⟩ : ∃ c, c = cutL s.data.toList := ⟨_, rfl⟩
      rw [← hce] at HS1 HR hc2 ⊢
      clear hce
      by_cases hsh : xs.length < c
      · have HF2 := Lib.hid (show rUnB64 s = (⟨#[]⟩, 40) from HS1.out (by rw [HE.out.1]; exact hsh))
        have k1 : decide (xs.length < c) = true := decide_eq_true hsh
        rcases HO.out.2 with ⟨rfl, h0⟩ | ⟨g, cap, cur, rfl, _, _, hn1, hn2, _, _⟩
        · have hc0 : 0 < c := by omega
          have k2 : decide (0 < c) = true := decide_eq_true hc0
          clear h0 k1
          go_wp2
          go_ret2
          exact ⟨by rw [HF2.out]; rfl, HB.out⟩
        · go_wp2
          go_ret2
          exact ⟨by rw [HF2.out]; rfl, HB.out⟩
      · have k1 : decide (xs.length < c) = false := decide_eq_false hsh
        obtain ⟨t, ht⟩ : ∃ t, t = mk (xs.take (xs.length - c)) := ⟨_, rfl⟩
        rw [← ht] at HR
        have hts : t.size ≤ 300000003 := by rw [ht, mk_size, List.length_take]; omega
        have HTS := Lib.hid hts
        have HTS := Lib.hid hts
        clear hts
        rcases HO.out.2 with ⟨rfl, h0⟩ | ⟨g, cap, cur, rfl, _, _, hn1, hn2, _, _⟩
        · obtain rfl : c = 0 := by omega
          have hx0 : xs = [] := List.eq_nil_of_length_eq_zero h0
          have HT0 := Lib.hid (show (⟨#[]⟩ : ByteArray) = t by rw [ht, hx0]; rfl)
          clear h0 hx0 ht k1 hsh
          have k2 : decide ((0 : Nat) < 0) = false := rfl
          have hcv := run_convert_bytes_nil wr 52 5 Try.underlying52 Try.underlying5 0 0 9 Try.underlying9
          rw [show (ByteArray.empty) = t from HT0.out] at hcv
          go_wp2_with fail
          refine (rB64_calls t (by have := HTS.out; omega) _).mono ?_
          rintro e w2 ⟨rfl, hb⟩
          have HB2 := Lib.hid (HB.out.trans (hb.mono HB.out.size))
          clear hb
          obtain ⟨D, hD⟩ : ∃ D, D = b64 t := ⟨_, rfl⟩
          rw [← hD]
          have HD := Lib.hid hD
          clear hD
          by_cases hDs : D = s
          · have HF2 := Lib.hid (show rUnB64 s = (t, 0) by rw [HR.out, if_pos (by rw [← HD.out]; exact hDs)])
            have t1 : (D.toList == s.toList) = true := by rw [hDs]; exact str_eq s
            have t2 : (D.toList != s.toList) = false := by rw [hDs]; simp
            clear hDs
            go_wp2
            go_ret2
            exact ⟨by rw [HF2.out]; rfl, HB2.out⟩
          · have HF2 := Lib.hid (show rUnB64 s = (⟨#[]⟩, 40) by rw [HR.out, if_neg (by rw [← HD.out]; exact hDs)])
            have t1 := str_ne hDs
            have t2 : (D.toList != s.toList) = true := by simp [bne, t1]
            clear hDs
            go_wp2
            go_ret2
            exact ⟨by rw [HF2.out]; rfl, HB2.out⟩
        · have hcv := own_string (own_prefix HO.out rfl (Nat.sub_le xs.length c))
          rw [show (⟨(xs.take (xs.length - c)).toArray⟩ : ByteArray) = t from ht.symm] at hcv
          clear ht
          go_wp2_with fail
          refine (rB64_calls t (by have := HTS.out; omega) _).mono ?_
          rintro e w2 ⟨rfl, hb⟩
          have HB2 := Lib.hid (HB.out.trans (hb.mono HB.out.size))
          clear hb
          obtain ⟨D, hD⟩ : ∃ D, D = b64 t := ⟨_, rfl⟩
          rw [← hD]
          have HD := Lib.hid hD
          clear hD
          by_cases hDs : D = s
          · have HF2 := Lib.hid (show rUnB64 s = (t, 0) by rw [HR.out, if_pos (by rw [← HD.out]; exact hDs)])
            have t1 : (D.toList == s.toList) = true := by rw [hDs]; exact str_eq s
            have t2 : (D.toList != s.toList) = false := by rw [hDs]; simp
            clear hDs
            go_wp2
            go_ret2
            exact ⟨by rw [HF2.out]; rfl, HB2.out⟩
          · have HF2 := Lib.hid (show rUnB64 s = (⟨#[]⟩, 40) by rw [HR.out, if_neg (by rw [← HD.out]; exact hDs)])
            have t1 := str_ne hDs
            have t2 : (D.toList != s.toList) = true := by simp [bne, t1]
            clear hDs
            go_wp2
            go_ret2
            exact ⟨by rw [HF2.out]; rfl, HB2.out⟩
end Go.Proofs.Ytaghjiffmondjaa
