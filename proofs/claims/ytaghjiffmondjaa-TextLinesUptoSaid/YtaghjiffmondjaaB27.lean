/-
  the law TextLines, walked: it answers true.
-/
import Derived.Test.YtaghjiffmondjaaB26
set_option linter.unusedVariables false
set_option linter.unusedSimpArgs false
namespace Go.Proofs.Ytaghjiffmondjaa
open Go.RowKit

theorem own_empty (w : World) (B : Nat) (hB : B ≤ w.heap.size) : (w.alloc (.cells #[] 9)).ownsRow B 9 1 (.slice (some ⟨w.heap.size, 0, none⟩) 0 0) 0 [] :=
  ⟨rfl, .inr ⟨w.heap.size, 0, #[], rfl, hB, heap_alloc_new _ _, by omega, by decide, rfl, rfl⟩⟩
theorem full_start {w : World} {B g cap : Nat} {ls : List ByteArray} (h : w.ownsRow B 9 1 (.slice (some ⟨g, 0, none⟩) (ls.length + 1) cap) (ls.length + 1) (ls.map Value.string ++ [Value.string BEHIND])) : FullW g cap ls.length w ls := by
  rcases h.2 with ⟨h0, _⟩ | ⟨g', cap', cur, hv, hB, hg, hn, hm, hs, ht⟩
  · cases h0
  · simp only [Value.slice.injEq, Option.some.injEq, Addr.mk.injEq] at hv
    obtain ⟨⟨rfl, _⟩, _, rfl⟩ := hv
    rw [Nat.mul_one] at hs ht
    refine ⟨cur, hg, by omega, hs, rfl, ?_, ?_⟩
    · have := congrArg (List.take ls.length) ht
      rw [List.take_take, List.take_append_of_le_length (by simp)] at this
      rw [Nat.min_eq_left (by omega)] at this
      rw [this, List.take_of_length_le (by simp)]
    · have h1 : (cur.toList.take (ls.length + 1))[ls.length]? = some (.string BEHIND) := by rw [ht]; simp
      rw [List.getElem?_take, if_pos (by omega)] at h1
      simpa using h1

set_option maxHeartbeats 2000000 in
set_option maxRecDepth 100000 in
theorem textLines_calls (s : ByteArray) (ls : List ByteArray) (hs : s.size ≤ 1048576) (hl : sumL ls ≤ 1048576) (v : Value) (w : World) (hv : StrsIn w v ls) :
    Calls Try.prog 4 #[.string s, v] w fun e w' => e = .returned (.bool true) ∧ Below w.heap.size w w' := by
  obtain ⟨i0, hi, hz0, hz1, hz2⟩ := info_parts info9
  have HV0 := Lib.hid hv
  obtain ⟨A, cap, rfl, hc⟩ := hv
  have HC := Lib.hid hc
  have HS := Lib.hid hs
  have HL := Lib.hid hl
  have hn : ls.length ≤ 1048576 := by have := len_sum2 ls; omega
  clear hc hs hl
  go_enter Try.func4, Try.ntmps4
  go_wp2_with fail
  refine (lines_calls s (by have := HS.out; omega) w).mono ?_
  rintro e w1 ⟨v1, rfl, ho1, hb⟩
  have HB1 := Lib.hid hb
  have HI1 := Lib.hid (StrsIn.of_own ho1)
  clear hb ho1
  go_wp2_with fail
  refine (rLines_calls s (by have := HS.out; omega) w1).mono ?_
  rintro e w2 ⟨v2, rfl, ho2, hb⟩
  have HB2 := Lib.hid (HB1.out.trans (hb.mono HB1.out.size))
  have HI1b := Lib.hid (HI1.out.keep hb.block hb.size)
  have HI2 := Lib.hid (StrsIn.of_own ho2)
  clear hb ho2 HI1
  go_upto_region 3 with (fail)
  go_cut [9] (fun v9 wc => Hid (wc.ownsRow w2.heap.size 9 1 v9 ls.length (ls.map Value.string)) ∧ Hid (Below w2.heap.size w2 wc))
  case first =>
    have HE := Lib.hid (own_empty w2 w2.heap.size (Nat.le_refl _))
    have HEB := Lib.hid ((Below.refl w2.heap.size w2).alloc (Nat.le_refl _) (.cells #[] 9))
    by_cases h0 : ls.length = 0
    · have hls := List.length_eq_zero_iff.1 h0
      subst hls
      rcases A with _ | ad
      · go_wp2_with (at_builtin; refine wpList_append_zero rfl (.tmp 29) (.tmp 30) 23 rfl w2.heap.size 9 i0 1 Try.underlying23 hi (.slice (some ⟨w2.heap.size, 0, none⟩) 0 0) 0 [] rfl HE.out none cap rfl ?_)
        go_wp2
        go_meet
        case rel => exact ⟨HE, HEB⟩
      · go_wp2_with (at_builtin; refine wpList_append_zero rfl (.tmp 29) (.tmp 30) 23 rfl w2.heap.size 9 i0 1 Try.underlying23 hi (.slice (some ⟨w2.heap.size, 0, none⟩) 0 0) 0 [] rfl HE.out (some ad) cap rfl ?_)
        go_wp2
        go_meet
        case rel => exact ⟨HE, HEB⟩
    · obtain ⟨b, o, rfl, hb, hC1⟩ := HC.out (by omega)
      have HNW := Lib.hid (show ∀ j u, (ls.map Value.string)[j]? = some u → (w2.alloc (.cells #[] 9)).cell? ((⟨b, o, none⟩ : Addr).add j) = some u from by
        intro j u hu
        rw [List.getElem?_map] at hu
        have hj : j < ls.length := by
          rcases Nat.lt_or_ge j ls.length with h | h
          · exact h
          · rw [List.getElem?_eq_none h] at hu; simp at hu
        rw [List.getElem?_eq_getElem hj] at hu
        have hu2 : Value.string ls[j] = u := by simpa using hu
        rw [show (⟨b, o, none⟩ : Addr).add j = ⟨b, o + j, none⟩ by simp [Addr.add]]
        have hbel : Below w.heap.size w (w2.alloc (.cells #[] 9)) := HB2.out.alloc HB2.out.size _
        rw [hbel.cell hb, hC1 j hj, hu2])
      clear hC1
      go_wp2_with (at_builtin; refine wpList_append_lies _ rfl (.tmp 29) (.tmp 30) 23 rfl w2.heap.size 9 i0 (.string ⟨#[]⟩) 1 16 Try.underlying23 hi hz0 hz1 hz2 rfl (by decide) _ 0 [] rfl HE.out ⟨b, o, none⟩ ls.length cap (ls.map Value.string) rfl (by simp) HNW.out (str_one ls) (by omega) (by unfold maxLen; omega) (by omega) (by simp) _ rfl ?_)
      intro g cap2 w4 hown2 hgrow hat hltg
      try rw [Nat.zero_add] at hown2
      try rw [List.nil_append] at hown2
      have HO := Lib.hid hown2
      have HBn := Lib.hid (HEB.out.grown hgrow (by simp) (fun k hk => by simp [Value.ownBlock] at hk; omega))
      clear hown2 hgrow hat hltg
      try rw [Nat.zero_add]
      go_wp2
      go_meet
      case rel => exact ⟨HO, HBn⟩
  case rest =>
  obtain ⟨HO, HB3⟩ := hcut
  have hlm : (ls.map Value.string).length = ls.length := by simp
  go_wp2_with (at_builtin; refine wpList_append_lies _ rfl (.tmp 32) (.tmp 33) 23 rfl w2.heap.size 9 i0 (.string ⟨#[]⟩) 1 16 Try.underlying23 hi hz0 hz1 hz2 rfl (by decide) _ _ _ rfl (HO.out.alloc _) ⟨wc.heap.size, 0, none⟩ 1 1 [Value.string BEHIND] rfl rfl (World.news_of_block (heap_alloc_new _ _)) (str_one [_]) (by decide) (by unfold maxLen; omega) (by omega) (by have := HB3.out.size; simp; omega) _ rfl ?_)
  intro g cap2 w4 hown2 hgrow hat hltg
  have hgB : w2.heap.size ≤ g := by
    rcases hown2.2 with ⟨h0, _⟩ | ⟨g', cap', cur, hv, hB, _⟩
    · cases h0
    · simp only [Value.slice.injEq, Option.some.injEq, Addr.mk.injEq] at hv
      obtain ⟨⟨rfl, _⟩, _, _⟩ := hv
      exact hB
  have HFW := Lib.hid (full_start hown2)
  have HB4 := Lib.hid ((HB3.out.alloc HB3.out.size _).grown hgrow (by have := HB3.out.size; simp; omega) (fun k hk => (HO.out.lt k hk).1))
  have hcap : ls.length < cap2 := by obtain ⟨C, _, h1, h2, _⟩ := HFW.out; omega
  clear hown2 hgrow hat hltg HO HB3 hlm
  go_wp2
  go_loopw [11] (fun iv wr => ∃ i : Nat, iv = .int .i64 i ∧ i ≤ ls.length ∧ Hid (FullW g cap2 ls.length wr (List.replicate i OTHER ++ ls.drop i)) ∧ Hid (Below w2.heap.size w2 wr)) (fun iv _ => ls.length - (intOf iv).toNat)
  case atStart => exact ⟨0, rfl, by omega, Lib.hid (by simpa using HFW.out), HB4⟩
  case round =>
    clear HFW HB4
    obtain ⟨i, rfl, hi', HF, HB⟩ := hrel
    by_cases hlt : i < ls.length
    · obtain ⟨x0, hx0⟩ : ∃ x0, wr.cell? ⟨g, i, none⟩ = some x0 := ⟨_, HF.out.cell i hlt (by simp; omega)⟩
      have f0 := HF.out.frozen i
      have HF2 := Lib.hid (show FullW g cap2 ls.length (wr.setCell ⟨g, i, none⟩ (.string OTHER)) (List.replicate (i + 1) OTHER ++ ls.drop (i + 1)) by
        rw [← set_other ls OTHER i hlt]; exact HF.out.set i hlt OTHER)
      have HB2' := Lib.hid (HB.out.setCell (p := ⟨g, i, none⟩) hgB (.string OTHER))
      go_wp2
      exact ⟨⟨i + 1, by go_num, by omega, HF2, HB2'⟩, by simp [intOf]; omega⟩
    · obtain rfl : i = ls.length := by omega
      have hall : List.replicate ls.length OTHER ++ ls.drop ls.length = List.replicate ls.length OTHER := by simp
      rw [hall] at HF
      have HSO := Lib.hid (show sumL (List.replicate ls.length OTHER) ≤ 140737488355328 by rw [sumL_other]; omega)
      clear hall
      go_wp2_with fail
      refine (join_calls (List.replicate ls.length OTHER) HSO.out _ wr (HF.out.strs _)).mono ?_
      rintro e w5 ⟨rfl, hb⟩
      have HB5 := Lib.hid (HB.out.trans (hb.mono HB.out.size))
      have HF5 := Lib.hid (HF.out.keep (hb.block g (by obtain ⟨C, hC, _⟩ := HF.out; exact (Array.getElem?_eq_some_iff.1 hC).1)))
      clear hb HF HB
      generalize (joinOf (List.replicate ls.length OTHER)).1 = jo1
      generalize (joinOf (List.replicate ls.length OTHER)).2 = jo2
      go_wp2
      go_loopw [12] (fun iv wr => ∃ i : Nat, iv = .int .i64 i ∧ i ≤ ls.length ∧ Hid (FullW g cap2 ls.length wr (ls.take i ++ List.replicate (ls.length - i) OTHER)) ∧ Hid (Below w2.heap.size w2 wr)) (fun iv _ => ls.length - (intOf iv).toNat)
      case atStart => exact ⟨0, rfl, by omega, Lib.hid (by simpa using HF5.out), HB5⟩
      case round =>
        clear HF5 HB5
        obtain ⟨i, rfl, hi', HF, HB⟩ := hrel
        by_cases hlt2 : i < ls.length
        · obtain ⟨b, o, rfl, hb, hC1⟩ := HC.out (by omega)
          have c0 : wr.cell? ⟨b, o + i, none⟩ = some (.string ls[i]) := by
            rw [(HB2.out.trans (HB.out.mono HB2.out.size)).cell hb]; exact hC1 i hlt2
          clear hC1
          obtain ⟨x0, hx0⟩ : ∃ x0, wr.cell? ⟨g, i, none⟩ = some x0 := ⟨_, HF.out.cell i hlt2 (by simp; omega)⟩
          have f0 := HF.out.frozen i
          have HF2 := Lib.hid (show FullW g cap2 ls.length (wr.setCell ⟨g, i, none⟩ (.string ls[i])) (ls.take (i + 1) ++ List.replicate (ls.length - (i + 1)) OTHER) by
            rw [← set_back ls OTHER i hlt2]; exact HF.out.set i hlt2 ls[i])
          have HB2' := Lib.hid (HB.out.setCell (p := ⟨g, i, none⟩) hgB (.string ls[i]))
          obtain ⟨x, hx⟩ : ∃ x, x = ls[i] := ⟨_, rfl⟩
          rw [← hx] at c0 HF2 HB2'
          clear hx
          go_wp2
          exact ⟨⟨i + 1, by go_num, by omega, HF2, HB2'⟩, by simp [intOf]; omega⟩
        · obtain rfl : i = ls.length := by omega
          have hall : ls.take ls.length ++ List.replicate (ls.length - ls.length) OTHER = ls := by simp
          rw [hall] at HF
          clear hall
          have HSL := Lib.hid (show sumL ls ≤ 140737488355328 by have := HL.out; omega)
          go_wp2_with fail
          refine (join_calls ls HSL.out _ wr (HF.out.strs _)).mono ?_
          rintro e w6 ⟨rfl, hb⟩
          have HB6 := Lib.hid (HB.out.trans (hb.mono HB.out.size))
          have HF6 := Lib.hid (HF.out.keep (hb.block g (by obtain ⟨C, hC, _⟩ := HF.out; exact (Array.getElem?_eq_some_iff.1 hC).1)))
          clear hb HF HB
          have HW6 := Lib.hid (HB2.out.trans (HB6.out.mono HB2.out.size))
          have HV6 := Lib.hid (HV0.out.keep HW6.out.block HW6.out.size)
          go_wp2_with fail
          refine (rJoin_calls ls (by have := HL.out; omega) _ w6 HV6.out).mono ?_
          rintro e w7 ⟨rfl, hb⟩
          have HB7 := Lib.hid (HB6.out.trans (hb.mono HB6.out.size))
          have HF7 := Lib.hid (HF6.out.keep (hb.block g (by obtain ⟨C, hC, _⟩ := HF6.out; exact (Array.getElem?_eq_some_iff.1 hC).1)))
          clear hb HF6 HV6 HW6
          have HJ1 := Lib.hid (HI1b.out.keep HB7.out.block HB7.out.size)
          have HJ2 := Lib.hid (HI2.out.keep HB7.out.block HB7.out.size)
          have HLN := Lib.hid (lines_len s (by have := HS.out; omega))
          go_wp2_with fail
          refine (same_calls (linesOf s).1 (linesOf s).1 HLN.out HLN.out _ _ w7 HJ1.out HJ2.out).mono ?_
          rintro e w8 ⟨rfl, hb⟩
          rw [show sameB (linesOf s).1 (linesOf s).1 = true from decide_eq_true rfl]
          have HB8 := Lib.hid (HB7.out.trans (hb.mono HB7.out.size))
          have HF8 := Lib.hid (HF7.out.keep (hb.block g (by obtain ⟨C, hC, _⟩ := HF7.out; exact (Array.getElem?_eq_some_iff.1 hC).1)))
          clear hb HF7
          have HW8 := Lib.hid (HB2.out.trans (HB8.out.mono HB2.out.size))
          have HV8 := Lib.hid (HV0.out.keep HW8.out.block HW8.out.size)
          go_wp2_with fail
          refine (same_calls ls ls (by omega) (by omega) _ _ w8 (HF8.out.strs _) HV8.out).mono ?_
          rintro e w9 ⟨rfl, hb⟩
          rw [show sameB ls ls = true from decide_eq_true rfl]
          have HB9 := Lib.hid (HB8.out.trans (hb.mono HB8.out.size))
          have HF9 := Lib.hid (HF8.out.keep (hb.block g (by obtain ⟨C, hC, _⟩ := HF8.out; exact (Array.getElem?_eq_some_iff.1 hC).1)))
          clear hb HF8
          have HW9 := Lib.hid (HB2.out.trans (HB9.out.mono HB2.out.size))
          have c1 : w9.cell? ⟨g, ls.length, none⟩ = some (.string ⟨#[98, 101, 104, 105, 110, 100]⟩) := HF9.out.behind
          have t1 := str_eq (joinOf ls).1
          generalize (joinOf ls).1 = jj1 at t1 ⊢
          generalize (joinOf ls).2 = jj2
          generalize (linesOf s).2 = ll2
          go_wp2
          go_ret
          exact ⟨rfl, HW9.out⟩
end Go.Proofs.Ytaghjiffmondjaa
