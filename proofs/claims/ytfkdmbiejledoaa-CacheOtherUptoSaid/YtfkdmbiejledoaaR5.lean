/-
  The document answer: put.
-/
import Derived.Test.YtfkdmbiejledoaaR4
set_option linter.unusedVariables false
set_option linter.unusedSimpArgs false
namespace Go.Proofs.Ytfkdmbiejledoaa
open Go.RowKit


theorem erase_last {α : Type} (l : List α) : l.eraseIdx (l.length - 1) = l.dropLast := by
  rcases List.eq_nil_or_concat l with rfl | ⟨xs, x, rfl⟩
  · rfl
  · have e : (xs ++ [x]).length - 1 = xs.length := by simp
    rw [List.concat_eq_append, e, erase_at, List.dropLast_concat]
section
variable {w w' : World} {r : Nat} {most hits misses gone : Int} {es : Es} {fp : Nat → Prop}
set_option maxHeartbeats 2000000 in
set_option maxRecDepth 100000 in
theorem putR (k v : ByteArray) (H : RObj w r most es hits misses gone fp) (hm0 : 0 ≤ most) (hm : (es.length : Int) ≤ most) (hl : es.length ≤ 1000000) (h1 : -1000000000 ≤ gone ∧ gone ≤ 1000000000) :
    Calls Try.prog 38 #[ptr r, .string k, .string v] w fun x w' => x = .returned (.tuple #[.string (putOut es most k).1, .bool (putOut es most k).2]) ∧
      ∃ fp', RObj w' r most (putE es most k v) hits misses (gone + one (putOut es most k).2) fp' ∧ Turn fp w w' ∧ ∀ b, fp' b → fp b ∨ w.heap.size ≤ b := by
  have HR := Lib.hid H
  clear H
  obtain ⟨h1, h1'⟩ := h1
  have HM := Lib.hid (And.intro hm0 hm)
  go_enter Try.func38, Try.ntmps38
  go_wp2_with fail
  refine (placeR k HR.out hl).mono ?_
  rintro x w1 ⟨⟨p, rfl, hp⟩, rfl⟩
  obtain ⟨⟨Kv, Vv, hr⟩, hn⟩ := HR.out
  rcases hp with ⟨hv, rfl⟩ | ⟨xs, ys, u, h0, hv, rfl⟩
  · have hf : (findV es k).isSome = false := by rw [hv]; rfl
    have hnk := findV_none hv
    have HRR := Lib.hid hr
    have HN := Lib.hid (nodup_front (v := v) hn hnk)
    have HN0 := Lib.hid hn
    have c0 : w.cell? ⟨r, 0, none⟩ = some (.int .i64 most) := hr.field (i := 0) (by decide)
    have c5 : w.cell? ⟨r, 5, none⟩ = some (.int .i64 gone) := hr.field (i := 5) (by decide)
    have f5 : w.frozen? ⟨r, 5, none⟩ = false := frozen_of_block hr.blk
    obtain ⟨A, cap, rfl, _, hcells⟩ := hr.kin.strs
    have c1 : w.cell? ⟨r, 1, none⟩ = _ := hr.field (i := 1) (by decide)
    simp only [List.length_map, List.getElem_toArray, List.getElem_cons_succ, List.getElem_cons_zero] at c1
    have HC := Lib.hid hcells
    clear hr hn HR hcells
    by_cases hz : most = 0
    · have HP := Lib.hid (show putOut es most k = (k, true) by unfold putOut; rw [if_neg (by rw [hf]; simp), if_pos hz])
      have HE := Lib.hid (putE_zero (v := v) hf hz)
      have t0 : (most == 0) = true := by rw [hz]; rfl
      clear hf hnk hv hz
      go_wp2
      go_ret2
      refine ⟨by rw [HP.out]; rfl, fp, ?_, ((Turn.refl (fun b => b = r) w).setCell (p := ⟨r, 5, none⟩) (.inl rfl) _).less HRR.out.own, fun b hb => .inl hb⟩
      rw [HP.out, HE.out]
      exact ⟨⟨_, _, HRR.out.count5 _⟩, HN0.out⟩
    · have t0 : (most == 0) = false := by rw [beq_eq_false_iff_ne]; exact hz
      by_cases hr : (es.length : Int) < most
      · have HP := Lib.hid (show putOut es most k = (⟨#[]⟩, false) by unfold putOut; rw [if_neg (by rw [hf]; simp), if_neg hz, if_pos hr])
        have HE := Lib.hid (putE_room (v := v) hf hz hr)
        have t1 : decide ((es.length : Int) < most) = true := decide_eq_true hr
        clear hf hnk hv hz hm hm0
        go_wp2_with fail
        refine (newest_calls k v HRR.out (by rw [List.length_map]; exact hl) (by rw [List.length_map, List.length_map])).mono ?_
        rintro x w3 ⟨rfl, Kv3, Vv3, fp3, r3, t3, g3⟩
        have HF := Lib.hid (show ∃ fp', RObj w3 r most ((k, v) :: es) hits misses gone fp' ∧ Turn fp w w3 ∧ ∀ b, fp' b → fp b ∨ w.heap.size ≤ b from ⟨fp3, ⟨⟨_, _, r3⟩, HN.out⟩, t3, g3⟩)
        clear r3 t3 g3
        go_wp2
        go_ret2
        refine ⟨by rw [HP.out]; rfl, ?_⟩
        rw [HP.out, HE.out]
        show ∃ fp', RObj w3 r most _ hits misses (gone + 0) fp' ∧ _
        rw [Int.add_zero]
        exact HF.out
      · have hpos : 0 < es.length := by omega
        have HP := Lib.hid (show putOut es most k = (((es.getLast?).map (·.1)).getD ⟨#[]⟩, true) by unfold putOut; rw [if_neg (by rw [hf]; simp), if_neg hz, if_neg hr])
        have HE := Lib.hid (putE_full (v := v) hf hz hr)
        have t1 : decide ((es.length : Int) < most) = false := decide_eq_false hr
        have hi1 : es.length - 1 < (es.map (·.1)).length := by rw [List.length_map]; omega
        have HLK := Lib.hid (show ((es.getLast?).map (·.1)).getD ⟨#[]⟩ = (es.map (·.1))[es.length - 1] by
          rw [List.getLast?_eq_getElem?, List.getElem?_eq_getElem (show es.length - 1 < es.length by omega)]
          simp)
        obtain ⟨kb, ko, rfl, hkb, hC1⟩ := HC.out (by rw [List.length_map]; omega)
        have hc := hC1 (es.length - 1) hi1
        have HX := Lib.hid (show (es.map (·.1)).eraseIdx (es.length - 1) = es.dropLast.map (·.1) ∧ (es.map (·.2)).eraseIdx (es.length - 1) = es.dropLast.map (·.2) by
          have e1 := erase_last (es.map (·.1))
          have e2 := erase_last (es.map (·.2))
          rw [List.length_map] at e1 e2
          exact ⟨by rw [e1, List.map_dropLast], by rw [e2, List.map_dropLast]⟩)
        have HN2 := Lib.hid (show (((k, v) :: es.dropLast : Es).map (·.1)).Nodup by
          have hs : (es.dropLast.map (·.1)).Sublist (es.map (·.1)) := (dropLast_sub es).map _
          exact nodup_front (hs.nodup HN0.out) (fun h => hnk (hs.subset h)))
        obtain ⟨old, hold⟩ : ∃ old, old = (es.map (·.1))[es.length - 1] := ⟨_, rfl⟩
        rw [← hold] at hc HLK
        have hl2 := hl
        obtain ⟨N, hN⟩ : ∃ N, N = es.length := ⟨_, rfl⟩
        have HNE := Lib.hid hN
        have HL := Lib.hid hl
        rw [← hN] at c1 t1 hc hpos hl2
        have hb1 : 1 ≤ (N : Int) := by omega
        have hb2 : (N : Int) - 1 < (N : Int) := by omega
        clear hold hf hnk hv hz hm hm0 hC1 hi1 hr hN hl HC
        go_wp2_with fail
        refine (out_calls' _ (es.length - 1) (by rw [← HNE.out]; omega) HRR.out (by rw [List.length_map]; exact HL.out) (by rw [List.length_map, List.length_map]) (by rw [List.length_map, ← HNE.out]; omega)).mono ?_
        rintro x w2 ⟨rfl, Kv2, Vv2, fp2, r2, t2, g2⟩
        rw [HX.out.1, HX.out.2] at r2
        have HR2 := Lib.hid r2
        have HT2 := Lib.hid t2
        have HG2 := Lib.hid g2
        clear r2 t2 g2 c0 c1 hc
        go_wp2_with fail
        refine (newest_calls k v HR2.out (by have := HL.out; rw [List.length_map, List.length_dropLast]; omega) (by rw [List.length_map, List.length_map])).mono ?_
        rintro x w3 ⟨rfl, Kv3, Vv3, fp3, r3, t3, g3⟩
        obtain ⟨t3', g3'⟩ := HT2.out.step HG2.out t3 g3
        have HR3 := Lib.hid r3
        have HT3 := Lib.hid t3'
        have HG3 := Lib.hid g3'
        clear r3 t3 g3 t3' g3' c5 f5
        have c5 : w3.cell? ⟨r, 5, none⟩ = some (.int .i64 gone) := HR3.out.field (i := 5) (by decide)
        have f5 : w3.frozen? ⟨r, 5, none⟩ = false := frozen_of_block HR3.out.blk
        go_wp2
        go_ret2
        refine ⟨by rw [HP.out, HLK.out]; rfl, fp3, ?_, (HT3.out.step HG3.out (((Turn.refl (fun b => b = r) w3).setCell (p := ⟨r, 5, none⟩) (.inl rfl) _).less HR3.out.own) (fun b hb => .inl hb)).1, HG3.out⟩
        rw [HP.out, HE.out]
        exact ⟨⟨_, _, HR3.out.count5 _⟩, HN2.out⟩
  · have hf : (findV es k).isSome = true := by rw [hv]; rfl
    have HP := Lib.hid (show putOut es most k = (⟨#[]⟩, false) by unfold putOut; rw [if_pos hf])
    have hn2 := hn
    rw [h0] at hn2
    have HE := Lib.hid (show putE es most k v = (k, v) :: (xs ++ ys) by rw [putE_some hf, h0, rem_mid hn2])
    have HN := Lib.hid (show (((k, v) :: (xs ++ ys) : Es).map (·.1)).Nodup by
      refine nodup_front ?_ ?_
      · rw [← rem_mid hn2]; exact nodup_rem hn2 k
      · rw [← rem_mid hn2]; exact findV_none (find_rem _ k))
    have HL0 := Lib.hid (show (xs ++ (k, u) :: ys).length ≤ 1000000 by rw [← h0]; exact hl)
    rw [h0] at hr
    have HRR := Lib.hid hr
    clear hn2 hn h0 hv HR hf hr
    go_wp2_with fail
    refine (out_calls xs.length HRR.out (by rw [List.length_map]; exact HL0.out) (by rw [List.length_map, List.length_map]) (by rw [List.length_map]; simp)).mono ?_
    rintro x w2 ⟨rfl, Kv2, Vv2, fp2, r2, t2, g2⟩
    rw [erase_key.1, erase_key.2] at r2
    have HR2 := Lib.hid r2
    have HT2 := Lib.hid t2
    have HG2 := Lib.hid g2
    clear r2 t2 g2
    go_wp2_with fail
    refine (newest_calls k v HR2.out (by have := HL0.out; simp at this ⊢; omega) (by rw [List.length_map, List.length_map])).mono ?_
    rintro x w3 ⟨rfl, Kv3, Vv3, fp3, r3, t3, g3⟩
    obtain ⟨t3', g3'⟩ := HT2.out.step HG2.out t3 g3
    have HF := Lib.hid (show ∃ fp', RObj w3 r most ((k, v) :: (xs ++ ys)) hits misses gone fp' ∧ Turn fp w w3 ∧ ∀ b, fp' b → fp b ∨ w.heap.size ≤ b from ⟨fp3, ⟨⟨_, _, r3⟩, HN.out⟩, t3', g3'⟩)
    clear r3 t3 g3 t3' g3'
    go_wp2
    go_ret2
    refine ⟨by rw [HP.out]; rfl, ?_⟩
    rw [HE.out, HP.out]
    show ∃ fp', RObj w3 r most _ hits misses (gone + 0) fp' ∧ _
    rw [Int.add_zero]
    exact HF.out
end
end Go.Proofs.Ytfkdmbiejledoaa
