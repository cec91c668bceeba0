/-
  The document answer: get.
-/
import Derived.Test.YtfkdmbiejledoaaR3
set_option linter.unusedVariables false
set_option linter.unusedSimpArgs false
namespace Go.Proofs.Ytfkdmbiejledoaa
open Go.RowKit


theorem erase_key {xs ys : Es} {k v : ByteArray} : ((xs ++ (k, v) :: ys).map (·.1)).eraseIdx xs.length = (xs ++ ys).map (·.1) ∧ ((xs ++ (k, v) :: ys).map (·.2)).eraseIdx xs.length = (xs ++ ys).map (·.2) := by
  rw [List.map_append, List.map_append, List.map_append, List.map_append, List.map_cons, List.map_cons]
  have e1 : (xs.map (·.1)).length = xs.length := by simp
  have e2 : (xs.map (·.2)).length = xs.length := by simp
  constructor
  · rw [← e1, List.eraseIdx_append_of_length_le (Nat.le_refl _)]; simp
  · rw [← e2, List.eraseIdx_append_of_length_le (Nat.le_refl _)]; simp
theorem out_calls' {w : World} {r : Nat} {most hits misses gone : Int} {Kv Vv : Value} {ks vs : List ByteArray} {fp : Nat → Prop} (z : Int) (i : Nat) (hz : z = i) (H : RRep w r most Kv Vv ks vs hits misses gone fp) (hl : ks.length ≤ 1000000) (hlv : vs.length = ks.length) (hi : i < ks.length) :
    Calls Try.prog 54 #[ptr r, .int .i64 z] w fun x w' => x = .returned (.tuple #[]) ∧ ∃ Kv' Vv' fp', RRep w' r most Kv' Vv' (ks.eraseIdx i) (vs.eraseIdx i) hits misses gone fp' ∧ Turn fp w w' ∧ ∀ b, fp' b → fp b ∨ w.heap.size ≤ b := by
  subst hz; exact out_calls i H hl hlv hi
theorem Turn.step {w w1 w2 : World} {f f1 f2 : Nat → Prop} (h1 : Turn f w w1) (g1 : ∀ b, f1 b → f b ∨ w.heap.size ≤ b) (h2 : Turn f1 w1 w2) (g2 : ∀ b, f2 b → f1 b ∨ w1.heap.size ≤ b) : Turn f w w2 ∧ ∀ b, f2 b → f b ∨ w.heap.size ≤ b :=
  ⟨h1.trans' h2 g1, fun b h => (g2 b h).elim (g1 b) fun h => .inr (Nat.le_trans h1.size h)⟩
section
variable {w w' : World} {r : Nat} {most hits misses gone : Int} {es : Es} {fp : Nat → Prop}
set_option maxHeartbeats 1000000 in
set_option maxRecDepth 100000 in
theorem getR (k : ByteArray) (H : RObj w r most es hits misses gone fp) (hl : es.length ≤ 1000000) (h1 : -1000000000 ≤ hits ∧ hits ≤ 1000000000) (h2 : -1000000000 ≤ misses ∧ misses ≤ 1000000000) :
    Calls Try.prog 36 #[ptr r, .string k] w fun x w' => x = .returned (.tuple #[.string ((findV es k).getD ⟨#[]⟩), .bool (findV es k).isSome]) ∧
      ∃ fp', RObj w' r most (getE es k) (hits + one (findV es k).isSome) (misses + one (!(findV es k).isSome)) gone fp' ∧ Turn fp w w' ∧ ∀ b, fp' b → fp b ∨ w.heap.size ≤ b := by
  have HR := Lib.hid H
  clear H
  obtain ⟨h1, h1'⟩ := h1
  obtain ⟨h2, h2'⟩ := h2
  go_enter Try.func36, Try.ntmps36
  go_wp2_with fail
  refine (placeR k HR.out hl).mono ?_
  rintro x w1 ⟨⟨p, rfl, hp⟩, rfl⟩
  obtain ⟨⟨Kv, Vv, hr⟩, hn⟩ := HR.out
  rcases hp with ⟨hv, rfl⟩ | ⟨xs, ys, v, h0, hv, rfl⟩
  · have HV := Lib.hid hv
    have HG := Lib.hid (get_same (es := es) (k := k) (by rw [hv]; rfl))
    have HRR := Lib.hid hr
    have HN := Lib.hid hn
    have c4 : w.cell? ⟨r, 4, none⟩ = some (.int .i64 misses) := hr.field (i := 4) (by decide)
    have f4 : w.frozen? ⟨r, 4, none⟩ = false := frozen_of_block hr.blk
    clear hv hr hn HR
    go_wp2
    go_ret2
    refine ⟨by rw [HV.out]; rfl, fp, ?_, ((Turn.refl (fun b => b = r) w).setCell (p := ⟨r, 4, none⟩) (.inl rfl) _).less HRR.out.own, fun b hb => .inl hb⟩
    rw [HV.out, HG.out]
    refine ⟨⟨Kv, Vv, ?_⟩, HN.out⟩
    show RRep _ r most _ _ _ _ (hits + 0) (misses + 1) gone fp
    rw [Int.add_zero]
    exact HRR.out.count4 _
  · have HV := Lib.hid hv
    have hn2 := hn
    rw [h0] at hn2
    have HE := Lib.hid (show getE es k = (k, v) :: (xs ++ ys) by rw [getE_some hv, h0, rem_mid hn2])
    have HN := Lib.hid (show (((k, v) :: (xs ++ ys) : Es).map (·.1)).Nodup by
      refine nodup_front ?_ ?_
      · rw [← rem_mid hn2]; exact nodup_rem hn2 k
      · rw [← rem_mid hn2]; exact findV_none (find_rem _ k))
    have HL0 := Lib.hid (show (xs ++ (k, v) :: ys).length ≤ 1000000 by rw [← h0]; exact hl)
    rw [h0] at hr
    clear hn2 hn h0 hv HR
    have c3 : w.cell? ⟨r, 3, none⟩ = some (.int .i64 hits) := hr.field (i := 3) (by decide)
    have f3 : w.frozen? ⟨r, 3, none⟩ = false := frozen_of_block hr.blk
    obtain ⟨w1, hw1⟩ : ∃ w1, w1 = w.setCell ⟨r, 3, none⟩ (.int .i64 (hits + 1)) := ⟨_, rfl⟩
    have HR1 := Lib.hid (show RRep w1 r most Kv Vv ((xs ++ (k, v) :: ys).map (·.1)) ((xs ++ (k, v) :: ys).map (·.2)) (hits + 1) misses gone fp by rw [hw1]; exact hr.count3 _)
    have HT1 := Lib.hid (show Turn fp w w1 by rw [hw1]; exact ((Turn.refl (fun b => b = r) w).setCell (p := ⟨r, 3, none⟩) (.inl rfl) _).less hr.own)
    clear hr
    go_upto_region 6 with (fail)
    rw [← hw1]
    clear hw1 c3 f3
    obtain ⟨vb, vo, cap, rfl, hvb, _, c0, hlt⟩ := HR1.out.val
    have c2 : w1.cell? ⟨r, 2, none⟩ = _ := HR1.out.field (i := 2) (by decide)
    simp only [List.getElem_toArray, List.getElem_cons_succ, List.getElem_cons_zero] at c2
    obtain ⟨N, hN⟩ : ∃ N, N = (xs ++ (k, v) :: ys).length := ⟨_, rfl⟩
    have HNN := Lib.hid hN
    rw [← hN] at c2 hlt
    clear hN
    go_wp2_with fail
    refine (out_calls xs.length HR1.out (by rw [List.length_map]; exact HL0.out) (by rw [List.length_map, List.length_map]) (by rw [List.length_map, ← HNN.out]; exact hlt)).mono ?_
    rintro x w2 ⟨rfl, Kv2, Vv2, fp2, r2, t2, g2⟩
    rw [erase_key.1, erase_key.2] at r2
    have HR2 := Lib.hid r2
    obtain ⟨t2', g2'⟩ := HT1.out.step (fun b hb => .inl hb) t2 g2
    have HT2 := Lib.hid t2'
    have HG2 := Lib.hid g2'
    clear r2 t2 g2 t2' g2' c0 c2
    go_wp2_with fail
    refine (newest_calls k v HR2.out (by have := HL0.out; simp at this ⊢; omega) (by rw [List.length_map, List.length_map])).mono ?_
    rintro x w3 ⟨rfl, Kv3, Vv3, fp3, r3, t3, g3⟩
    obtain ⟨t3', g3'⟩ := HT2.out.step HG2.out t3 g3
    have HF := Lib.hid (show ∃ fp', RObj w3 r most ((k, v) :: (xs ++ ys)) (hits + 1) misses gone fp' ∧ Turn fp w w3 ∧ ∀ b, fp' b → fp b ∨ w.heap.size ≤ b from ⟨fp3, ⟨⟨_, _, r3⟩, HN.out⟩, t3', g3'⟩)
    clear r3 t3 g3 t3' g3'
    go_wp2
    go_ret2
    refine ⟨by rw [HV.out]; rfl, ?_⟩
    rw [HE.out, HV.out]
    show ∃ fp', RObj w3 r most _ (hits + 1) (misses + 0) gone fp' ∧ _
    rw [Int.add_zero]
    exact HF.out
end
end Go.Proofs.Ytfkdmbiejledoaa
