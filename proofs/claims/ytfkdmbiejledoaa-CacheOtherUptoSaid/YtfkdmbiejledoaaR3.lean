/-
  The document answer: peek, len, counts, clear, drop.
-/
import Derived.Test.YtfkdmbiejledoaaR1
import Derived.Test.YtfkdmbiejledoaaR2
set_option linter.unusedVariables false
set_option linter.unusedSimpArgs false
namespace Go.Proofs.Ytfkdmbiejledoaa
open Go.RowKit


theorem split_len {α : Type} {k : α} : ∀ {xs xs' ys ys' : List α}, xs ++ k :: ys = xs' ++ k :: ys' → k ∉ xs → k ∉ xs' → xs.length = xs'.length
  | [], [], _, _, _, _, _ => rfl
  | [], a :: t, _, _, h, _, h2 => by injection h with h _; exact absurd (by rw [h]; simp) h2
  | a :: t, [], _, _, h, h1, _ => by injection h with h _; exact absurd (by rw [← h]; simp) h1
  | a :: t, a' :: t', _, _, h, h1, h2 => by
    injection h with _ h
    rw [List.length_cons, List.length_cons, split_len h (fun h => h1 (List.mem_cons_of_mem _ h)) (fun h => h2 (List.mem_cons_of_mem _ h))]
theorem nodup_rem {es : Es} (hn : (es.map (·.1)).Nodup) (k : ByteArray) : ((rem es k).map (·.1)).Nodup := by rw [rem_keys]; exact hn.filter _
theorem nodup_front {es : Es} (hn : (es.map (·.1)).Nodup) {k v : ByteArray} (h : k ∉ es.map (·.1)) : (((k, v) :: es : Es).map (·.1)).Nodup := by rw [List.map_cons, List.nodup_cons]; exact ⟨h, hn⟩
def RObj (w : World) (r : Nat) (most : Int) (es : Es) (hits misses gone : Int) (fp : Nat → Prop) : Prop :=
  (∃ Kv Vv, RRep w r most Kv Vv (es.map (·.1)) (es.map (·.2)) hits misses gone fp) ∧ (es.map (·.1)).Nodup
section
variable {w w' : World} {r : Nat} {most hits misses gone : Int} {es : Es} {fp : Nat → Prop} {Kv Vv : Value} {ks vs : List ByteArray}
theorem RObj.keep (H : RObj w r most es hits misses gone fp) (hs : w.heap.size ≤ w'.heap.size) (hk : ∀ b, fp b → w'.heap[b]? = w.heap[b]?) : RObj w' r most es hits misses gone fp := by
  obtain ⟨⟨Kv, Vv, h⟩, hn⟩ := H
  exact ⟨⟨Kv, Vv, h.keep hs hk⟩, hn⟩
theorem RObj.lt (H : RObj w r most es hits misses gone fp) {b : Nat} (hb : fp b) : b < w.heap.size := by
  obtain ⟨⟨Kv, Vv, h⟩, hn⟩ := H
  exact h.lt b hb
theorem RRep.val {xs ys : Es} {k v : ByteArray} (H : RRep w r most Kv Vv ks ((xs ++ (k, v) :: ys).map (·.2)) hits misses gone fp) :
    ∃ vb vo cap, Vv = .slice (some ⟨vb, vo, none⟩) (xs ++ (k, v) :: ys).length cap ∧ vb < w.heap.size ∧ vb ≠ r ∧ w.cell? ⟨vb, vo + xs.length, none⟩ = some (.string v) ∧ xs.length < (xs ++ (k, v) :: ys).length := by
  obtain ⟨A, cap, e, hc, h⟩ := H.vin
  have hl : (((xs ++ (k, v) :: ys).map (·.2)).map Value.string).length = (xs ++ (k, v) :: ys).length := by simp
  have hlt : xs.length < (xs ++ (k, v) :: ys).length := by simp
  rw [hl] at e
  obtain ⟨b, o, rfl, hb, hB, hcell⟩ := h (by omega)
  refine ⟨b, o, cap, e, hb, hB.2, ?_, hlt⟩
  rw [hcell xs.length (by omega)]
  simp
theorem RRep.count3 (H : RRep w r most Kv Vv ks vs hits misses gone fp) (x : Int) : RRep (w.setCell ⟨r, 3, none⟩ (.int .i64 x)) r most Kv Vv ks vs x misses gone fp :=
  ⟨block_setCell (off := 3) H.blk _, H.kin.keep (by simp [World.setCell]) fun b _ hb => block_other (Ne.symm hb.2) _, H.vin.keep (by simp [World.setCell]) fun b _ hb => block_other (Ne.symm hb.2) _, H.own, fun b hb => by have := H.lt b hb; simp [World.setCell]; exact this⟩
theorem RRep.count4 (H : RRep w r most Kv Vv ks vs hits misses gone fp) (x : Int) : RRep (w.setCell ⟨r, 4, none⟩ (.int .i64 x)) r most Kv Vv ks vs hits x gone fp :=
  ⟨block_setCell (off := 4) H.blk _, H.kin.keep (by simp [World.setCell]) fun b _ hb => block_other (Ne.symm hb.2) _, H.vin.keep (by simp [World.setCell]) fun b _ hb => block_other (Ne.symm hb.2) _, H.own, fun b hb => by have := H.lt b hb; simp [World.setCell]; exact this⟩
theorem RRep.count5 (H : RRep w r most Kv Vv ks vs hits misses gone fp) (x : Int) : RRep (w.setCell ⟨r, 5, none⟩ (.int .i64 x)) r most Kv Vv ks vs hits misses x fp :=
  ⟨block_setCell (off := 5) H.blk _, H.kin.keep (by simp [World.setCell]) fun b _ hb => block_other (Ne.symm hb.2) _, H.vin.keep (by simp [World.setCell]) fun b _ hb => block_other (Ne.symm hb.2) _, H.own, fun b hb => by have := H.lt b hb; simp [World.setCell]; exact this⟩
theorem placeR (k : ByteArray) (H : RObj w r most es hits misses gone fp) (hl : es.length ≤ 1000000) :
    Calls Try.prog 53 #[ptr r, .string k] w fun x w' => (∃ p : Int, x = .returned (.int .i64 p) ∧ ((findV es k = none ∧ p = -1) ∨ ∃ xs ys v, es = xs ++ (k, v) :: ys ∧ findV es k = some v ∧ p = xs.length)) ∧ w = w' := by
  obtain ⟨⟨Kv, Vv, h⟩, hn⟩ := H
  refine (place_calls k h (by rw [List.length_map]; exact hl)).mono ?_
  rintro x w' ⟨⟨p, rfl, hp⟩, rfl⟩
  refine ⟨⟨p, rfl, ?_⟩, rfl⟩
  rcases hp with ⟨h1, h2⟩ | ⟨xs', ys', h1, h2, h3⟩
  · exact .inl ⟨findV_notin h1, h2⟩
  · cases hv : findV es k with
    | none => exact absurd (by rw [h1]; simp) (findV_none hv)
    | some v =>
      obtain ⟨xs, ys, e1, e2⟩ := findV_some hv
      refine .inr ⟨xs, ys, v, e1, rfl, ?_⟩
      rw [e1, List.map_append, List.map_cons] at h1
      rw [h3, ← split_len h1 e2 h2, List.length_map]
set_option maxRecDepth 100000 in
theorem peekR (k : ByteArray) (H : RObj w r most es hits misses gone fp) (hl : es.length ≤ 1000000) :
    Calls Try.prog 37 #[ptr r, .string k] w fun x w' => x = .returned (.tuple #[.string ((findV es k).getD ⟨#[]⟩), .bool (findV es k).isSome]) ∧ w = w' := by
  have HR := Lib.hid H
  clear H
  go_enter Try.func37, Try.ntmps37
  go_wp2_with fail
  refine (placeR k HR.out hl).mono ?_
  rintro x w1 ⟨⟨p, rfl, hp⟩, rfl⟩
  rcases hp with ⟨h1, rfl⟩ | ⟨xs, ys, v, h0, h1, rfl⟩
  · have HV := Lib.hid h1
    clear h1
    go_wp2
    go_ret2
    exact ⟨by rw [HV.out]; rfl, rfl⟩
  · have HV := Lib.hid h1
    clear h1
    subst h0
    obtain ⟨⟨Kv, Vv, hr⟩, hn⟩ := HR.out
    obtain ⟨vb, vo, cap, rfl, hvb, _, c0, hlt⟩ := hr.val
    have c2 := hr.field (i := 2) (by decide)
    simp only [List.getElem_toArray, List.getElem_cons_succ, List.getElem_cons_zero] at c2
    clear hr hn
    obtain ⟨N, hN⟩ : ∃ N, N = (xs ++ (k, v) :: ys).length := ⟨_, rfl⟩
    rw [← hN] at c2 hlt
    clear hN
    go_wp2
    go_ret2
    exact ⟨by rw [HV.out]; rfl, rfl⟩
set_option maxRecDepth 100000 in
theorem lenR (H : RObj w r most es hits misses gone fp) : Calls Try.prog 41 #[ptr r] w fun x w' => x = .returned (.int .i64 es.length) ∧ w = w' := by
  obtain ⟨⟨Kv, Vv, hr⟩, hn⟩ := H
  obtain ⟨A, cap, rfl, _, _⟩ := hr.kin.strs
  have c1 : w.cell? ⟨r, 1, none⟩ = _ := hr.field (i := 1) (by decide)
  simp only [List.length_map, List.getElem_toArray, List.getElem_cons_succ, List.getElem_cons_zero] at c1
  clear hr hn
  go_enter Try.func41, Try.ntmps41
  go_wp2
  go_ret
  exact ⟨rfl, rfl⟩
set_option maxRecDepth 100000 in
theorem countsR (H : RObj w r most es hits misses gone fp) : Calls Try.prog 43 #[ptr r] w fun x w' => x = .returned (.tuple #[.int .i64 hits, .int .i64 misses, .int .i64 gone]) ∧ Below w.heap.size w w' := by
  obtain ⟨⟨Kv, Vv, hr⟩, hn⟩ := H
  have c3 : w.cell? ⟨r, 3, none⟩ = some (.int .i64 hits) := hr.field (i := 3) (by decide)
  have c4 : w.cell? ⟨r, 4, none⟩ = some (.int .i64 misses) := hr.field (i := 4) (by decide)
  have c5 : w.cell? ⟨r, 5, none⟩ = some (.int .i64 gone) := hr.field (i := 5) (by decide)
  clear hr hn
  go_enter Try.func43, Try.ntmps43
  go_wp2
  go_quiet (fail)
  go_wp2
  go_ret3
  exact ⟨rfl, rfl, rfl, rfl, Nat.le_refl _, fun _ _ => rfl⟩
theorem Turn.less {w w' : World} {fp : Nat → Prop} (h : Turn (fun b => b = r) w w') (hr : fp r) : Turn fp w w' := h.mono fun i hi => .inl (by rw [hi]; exact hr)
set_option maxRecDepth 100000 in
theorem clearR (H : RObj w r most es hits misses gone fp) : Calls Try.prog 40 #[ptr r] w fun x w' => x = .returned (.tuple #[]) ∧ ∃ fp', RObj w' r most [] hits misses gone fp' ∧ Turn fp w w' ∧ ∀ b, fp' b → fp b ∨ w.heap.size ≤ b := by
  obtain ⟨⟨Kv, Vv, hr⟩, hn⟩ := H
  have HF := Lib.hid (hr.turned (Below.refl _ _) (kv := .slice none 0 0) (vv := .slice none 0 0) (ks' := []) (vs' := []) (World.ownsRow_nil _ _ _ _) (World.ownsRow_nil _ _ _ _))
  obtain ⟨A, cap, rfl, _, _⟩ := hr.kin.strs
  obtain ⟨A2, cap2, rfl, _, _⟩ := hr.vin.strs
  have c1 : w.cell? ⟨r, 1, none⟩ = _ := hr.field (i := 1) (by decide)
  have z1 : w.frozen? ⟨r, 1, none⟩ = false := frozen_of_block hr.blk
  have hb1 := block_setCell (off := 1) hr.blk (.slice none 0 0)
  have z2 : (w.setCell ⟨r, 1, none⟩ (.slice none 0 0)).frozen? ⟨r, 2, none⟩ = false := frozen_of_block hb1
  have k2 : (w.setCell ⟨r, 1, none⟩ (.slice none 0 0)).cell? ⟨r, 2, none⟩ = _ := cell_of_block hb1 (by show 2 < 6; decide)
  simp only [List.length_map, List.getElem_toArray, List.getElem_cons_succ, List.getElem_cons_zero] at c1
  simp at k2
  clear hr hn hb1
  go_enter Try.func40, Try.ntmps40
  go_wp2
  go_end0
  obtain ⟨fp', h1, h2, h3⟩ := HF.out
  exact ⟨rfl, fp', ⟨⟨_, _, h1⟩, by simp⟩, h2, h3⟩
set_option maxRecDepth 100000 in
theorem dropR (k : ByteArray) (H : RObj w r most es hits misses gone fp) (hl : es.length ≤ 1000000) :
    Calls Try.prog 39 #[ptr r, .string k] w fun x w' => x = .returned (.bool (findV es k).isSome) ∧ ∃ fp', RObj w' r most (rem es k) hits misses gone fp' ∧ Turn fp w w' ∧ ∀ b, fp' b → fp b ∨ w.heap.size ≤ b := by
  have HR := Lib.hid H
  clear H
  go_enter Try.func39, Try.ntmps39
  go_wp2_with fail
  refine (placeR k HR.out hl).mono ?_
  rintro x w1 ⟨⟨p, rfl, hp⟩, rfl⟩
  rcases hp with ⟨h1, rfl⟩ | ⟨xs, ys, v, h0, h1, rfl⟩
  · have HS := Lib.hid (show (findV es k).isSome = false by rw [h1]; rfl)
    have HE := Lib.hid (show rem es k = es from rem_notin (findV_none h1))
    clear h1
    go_wp2
    go_ret
    exact ⟨by rw [HS.out]; rfl, fp, by rw [HE.out]; exact HR.out, Turn.refl _ _, fun b hb => .inl hb⟩
  · have HS := Lib.hid (show (findV es k).isSome = true by rw [h1]; rfl)
    have HN := Lib.hid (nodup_rem HR.out.2 k)
    obtain ⟨⟨Kv, Vv, hr⟩, hn⟩ := HR.out
    have HE := Lib.hid (show rem es k = xs ++ ys by rw [h0]; rw [h0] at hn; exact rem_mid hn)
    have HX := Lib.hid (show (es.map (·.1)).eraseIdx xs.length = (rem es k).map (·.1) ∧ (es.map (·.2)).eraseIdx xs.length = (rem es k).map (·.2) by
      rw [HE.out, h0, List.map_append, List.map_append, List.map_append, List.map_append, List.map_cons, List.map_cons]
      have e1 : (xs.map (·.1)).length = xs.length := by simp
      have e2 : (xs.map (·.2)).length = xs.length := by simp
      constructor
      · rw [← e1, List.eraseIdx_append_of_length_le (Nat.le_refl _)]; simp
      · rw [← e2, List.eraseIdx_append_of_length_le (Nat.le_refl _)]; simp)
    have HL := Lib.hid (show xs.length < (es.map (·.1)).length by rw [h0]; simp)
    have HRR := Lib.hid hr
    clear h0 h1 hr hn
    go_wp2_with fail
    refine (out_calls xs.length HRR.out (by rw [List.length_map]; exact hl) (by rw [List.length_map, List.length_map]) HL.out).mono ?_
    rintro x w1 ⟨rfl, Kv', Vv', fp', h1, h2, h3⟩
    rw [HX.out.1, HX.out.2] at h1
    have HF := Lib.hid (show ∃ fp', RObj w1 r most (rem es k) hits misses gone fp' ∧ Turn fp w w1 ∧ ∀ b, fp' b → fp b ∨ w.heap.size ≤ b from ⟨fp', ⟨⟨_, _, h1⟩, HN.out⟩, h2, h3⟩)
    clear h1 h2 h3
    go_wp2
    go_ret
    exact ⟨by rw [HS.out]; rfl, HF.out⟩
end
end Go.Proofs.Ytfkdmbiejledoaa
