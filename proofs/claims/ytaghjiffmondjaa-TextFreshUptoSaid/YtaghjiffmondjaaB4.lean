/-
  The closures of text.Escape and text.Hex.
-/
import Derived.Test.YtaghjiffmondjaaB3
set_option linter.unusedSimpArgs false
set_option linter.unusedVariables false
namespace Go.Proofs.Ytaghjiffmondjaa
open Go.RowKit

theorem u8_and15_all : ∀ n : Fin 256, Go.bits BinOp.and IntKind.u8 (n.val : Int) 15 = (n.val : Int) % 16 := by decide +kernel
theorem u8_and15 (c : UInt8) : Go.bits BinOp.and IntKind.u8 (c.toNat : Int) 15 = (c.toNat : Int) % 16 := u8_and15_all ⟨c.toNat, c.toNat_lt⟩
def btx (s : ByteArray) (i : Int) : Int := if h : i.toNat < s.size then ((s[i.toNat]'h).toNat : Int) else 0
theorem btx_at (s : ByteArray) (i : Int) : ∀ h : i.toNat < s.size, ((s[i.toNat]'h).toNat : Int) = btx s i := fun h => by simp [btx, h]
/-- the variable 'out' in block p: what it has; its array lies in a block of the call's own, from B on -/
structure OutW (p B : Nat) (xs : List UInt8) (w : World) (v : Value) : Prop where
  cell : w.heap[p]? = some (.cells #[v] 52 (0, 0))
  owns : w.ownsRow B 5 1 v xs.length (xs.map bv)
  far : v.ownBlock ≠ some p
  base : B ≤ p

theorem OutW.lt {p B : Nat} {xs : List UInt8} {w : World} {v : Value} (h : OutW p B xs w v) : p < w.heap.size := (Array.getElem?_eq_some_iff.1 h.cell).1
/-- behind an append and the store of the new slice -/
theorem OutW.append {p B : Nat} {xs ys : List UInt8} {w w2 : World} {v : Value} {o : Obj} {g cap H : Nat} (h : OutW p B xs w v) (hH : (w.alloc o).drew.heap.size = H) (hg : (w.alloc o).drew.grownBy w2 v.ownBlock)
    (ho : w2.ownsRow B 5 1 (.slice (some ⟨g, 0, none⟩) ys.length cap) ys.length (ys.map bv)) (hat : v.ownBlock = some g ∨ g = H) :
    OutW p B ys (w2.setCell ⟨p, 0, none⟩ (.slice (some ⟨g, 0, none⟩) ys.length cap)) (.slice (some ⟨g, 0, none⟩) ys.length cap) ∧ Below B w (w2.setCell ⟨p, 0, none⟩ (.slice (some ⟨g, 0, none⟩) ys.length cap)) := by
  have hlt := h.lt
  have hgp : g ≠ p := by
    rcases hat with hat | hat
    · intro e; exact h.far (by rw [hat, e])
    · simp at hH; omega
  have hk : w2.heap[p]? = some (.cells #[v] 52 (0, 0)) := (hg.block p (by simp; omega) (fun e => h.far e.symm)).trans (heap_alloc_keep h.cell _)
  have o : ∀ k, k ≠ p → (w2.setCell ⟨p, 0, none⟩ (.slice (some ⟨g, 0, none⟩) ys.length cap)).heap[k]? = w2.heap[k]? := fun k hk => heap_setCell_other w2 ⟨p, 0, none⟩ k _ hk
  refine ⟨⟨block_setCell hk _, ?_, by simp [Value.ownBlock, hgp], h.base⟩, ?_⟩
  · refine ⟨ho.1, ?_⟩
    rcases ho.2 with ⟨hn, h0⟩ | ⟨g', cap', cur, hv, hb, hgg, rest⟩
    · cases hn
    · obtain rfl : g = g' := by injection hv with h1 _ _; injection h1 with h1; injection h1
      exact .inr ⟨g, cap', cur, hv, hb, (o g hgp).trans hgg, rest⟩
  · exact ((Below.refl B w).grown (grownBy_of_alloc hg) (by have := h.base; omega) (fun k hk => (h.owns.lt k hk).1)).setCell h.base _

theorem OutW.append' {p B : Nat} {xs ys : List UInt8} {w w2 : World} {v : Value} {o : Obj} {g cap H : Nat} (h : OutW p B xs w v) (hH : (w.alloc o).heap.size = H) (hg : (w.alloc o).grownBy w2 v.ownBlock)
    (ho : w2.ownsRow B 5 1 (.slice (some ⟨g, 0, none⟩) ys.length cap) ys.length (ys.map bv)) (hat : v.ownBlock = some g ∨ g = H) :
    OutW p B ys (w2.setCell ⟨p, 0, none⟩ (.slice (some ⟨g, 0, none⟩) ys.length cap)) (.slice (some ⟨g, 0, none⟩) ys.length cap) ∧ Below B w (w2.setCell ⟨p, 0, none⟩ (.slice (some ⟨g, 0, none⟩) ys.length cap)) :=
  h.append (o := o) hH ⟨hg.os, hg.tape, hg.output, hg.size, hg.block⟩ ho hat
theorem bv_one (l : List UInt8) : ∀ u ∈ l.map bv, u.oneCell' = true := by
  intro u hu
  obtain ⟨c, _, rfl⟩ := List.mem_map.1 hu
  rfl
def dg (s : ByteArray) (n : Nat) : UInt8 := s.data.toList.getD n 0
theorem btx_dg (s : ByteArray) (n : Nat) (h : n < s.size) : btx s (n : Int) = ((dg s n).toNat : Int) := by
  unfold btx dg
  simp [h, List.getD]
  rfl
def BIG : ByteArray := ⟨#[48, 49, 50, 51, 52, 53, 54, 55, 56, 57, 65, 66, 67, 68, 69, 70]⟩
def SMALL : ByteArray := ⟨#[48, 49, 50, 51, 52, 53, 54, 55, 56, 57, 97, 98, 99, 100, 101, 102]⟩
def escC (c : UInt8) : List UInt8 := [37, dg BIG (c.toNat / 16), dg BIG (c.toNat % 16)]
def hexC (c : UInt8) : List UInt8 := [dg SMALL (c.toNat / 16), dg SMALL (c.toNat % 16)]
def plainB (c : UInt8) : Bool := decide (32 < c.toNat ∧ c.toNat < 127 ∧ c.toNat ≠ 37)
theorem btx_BIG (n : Nat) (h : n < 16) : Value.int .u8 (btx BIG (n : Int)) = bv (dg BIG n) := by rw [btx_dg BIG n h]; rfl
theorem btx_SMALL (n : Nat) (h : n < 16) : Value.int .u8 (btx SMALL (n : Int)) = bv (dg SMALL n) := by rw [btx_dg SMALL n h]; rfl

set_option maxHeartbeats 1000000 in
theorem esc1_code (p B : Nat) (xs : List UInt8) (w : World) (v : Value) (h : OutW p B xs w v) (hxs : xs.length + 3 < 140737488355328)
    (c : UInt8) (e1 : decide (32 < (c.toNat : Int)) = false ∨ decide (32 < (c.toNat : Int)) = true ∧ decide ((c.toNat : Int) < 127) = false ∨ decide (32 < (c.toNat : Int)) = true ∧ decide ((c.toNat : Int) < 127) = true ∧ ((c.toNat : Int) != 37) = false) :
    Calls Try.prog 52 (#[.int .u8 (c.toNat : Int)] ++ #[.pointer (some ⟨p, 0, none⟩)]) w
      fun e w' => ∃ v', e = .returned (.bool true) ∧ OutW p B (xs ++ escC c) w' v' ∧ Below B w w' := by
  have hcn : (c.toNat : Int) < 256 := by have := c.toNat_lt; omega
  have hlt : p < w.heap.size := h.lt
  have c0 : w.cell? ⟨p, 0, none⟩ = some v := by have := h.cell; simp [World.cell?, this]
  obtain ⟨i0, hi, hz0, hz1, hz2⟩ := info_parts info5
  have H := Lib.hid h
  clear h
  have g1 : 0 ≤ (c.toNat : Int) / 16 := by omega
  have g2 : (c.toNat : Int) / 16 < 16 := by omega
  have g3 : 0 ≤ (c.toNat : Int) % 16 := by omega
  have g4 : (c.toNat : Int) % 16 < 16 := by omega
  have hand := u8_and15 c
  have k1 := btx_at BIG ((c.toNat : Int) / 16)
  have k2 := btx_at BIG ((c.toNat : Int) % 16)
  have q1 : Value.int .u8 (btx BIG ((c.toNat : Int) / 16)) = bv (dg BIG (c.toNat / 16)) := btx_BIG (c.toNat / 16) (by omega)
  have q2 : Value.int .u8 (btx BIG ((c.toNat : Int) % 16)) = bv (dg BIG (c.toNat % 16)) := btx_BIG (c.toNat % 16) (by omega)
  have Q1 := Lib.hid q1
  have Q2 := Lib.hid q2
  clear q1 q2
  unfold BIG at k1 k2
  rcases e1 with e1 | ⟨e1, e2⟩ | ⟨e1, e2, e3⟩
  all_goals
    go_enter Try.func52, Try.ntmps52
    go_wp2
    refine wp_region_seq (fun w' => w'.cell? ⟨p, 0, none⟩ = some v) [(0, false), (1, false), (2, false), (3, false), (4, false), (5, false), (6, false), (7, true), (8, true), (9, true)] (by kernel_rfl) (by kernel_rfl) (fun _ _ d _ _ h => by cases d <;> exact h) c0 ?_
    repeat (refine seqH_held ?_ (by rfl) (by rfl) (fun w' s2 => ?_) ?_; rotate_left; focus (go_simp; exact rfl))
    refine seqH_actS (by rfl) (by rfl) (fun K hK => ?_)
    go_wp2_with fail
    have hcells : (#[Value.int IntKind.u8 37, Value.int IntKind.u8 (btx { data := #[48, 49, 50, 51, 52, 53, 54, 55, 56, 57, 65, 66, 67, 68, 69, 70] } ((c.toNat : Int) / 16)), Value.int IntKind.u8 (btx { data := #[48, 49, 50, 51, 52, 53, 54, 55, 56, 57, 65, 66, 67, 68, 69, 70] } ((c.toNat : Int) % 16))] : Array Value) = ((escC c).map bv).toArray := by
      have z1 := Q1.out
      have z2 := Q2.out
      unfold BIG at z1 z2
      rw [z1, z2]; rfl
    rw [hcells]
    clear hcells k1 k2
    have hown : ((w.alloc (Obj.cells ((escC c).map bv).toArray 5)).drew).ownsRow B 5 1 v xs.length (xs.map bv) := (H.out.owns.alloc _).drew
    have hwb : ((w.alloc (Obj.cells ((escC c).map bv).toArray 5)).drew).heap[w.heap.size]? = some (.cells ((escC c).map bv).toArray 5 (0, 0)) := heap_alloc_new _ _
    have hfar := H.out.far
    have hbase := H.out.base
    refine hK _ _ (cell_alloc c0 _) ?_
    refine seqH_act (by kernel_rfl) (by rfl) (by rfl) (fun K2 hK2 => ?_)
    refine wp_append_lies _ (.tmp 18) (.tmp 25) 52 rfl B 5 i0 (.int .u8 0) 1 1 Try.underlying52 hi hz0 hz1 hz2 rfl (by decide) v xs.length (xs.map bv) rfl hown ⟨w.heap.size, 0, none⟩ 3 3 ((escC c).map bv) rfl rfl (World.news_of_block hwb) (bv_one _) (by decide) (by unfold maxLen; omega) (by omega) (by simp; omega) _ rfl ?_
    intro g cap w2 hown2 hgrow hat hltg
    refine hK2 _ _ ?_
    have e0 : xs.length + 3 = (xs ++ escC c).length := by simp [escC]
    rw [← List.map_append, e0] at hown2
    obtain ⟨hO, hBl⟩ := H.out.append rfl hgrow hown2 hat
    have d2 : w2.cell? ⟨p, 0, none⟩ = some v := hgrow.cell (cell_alloc c0 _) (fun e => hfar e.symm)
    have g2' : w2.frozen? ⟨p, 0, none⟩ = false := (World.frozen?_of_block (hgrow.block p (by simp; omega) (fun e => hfar e.symm))).trans (frozen_of_block (heap_alloc_keep H.out.cell _))
    have HO := Lib.hid hO
    have HBl := Lib.hid hBl
    clear hown hwb hfar hown2 hgrow hat hltg hO hBl c0 hK hK2
    rw [e0]
    clear e0
    refine seqH_act (by kernel_rfl) (by rfl) (by rfl) (fun K3 hK3 => ?_)
    go_wp2
    refine seqH_nil ?_
    go_wp2
    go_ret
    have hO := HO.out
    have hBl := HBl.out
    rw [List.length_append] at hO hBl
    exact ⟨_, rfl, hO, hBl⟩

set_option maxHeartbeats 1000000 in
theorem esc1_plain (p B : Nat) (xs : List UInt8) (w : World) (v : Value) (h : OutW p B xs w v) (hxs : xs.length + 3 < 140737488355328)
    (c : UInt8) (e1 : decide (32 < (c.toNat : Int)) = true) (e2 : decide ((c.toNat : Int) < 127) = true) (e3 : ((c.toNat : Int) != 37) = true) :
    Calls Try.prog 52 (#[.int .u8 (c.toNat : Int)] ++ #[.pointer (some ⟨p, 0, none⟩)]) w
      fun e w' => ∃ v', e = .returned (.bool true) ∧ OutW p B (xs ++ [c]) w' v' ∧ Below B w w' := by
  have hcn : (c.toNat : Int) < 256 := by have := c.toNat_lt; omega
  have hlt : p < w.heap.size := h.lt
  have c0 : w.cell? ⟨p, 0, none⟩ = some v := by have := h.cell; simp [World.cell?, this]
  have hown : (w.alloc (Obj.cells #[Value.int IntKind.u8 (c.toNat : Int)] 5)).ownsRow B 5 1 v xs.length (xs.map bv) := h.owns.alloc _
  have hwb : (w.alloc (Obj.cells #[Value.int IntKind.u8 (c.toNat : Int)] 5)).heap[w.heap.size]? = some (.cells #[Value.int IntKind.u8 (c.toNat : Int)] 5 (0, 0)) := heap_alloc_new _ _
  have hbase := h.base
  obtain ⟨i0, hi, hz0, hz1, hz2⟩ := info_parts info5
  have H := Lib.hid h
  have HO1 := Lib.hid hown
  have HWB := Lib.hid hwb
  clear h hown hwb
  go_enter Try.func52, Try.ntmps52
  go_wp2_with (at_builtin; refine wpList_append_lies _ rfl (.tmp 14) (.tmp 16) 52 rfl B 5 i0 (.int .u8 0) 1 1 Try.underlying52 hi hz0 hz1 hz2 rfl (by decide) v xs.length (xs.map bv) rfl HO1.out ⟨w.heap.size, 0, none⟩ 1 1 [Value.int IntKind.u8 (c.toNat : Int)] rfl rfl (World.news_of_block HWB.out) (bv_one [c]) (by decide) (by unfold maxLen; omega) (by omega) (by simp; omega) _ rfl ?_)
  intro g cap w2 hown2 hgrow hat hltg
  have e0 : xs.length + 1 = (xs ++ [c]).length := by simp
  have e4 : xs.map bv ++ [Value.int IntKind.u8 (c.toNat : Int)] = (xs ++ [c]).map bv := by simp [bv]
  rw [e4, e0] at hown2
  obtain ⟨hO, hBl⟩ := H.out.append' (by simp) hgrow hown2 hat
  have hfar := H.out.far
  have d2 : w2.cell? ⟨p, 0, none⟩ = some v := hgrow.cell (cell_alloc c0 _) (fun e => hfar e.symm)
  have g2' : w2.frozen? ⟨p, 0, none⟩ = false := (World.frozen?_of_block (hgrow.block p (by simp; omega) (fun e => hfar e.symm))).trans (frozen_of_block (heap_alloc_keep H.out.cell _))
  have HO := Lib.hid hO
  have HBl := Lib.hid hBl
  clear hfar hown2 hgrow hat hltg hO hBl c0 e0 e4
  go_wp2
  go_ret
  have hO := HO.out
  have hBl := HBl.out
  rw [List.length_append] at hO hBl
  exact ⟨_, rfl, hO, hBl⟩

set_option maxHeartbeats 1000000 in
theorem hex1_calls (p B : Nat) (xs : List UInt8) (w : World) (v : Value) (h : OutW p B xs w v) (hxs : xs.length + 2 ≤ 140737488355328)
    (c : UInt8) :
    Calls Try.prog 48 (#[.int .u8 (c.toNat : Int)] ++ #[.pointer (some ⟨p, 0, none⟩)]) w
      fun e w' => ∃ v', e = .returned (.bool true) ∧ OutW p B (xs ++ hexC c) w' v' ∧ Below B w w' := by
  have hcn : (c.toNat : Int) < 256 := by have := c.toNat_lt; omega
  have hlt : p < w.heap.size := h.lt
  have c0 : w.cell? ⟨p, 0, none⟩ = some v := by have := h.cell; simp [World.cell?, this]
  obtain ⟨i0, hi, hz0, hz1, hz2⟩ := info_parts info5
  have H := Lib.hid h
  clear h
  have g1 : 0 ≤ (c.toNat : Int) / 16 := by omega
  have g2 : (c.toNat : Int) / 16 < 16 := by omega
  have g3 : 0 ≤ (c.toNat : Int) % 16 := by omega
  have g4 : (c.toNat : Int) % 16 < 16 := by omega
  have hand := u8_and15 c
  have k1 := btx_at SMALL ((c.toNat : Int) / 16)
  have k2 := btx_at SMALL ((c.toNat : Int) % 16)
  have q1 : Value.int .u8 (btx SMALL ((c.toNat : Int) / 16)) = bv (dg SMALL (c.toNat / 16)) := btx_SMALL (c.toNat / 16) (by omega)
  have q2 : Value.int .u8 (btx SMALL ((c.toNat : Int) % 16)) = bv (dg SMALL (c.toNat % 16)) := btx_SMALL (c.toNat % 16) (by omega)
  have Q1 := Lib.hid q1
  have Q2 := Lib.hid q2
  clear q1 q2
  unfold SMALL at k1 k2
  go_enter Try.func48, Try.ntmps48
  go_wp2
  refine wp_region_seq (fun w' => w'.cell? ⟨p, 0, none⟩ = some v) [(0, false), (1, false), (2, false), (3, false), (4, false), (5, false), (6, false), (7, true), (8, true), (9, true)] (by kernel_rfl) (by kernel_rfl) (fun _ _ d _ _ h => by cases d <;> exact h) c0 ?_
  repeat (refine seqH_held ?_ (by rfl) (by rfl) (fun w' s2 => ?_) ?_; rotate_left; focus (go_simp; exact rfl))
  refine seqH_actS (by rfl) (by rfl) (fun K hK => ?_)
  go_wp2_with fail
  have hcells : (#[Value.int IntKind.u8 (btx { data := #[48, 49, 50, 51, 52, 53, 54, 55, 56, 57, 97, 98, 99, 100, 101, 102] } ((c.toNat : Int) / 16)), Value.int IntKind.u8 (btx { data := #[48, 49, 50, 51, 52, 53, 54, 55, 56, 57, 97, 98, 99, 100, 101, 102] } ((c.toNat : Int) % 16))] : Array Value) = ((hexC c).map bv).toArray := by
    have z1 := Q1.out
    have z2 := Q2.out
    unfold SMALL at z1 z2
    rw [z1, z2]; rfl
  rw [hcells]
  clear hcells k1 k2
  have hown : ((w.alloc (Obj.cells ((hexC c).map bv).toArray 5)).drew).ownsRow B 5 1 v xs.length (xs.map bv) := (H.out.owns.alloc _).drew
  have hwb : ((w.alloc (Obj.cells ((hexC c).map bv).toArray 5)).drew).heap[w.heap.size]? = some (.cells ((hexC c).map bv).toArray 5 (0, 0)) := heap_alloc_new _ _
  have hfar := H.out.far
  have hbase := H.out.base
  refine hK _ _ (cell_alloc c0 _) ?_
  refine seqH_act (by kernel_rfl) (by rfl) (by rfl) (fun K2 hK2 => ?_)
  refine wp_append_lies _ (.tmp 4) (.tmp 11) 52 rfl B 5 i0 (.int .u8 0) 1 1 Try.underlying52 hi hz0 hz1 hz2 rfl (by decide) v xs.length (xs.map bv) rfl hown ⟨w.heap.size, 0, none⟩ 2 2 ((hexC c).map bv) rfl rfl (World.news_of_block hwb) (bv_one _) (by decide) (by unfold maxLen; omega) (by omega) (by simp; omega) _ rfl ?_
  intro g cap w2 hown2 hgrow hat hltg
  refine hK2 _ _ ?_
  have e0 : xs.length + 2 = (xs ++ hexC c).length := by simp [hexC]
  rw [← List.map_append, e0] at hown2
  obtain ⟨hO, hBl⟩ := H.out.append rfl hgrow hown2 hat
  have d2 : w2.cell? ⟨p, 0, none⟩ = some v := hgrow.cell (cell_alloc c0 _) (fun e => hfar e.symm)
  have g2' : w2.frozen? ⟨p, 0, none⟩ = false := (World.frozen?_of_block (hgrow.block p (by simp; omega) (fun e => hfar e.symm))).trans (frozen_of_block (heap_alloc_keep H.out.cell _))
  have HO := Lib.hid hO
  have HBl := Lib.hid hBl
  clear hown hwb hfar hown2 hgrow hat hltg hO hBl c0 hK hK2
  rw [e0]
  clear e0
  refine seqH_act (by kernel_rfl) (by rfl) (by rfl) (fun K3 hK3 => ?_)
  go_wp2
  refine seqH_nil ?_
  go_wp2
  go_ret
  have hO := HO.out
  have hBl := HBl.out
  rw [List.length_append] at hO hBl
  exact ⟨_, rfl, hO, hBl⟩
end Go.Proofs.Ytaghjiffmondjaa
