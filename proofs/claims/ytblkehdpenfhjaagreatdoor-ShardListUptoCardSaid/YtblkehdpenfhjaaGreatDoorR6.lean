import Derived.Test.YtblkehdpenfhjaaGreatDoorR5
import Derived.RangeFuncBox
import Derived.RangeFuncFrom
import Derived.RangeFuncCalls
import Derived.RangeFuncLeaves
import Derived.Shelf.Abstract
import Derived.OwnWalkIn
import Derived.TacticsInMore
import Derived.LoopNIn
import Derived.LoopIn
import Derived.RangeFuncNested
import Derived.Sort.QuietTacIn
import Derived.Maps.AppendAt
set_option linter.unnecessarySimpa false
set_option linter.unusedVariables false
set_option linter.unusedSimpArgs false
/-
  slices.Backward over strings; tree.Fold.
-/
set_option linter.unusedVariables false
set_option linter.unusedSimpArgs false
namespace Go.Proofs.YtblkehdpenfhjaaGreatDoor
open Go.RowKit Go.Shelf

attribute [local go_sem] Oper.semAt_some
def uptoL {α : Type} (f : Nat → α) (k : Nat) : List α := (List.range k).map f
theorem uptoL_succ {α : Type} (f : Nat → α) (k : Nat) : uptoL f (k + 1) = uptoL f k ++ [f k] := by simp [uptoL, List.range_succ]
theorem uptoL_length {α : Type} (f : Nat → α) (k : Nat) : (uptoL f k).length = k := by simp [uptoL]
/-- a number and a short text -/
abbrev Sm := { x : Nat × ByteArray // x.2.size ≤ 32 }
theorem short_at {zs : List ByteArray} (h : ∀ x ∈ zs, x.size ≤ 32) (i : Nat) : (zs.getD i ⟨#[]⟩).size ≤ 32 := by
  by_cases hi : i < zs.length
  · have : zs.getD i ⟨#[]⟩ = zs[i] := by simp [hi]
    rw [this]; exact h _ (List.getElem_mem _)
  · have : zs.getD i ⟨#[]⟩ = ⟨#[]⟩ := by simp [hi]
    rw [this]; decide
/-- what slices.Backward tells in its round k -/
def backAt (zs : List ByteArray) (h : ∀ x ∈ zs, x.size ≤ 32) (k : Nat) : Sm := ⟨(zs.length - 1 - k, zs.getD (zs.length - 1 - k) ⟨#[]⟩), short_at h _⟩
set_option maxRecDepth 100000 in
set_option maxHeartbeats 2000000 in
theorem back1_in (F : Fence) (n : Nat) (h7 : F.fn 273) (hro : F.round = none) (hn : 1 ≤ n) (l Bs : Nat) (Fb : Nat → Prop) (A : Option Addr) (cap : Nat) (zs : List ByteArray) (hz : ∀ x ∈ zs, x.size ≤ 32) (hlen : zs.length ≤ 1099511627776) (J Jx : List Sm → World → Prop)
    (hY : ∀ pre x W, J pre W → pre.length < zs.length → YieldAt F (n - 1) Tryz.prog l #[.int .i64 (x.1.1 : Int), .string x.1.2] W fun e W' =>
      (e = .returned (.bool true) ∧ J (pre ++ [x]) W' ∧ Turn Fb W W') ∨ (e = .returned (.bool false) ∧ Jx (pre ++ [x]) W'))
    (W : World) (hBs : W.cell? ⟨Bs, 0, none⟩ = some (.slice A zs.length cap)) (hBn : Bs < W.heap.size ∧ ¬ Fb Bs) (hc : 0 < zs.length → ∃ b o, A = some ⟨b, o, none⟩ ∧ (b < W.heap.size ∧ ¬ Fb b) ∧ ∀ j (h : j < zs.length), W.cell? ⟨b, o + j, none⟩ = some (.string zs[j])) (h0 : J [] W) :
    CallsIn F n Tryz.prog 273 #[.func (.yield l) #[] #[], .pointer (some ⟨Bs, 0, none⟩)] W fun e W' => (∃ v, e = .returned v) ∧
      ((∃ ys, ys = uptoL (backAt zs hz) zs.length ∧ J ys W') ∨ (∃ pre, (∃ k, k ≤ zs.length ∧ pre = uptoL (backAt zs hz) k) ∧ Jx pre W')) := by
  refine callsIn_of_wp Tryz.func273 rfl h7 ?_ hro
  simp only [Tryz.ntmps273, List.size_toArray, List.length_cons, List.length_nil, Nat.reduceAdd, Nat.reduceSub, Array.replicate_succ, Array.replicate_zero, List.push_toArray, List.append_toArray, List.nil_append, List.cons_append]
  obtain ⟨len, hle⟩ : ∃ x, x = zs.length := ⟨_, rfl⟩
  have HLE := Lib.hid hle
  rw [← hle] at hBs hlen
  have HC := Lib.hid hc
  clear hc hle
  gi_wp2
  gi_loopw [3] (fun i wr => ∃ (k : Nat) (z : Int), k ≤ len ∧ z = (len : Int) - 1 - k ∧ i = .int .i64 z ∧ J (uptoL (backAt zs hz) k) wr ∧ Turn Fb W wr)
    (fun i _ => (intOf i + 1).toNat)
  case atStart => exact ⟨0, _, Nat.zero_le _, by simp, rfl, h0, Turn.refl _ _⟩
  case round =>
    obtain ⟨k, z, hk, hzz, rfl, hJs, hnx⟩ := hrel
    have hBs' : wr.cell? ⟨Bs, 0, none⟩ = some (.slice A len cap) := (hnx.cell (p := ⟨Bs, 0, none⟩) hBn.1 hBn.2).trans hBs
    by_cases hlt : k < len
    · obtain ⟨b, o, rfl, hb, hcs⟩ := HC.out (by rw [← HLE.out]; omega)
      obtain ⟨j, hj⟩ : ∃ j, j = len - 1 - k := ⟨_, rfl⟩
      have hjz : z = (j : Int) := by omega
      have hjl : j < zs.length := by rw [← HLE.out]; omega
      have hcj := (hnx.cell (p := ⟨b, o + j, none⟩) hb.1 hb.2).trans (hcs j hjl)
      have hba : (backAt zs hz k).1 = (j, zs[j]) := by unfold backAt; simp only; rw [← HLE.out, ← hj]; simp [hjl]
      obtain ⟨fn, tmps, assign, body, hy, hR⟩ := hY _ (backAt zs hz k) wr hJs (by rw [uptoL_length, ← HLE.out]; exact hlt)
      rw [← uptoL_succ] at hR
      rw [hba] at hy
      obtain ⟨x, hx⟩ : ∃ x, x = zs[j] := ⟨_, rfl⟩
      rw [← hx] at hy hcj
      dsimp only at hy
      have k1 : decide ((0 : Int) ≤ (j : Int)) = true := decide_eq_true (by omega)
      have k2 : j < len := by omega
      have hjm : (j : Int) - 1 = (len : Int) - 1 - ((k + 1 : Nat) : Int) := by omega
      have HJM := Lib.hid hjm
      subst hjz
      have HK := Lib.hid (And.intro hlt hj)
      clear hx hba hjl hcs hj hzz hjm hlt
      gi_wp2
      refine hR.mono ?_
      rintro e W3 (⟨rfl, hJ3, hk3⟩ | ⟨rfl, hJx3⟩)
      · gi_wp2
        go_roundw
        case rel => exact ⟨k + 1, _, HK.out.1, HJM.out, rfl, hJ3, hnx.trans hk3⟩
        case measure => simp [intOf]
      · gi_wp2
        refine bodyPost_ret (results_none rfl _ _ _) rfl ?_
        exact ⟨⟨_, rfl⟩, .inr ⟨_, ⟨k + 1, by rw [← HLE.out]; exact HK.out.1, rfl⟩, hJx3⟩⟩
    · obtain rfl : k = len := by omega
      have hz1 : z = -1 := by omega
      subst hz1
      have HJ := Lib.hid hJs
      clear hJs hzz
      gi_wp2
      go_end0
      exact ⟨⟨_, rfl⟩, .inl ⟨_, rfl, by rw [← HLE.out]; exact HJ.out⟩⟩
set_option maxRecDepth 100000 in
theorem back_calls (A : Option Addr) (l c : Nat) (w : World) :
    Calls Tryz.prog 210 #[.slice A l c] w fun e w' => e = .returned (.func (.func 273) #[] #[.pointer (some ⟨w.heap.size, 0, none⟩)]) ∧ w' = w.alloc (.cells #[.slice A l c] 32) := by
  go_enter Tryz.func210, Tryz.ntmps210
  go_wp2
  go_ret
  exact ⟨rfl, rfl⟩
theorem back_stops (Bs : Nat) (Fb : Nat → Prop) (v : Value) (zs : List ByteArray) (hz : ∀ x ∈ zs, x.size ≤ 32) (hlen : zs.length ≤ 1099511627776) (w : World) (hBs : Bs < w.heap.size) (hBn : ¬ Fb Bs) (hc : w.cell? ⟨Bs, 0, none⟩ = some v) (hI : SlIn w v (zs.map Value.string) (fun b => ¬ Fb b)) :
    SeqStopsK Fence.wide 2 Tryz.prog 273 #[.pointer (some ⟨Bs, 0, none⟩)] (fun x : Sm => #[Value.int .i64 (x.1.1 : Int), Value.string x.1.2]) (Turn Fb) (fun ys => ys = uptoL (backAt zs hz) zs.length)
      (fun pre => ∃ k, k ≤ zs.length ∧ pre = uptoL (backAt zs hz) k) zs.length w := fun l J Jx W hW _ _ hY h0 => by
  have hc' := (hW.cell (p := ⟨Bs, 0, none⟩) hBs).trans hc
  obtain ⟨A, cap, rfl, hcap, hcl⟩ := hI
  rw [List.length_map] at hc'
  exact back1_in Fence.wide 2 trivial rfl (by omega) l Bs Fb A cap zs hz hlen J Jx hY W hc' ⟨Nat.lt_of_lt_of_le hBs hW.size, hBn⟩ (fun h => by
    obtain ⟨b, o, h1, h2, h3, h4⟩ := hcl (by rw [List.length_map]; exact h)
    exact ⟨b, o, h1, ⟨Nat.lt_of_lt_of_le h2 hW.size, h3⟩, fun j hj => by rw [hW.cell (p := ⟨b, o + j, none⟩) h2, h4 j (by rw [List.length_map]; exact hj), List.getElem_map]⟩) h0
theorem cell_alloc_l {W : World} {a : Addr} {v : Value} (o : Obj) (h : W.cell? a = some v) : (W.alloc o).cell? a = some v := cell_kept h (World.grownBy_alloc W o none) (fun r e => by cases e)
theorem frozen_alloc_l {W : World} {a : Addr} {v : Value} (o : Obj) (h : W.cell? a = some v) (hf : W.frozen? a = false) : (W.alloc o).frozen? a = false := (frozen_kept h (World.grownBy_alloc W o none) (fun r e => by cases e)).trans hf
theorem cell_new_l (W : World) (v : Value) (t : TypeId) : (W.alloc (.cells #[v] t)).cell? ⟨W.heap.size, 0, none⟩ = some v ∧ (W.alloc (.cells #[v] t)).frozen? ⟨W.heap.size, 0, none⟩ = false :=
  ⟨cell_of_block (off := 0) (MapKept.heap_alloc W _).1 (by show 0 < 1; decide), frozen_of_block (MapKept.heap_alloc W _).1⟩
theorem turn_put {F : Nat → Prop} (W : World) (l : Nat) (o : Obj) (h : F l) : Turn F W (W.putObj l o) :=
  ⟨rfl, rfl, rfl, by simp [World.putObj], fun k hk hF => by
    have hne : k ≠ l := fun e => hF (e ▸ h)
    simp [World.putObj, Array.getElem?_setIfInBounds, Ne.symm hne]⟩
theorem keeps_below {W W' : World} (h : Below W.heap.size W W') : KeepsOthers W W' := ⟨h.size, fun k o hk _ => (h.block k (block_lt hk)).trans hk⟩
/-- the roots on the way -/
def foldB (W : Int) (r : ByteArray) (pre : List Sm) : ByteArray := pre.foldl (fun r x => nodeH W x.1.2 r) r
theorem foldB_snoc (W : Int) (r : ByteArray) (pre : List Sm) (x : Sm) : foldB W r (pre ++ [x]) = nodeH W x.1.2 (foldB W r pre) := by simp [foldB]
theorem foldB_small (W : Int) : ∀ (pre : List Sm) (r : ByteArray), r.size ≤ 32 → (foldB W r pre).size ≤ 32
  | [], r, h => h
  | x :: l, r, h => foldB_small W l (nodeH W x.1.2 r) (nodeH_size _ _ _)
theorem foldB_all (W : Int) (r : ByteArray) : ∀ (zs : List ByteArray) (hz : ∀ x ∈ zs, x.size ≤ 32), foldB W r (uptoL (backAt zs hz) zs.length) = foldF W (zs ++ [r])
  | [], _ => rfl
  | z :: zs, hz => by
    have hz2 : ∀ x ∈ zs, x.size ≤ 32 := fun x hx => hz x (List.mem_cons_of_mem _ hx)
    have h1 : uptoL (backAt (z :: zs) hz) (z :: zs).length = (uptoL (backAt zs hz2) zs.length).map (fun x => (⟨(x.1.1 + 1, x.1.2), x.2⟩ : Sm)) ++ [⟨(0, z), hz z (by simp)⟩] := by
      rw [List.length_cons, uptoL_succ]
      congr 1
      · unfold uptoL
        rw [List.map_map]
        apply List.map_congr_left
        intro k hk
        rw [List.mem_range] at hk
        simp only [backAt, Function.comp, List.length_cons, Subtype.mk.injEq]
        rw [show zs.length + 1 - 1 - k = (zs.length - 1 - k) + 1 by omega]
        simp
      · simp [backAt]
    have h2 : ∀ (l : List Sm) (r : ByteArray), foldB W r (l.map (fun x => (⟨(x.1.1 + 1, x.1.2), x.2⟩ : Sm))) = foldB W r l := fun l => by
      induction l with
      | nil => intro r; rfl
      | cons x l ih => intro r; exact ih _
    rw [h1, foldB_snoc, h2, foldB_all W r zs hz2]
    rw [List.cons_append, foldF_cons _ _ _ (by simp)]
set_option maxHeartbeats 4000000 in
set_option maxRecDepth 100000 in
theorem fold_calls (W : Nat) (ps : List ByteArray) (hp : ∀ x ∈ ps, x.size ≤ 32) (hl : ps.length ≤ 1099511627776) {v : Value} {w : World} {X : Nat → Prop} (hv : SlIn w v (ps.map Value.string) X) (hG : Glob w) :
    Calls Tryz.prog 134 #[.int .i64 W, v] w fun r w' => r = .returned (.string (foldF W ps)) ∧ Below w.heap.size w w' := by
  obtain ⟨A, cap, rfl, hcap, hcl⟩ := hv
  have HG := Lib.hid hG
  obtain ⟨n, hn⟩ : ∃ x, x = ps.length := ⟨_, rfl⟩
  have hml : (ps.map Value.string).length = n := by rw [List.length_map, hn]
  have HC := Lib.hid (show 0 < n → ∃ b o, A = some ⟨b, o, none⟩ ∧ b < w.heap.size ∧ ∀ j (h : j < ps.length), w.cell? ⟨b, o + j, none⟩ = some (.string ps[j]) from fun h => by
    obtain ⟨b, o, h1, h2, _, h4⟩ := hcl (by omega)
    exact ⟨b, o, h1, h2, fun i hi => by rw [h4 i (by omega), List.getElem_map]⟩)
  rw [hml] at hcap ⊢
  have HN := Lib.hid hn
  have HP := Lib.hid hp
  rw [← hn] at hl
  clear hcl hml hn hp hG
  by_cases h0 : n = 0
  · have hps : ps = [] := List.eq_nil_of_length_eq_zero (by rw [← HN.out]; exact h0)
    subst h0
    rw [hps]
    refine (callsIn_wide (n := 3)).1 ?_
    refine callsIn_of_wp_marks Tryz.func134 rfl trivial ?_ rfl
    simp only [Tryz.ntmps134, List.size_toArray, List.length_cons, List.length_nil, Nat.reduceAdd, Nat.reduceSub, Array.replicate_succ, Array.replicate_zero, List.push_toArray, List.append_toArray, List.nil_append, List.cons_append]
    gi_wp2_with (refine ⟨trivial, ?_⟩; gi_at_call 145; refine (callsIn_wide.2 (empty_calls W _ (HG.out.keep ((Below.refl _ _).alloc (Nat.le_refl _) _)))).mono ?_; rintro e w' ⟨rfl, hb⟩)
    rename_i hb
    exact ⟨_, results_tmp rfl _ _ _, rfl, ((Below.refl _ w).alloc (Nat.le_refl _) _).trans (hb.mono (by simp))⟩
  · obtain ⟨b, o, rfl, hb, hcs⟩ := HC.out (by omega)
    obtain ⟨m, hm⟩ : ∃ x, x = n - 1 := ⟨_, rfl⟩
    have hmn : n = m + 1 := by omega
    have hlast := hcs m (by rw [← HN.out]; omega)
    have HCS := Lib.hid hcs
    obtain ⟨r0, hr0⟩ : ∃ r, r = ps[m]'(by rw [← HN.out]; omega) := ⟨_, rfl⟩
    rw [← hr0] at hlast
    have hps : ps = ps.take m ++ [r0] := by
      rw [hr0]
      have := List.take_succ_eq_append_getElem (l := ps) (i := m) (by rw [← HN.out]; omega)
      rw [← this, List.take_of_length_le (by rw [← HN.out]; omega)]
    have HPS := Lib.hid hps
    have HR0 := Lib.hid (show r0.size ≤ 32 by rw [hr0]; exact HP.out _ (List.getElem_mem _))
    have hsub : (n : Int) - 1 = (m : Int) := by omega
    have hmn2 : m < n := by omega
    have hpt : ∀ x ∈ ps.take m, x.size ≤ 32 := fun x hx => HP.out x (List.mem_of_mem_take hx)
    have hlt : (ps.take m).length = m := by rw [List.length_take]; have := HN.out; omega
    have HFI := Lib.hid (show foldF W ps = foldB W r0 (uptoL (backAt (ps.take m) hpt) m) by
      have := foldB_all W r0 (ps.take m) hpt
      rw [hlt] at this
      rw [this, ← hps])
    clear hcs hr0 hps hm HC
    refine (callsIn_wide (n := 3)).1 ?_
    refine callsIn_of_wp_marks Tryz.func134 rfl trivial ?_ rfl
    simp only [Tryz.ntmps134, List.size_toArray, List.length_cons, List.length_nil, Nat.reduceAdd, Nat.reduceSub, Array.replicate_succ, Array.replicate_zero, List.push_toArray, List.append_toArray, List.nil_append, List.cons_append]
    have hnew0 := cell_alloc_l (.cells #[.int .i64 (W : Int)] 3) hlast
    gi_wp2_with (refine ⟨trivial, ?_⟩; gi_at_call 210; refine (callsIn_wide.2 (back_calls _ _ _ _)).mono ?_; rintro e w' ⟨rfl, rfl⟩)
    have q0 := cell_new_l w (.int .i64 (W : Int)) 3
    have q1 := cell_new_l (w.alloc (.cells #[.int .i64 (W : Int)] 3)) (.string r0) 9
    have q2 := cell_new_l ((w.alloc (.cells #[.int .i64 (W : Int)] 3)).alloc (.cells #[.string r0] 9)) (.slice (some ⟨b, o, none⟩) m cap) 32
    simp only [World.size_alloc] at q1 q2
    obtain ⟨w3, hw3⟩ : ∃ w3, w3 = ((w.alloc (.cells #[.int .i64 (W : Int)] 3)).alloc (.cells #[.string r0] 9)).alloc (.cells #[.slice (some ⟨b, o, none⟩) m cap] 32) := ⟨_, rfl⟩
    have hB0 : Below w.heap.size w w3 := by rw [hw3]; exact (((Below.refl _ w).alloc (Nat.le_refl _) _).alloc (by simp) _).alloc (by simp; omega) _
    have hs3 : w3.heap.size = w.heap.size + 1 + 1 + 1 := by rw [hw3]; simp
    have p0 : w3.cell? ⟨w.heap.size, 0, none⟩ = some (.int .i64 (W : Int)) := by rw [hw3]; exact cell_alloc_l _ (cell_alloc_l _ q0.1)
    have p1 : w3.cell? ⟨w.heap.size + 1, 0, none⟩ = some (.string r0) := by rw [hw3]; exact cell_alloc_l _ q1.1
    have p1f : w3.frozen? ⟨w.heap.size + 1, 0, none⟩ = false := by rw [hw3]; exact frozen_alloc_l _ q1.1 q1.2
    have p2 : w3.cell? ⟨w.heap.size + 1 + 1, 0, none⟩ = some (.slice (some ⟨b, o, none⟩) m cap) := by rw [hw3]; exact q2.1
    rw [← hw3]
    have hIn : SlIn w3 (.slice (some ⟨b, o, none⟩) m cap) ((ps.take m).map Value.string) (fun k => ¬ (k = w.heap.size + 1 ∨ w.heap.size + 1 + 1 + 1 ≤ k)) := by
      have hl1 : ((ps.take m).map Value.string).length = m := by rw [List.length_map, List.length_take]; have := HN.out; omega
      refine ⟨_, cap, by rw [hl1], by rw [hl1]; omega, fun _ => ⟨b, o, rfl, by omega, by omega, fun i hi => ?_⟩⟩
      rw [hl1] at hi
      rw [hB0.cell (p := ⟨b, o + i, none⟩) hb, HCS.out i (by rw [← HN.out]; omega), List.getElem_map, List.getElem_take]
    clear hnew0 q0 q1 q2 hw3
    refine wpIn_rangeFunc_ownF rfl (by omega) (gf := 273) (lb := #[.pointer (some ⟨w.heap.size + 1 + 1, 0, none⟩)]) rfl trivial (enters_of Tryz.func273 (by kernel_rfl) rfl)
      (back_stops (w.heap.size + 1 + 1) (fun k => k = w.heap.size + 1 ∨ w.heap.size + 1 + 1 + 1 ≤ k) (.slice (some ⟨b, o, none⟩) m cap) (ps.take m) hpt (by omega) w3 (by omega) (by omega) p2 hIn) (fun h k => h.trans k) (fun W' l o o' hl _ _ _ => turn_put W' l o' (.inr (by omega))) (Below.refl _ _) (fun _ => rfl)
      (fun pre W' => (W'.cell? ⟨w.heap.size, 0, none⟩ = some (.int .i64 (W : Int)) ∧ W'.cell? ⟨w.heap.size + 1, 0, none⟩ = some (.string (foldB W r0 pre)) ∧ W'.frozen? ⟨w.heap.size + 1, 0, none⟩ = false) ∧ Below w.heap.size w W')
      (fun _ _ _ => False)
      (OwnFrom.and (Own.from (fun s A B row hs hg hr => ⟨cell_kept hs.1 hg hr, cell_kept hs.2.1 hg hr, (frozen_kept hs.2.1 hg hr).trans hs.2.2⟩) _) (ownFrom_below (Nat.le_refl _) (by omega)))
      (fun _ _ _ _ _ hs _ _ => hs)
      ⟨⟨p0, p1, p1f⟩, hB0⟩
      (fun x => { tmps := #[.int .i64 (W : Int), .slice (some ⟨b, o, none⟩) (m + 1) cap, .pointer (some ⟨w.heap.size, 0, none⟩), undef, .string ⟨#[]⟩, .int .i64 (m : Int), .pointer (some ⟨w.heap.size + 1, 0, none⟩), undef, .string x.1.2, .slice (some ⟨b, o, none⟩) (m + 1) cap, .int .i64 ((m : Int) + 1), .bool false, undef, undef, .slice (some ⟨b, o, none⟩) (m + 1) cap, .int .i64 ((m : Int) + 1), .int .i64 (m : Int), .slice (some ⟨b, o, none⟩) (m + 1) cap, .int .i64 (m : Int), .pointer (some ⟨b, o + m, none⟩), .string r0, .slice (some ⟨b, o, none⟩) (m + 1) cap, .int .i64 (m : Int), .slice (some ⟨b, o, none⟩) m cap, .func (.func 273) #[] #[.pointer (some ⟨w.heap.size + 1 + 1, 0, none⟩)], .int .i64 (x.1.1 : Int), .string x.1.2, undef, undef, undef, undef, undef], defers := [] }) ?assign ?body ?done ?stop
    case assign =>
      intro l x W' K hK
      gi_wp2
      exact hK
    case body =>
      rintro l pre ⟨⟨xi, x⟩, hxs⟩ W' ⟨⟨hc0, hc1, hf1⟩, hB⟩ _
      dsimp only at hxs
      have hrs := foldB_small W pre r0 HR0.out
      have HSN := Lib.hid (foldB_snoc W r0 pre ⟨(xi, x), hxs⟩)
      obtain ⟨r1, hr1⟩ : ∃ r, r = foldB W r0 pre := ⟨_, rfl⟩
      rw [← hr1] at hc1 hrs HSN
      have HND := Lib.hid (node_calls W x r1 (by omega) (by omega) W' (HG.out.keep hB))
      obtain ⟨nv, hnv⟩ : ∃ r, r = nodeH W x r1 := ⟨_, rfl⟩
      rw [show mk (hashF W (1 :: (x.data.toList ++ r1.data.toList))) = nv from hnv.symm] at HND
      rw [show nodeH W (⟨(xi, x), hxs⟩ : Sm).1.2 r1 = nv from hnv.symm] at HSN
      have hBs : w.heap.size + 1 < W'.heap.size := by
        have := hc1
        by_cases hh : w.heap.size + 1 < W'.heap.size
        · exact hh
        · simp [World.cell?, Array.getElem?_eq_none (Nat.le_of_not_lt hh)] at this
      have HBS := Lib.hid hBs
      clear hr1 hnv hrs hBs
      dsimp only
      gi_wp2_with fail
      refine ⟨trivial, ?_⟩
      refine (CallsIn.inRound l (callsIn_wide.2 HND.out)).mono ?_
      rintro e W2 ⟨rfl, hb2⟩
      have c1' := (hb2.cell (p := ⟨w.heap.size + 1, 0, none⟩) HBS.out).trans hc1
      have f1' := (hb2.frozen (p := ⟨w.heap.size + 1, 0, none⟩) HBS.out).trans hf1
      have c0' := (hb2.cell (p := ⟨w.heap.size, 0, none⟩) (by have := HBS.out; show w.heap.size < _; omega)).trans hc0
      gi_wp2
      refine ⟨(keeps_below hb2).trans (KeepsOthers.setCell _ _ _), (Turn.of_below hb2).setCell (p := ⟨w.heap.size + 1, 0, none⟩) (.inl (.inl rfl)) _, ⟨?_, ?_, ?_⟩, (hB.trans (hb2.mono hB.size)).setCell (p := ⟨w.heap.size + 1, 0, none⟩) (Nat.le_succ _) _⟩
      · rw [World.cell?_setCell_other _ _ _ _ (by intro e; injection e with e; omega)]; exact c0'
      · rw [HSN.out]; exact World.cell?_setCell_same' _ _ _ (by rw [c1']; rfl)
      · rw [World.frozen?_setCell]; exact f1'
    case done =>
      rintro D ys W' hD rfl ⟨⟨hc0, hc1, hf1⟩, hB⟩ hK
      gi_wp2
      refine ⟨by simp, .inl ⟨_, _, rfl, run_takeDeferred hK, ?_⟩⟩
      exact ⟨_, results_tmp rfl _ _ _, by rw [HFI.out]; rfl, hB.trans (belowK_b (w := w) (Nat.le_refl _) W' D _ _ (by omega) hK rfl rfl)⟩
    case stop =>
      rintro D c pre W' _ _ h _
      exact h.elim
end Go.Proofs.YtblkehdpenfhjaaGreatDoor
/-
  tree.pieces, tree.Cover.
-/
set_option linter.unusedVariables false
set_option linter.unusedSimpArgs false
namespace Go.Proofs.YtblkehdpenfhjaaGreatDoor
open Go.RowKit Go.Shelf

attribute [local go_sem] Oper.semAt_some
theorem bitsN_spec : ∀ f n, 0 < n → n < 2 ^ f → 1 ≤ bitsN f n ∧ 2 ^ (bitsN f n - 1) ≤ n ∧ n < 2 ^ bitsN f n
  | 0, n, h0, h => by simp at h; omega
  | f + 1, n, h0, h => by
    unfold bitsN
    rw [if_neg (by omega)]
    by_cases h2 : n / 2 = 0
    · have e : bitsN f (n / 2) = 0 := by rw [h2]; cases f <;> simp [bitsN]
      rw [e]
      simp
      omega
    · obtain ⟨a1, a2, a3⟩ := bitsN_spec f (n / 2) (by omega) (by rw [Nat.pow_succ] at h; omega)
      refine ⟨by omega, ?_, ?_⟩
      · rw [show bitsN f (n / 2) + 1 - 1 = (bitsN f (n / 2) - 1) + 1 by omega, Nat.pow_succ]; omega
      · rw [Nat.pow_succ]; omega
theorem zerosN_ge : ∀ f k p, p ≠ 0 → 2 ^ k ∣ p → k ≤ f → k ≤ zerosN f p
  | f, 0, p, _, _, _ => Nat.zero_le _
  | 0, k + 1, p, _, _, h => by omega
  | f + 1, k + 1, p, h0, hd, h => by
    obtain ⟨q, rfl⟩ := hd
    have e : 2 ^ (k + 1) * q = 2 * (2 ^ k * q) := by rw [Nat.pow_succ, Nat.mul_comm (2 ^ k) 2, Nat.mul_assoc]
    rw [e] at h0 ⊢
    unfold zerosN
    have h1 : (2 * (2 ^ k * q)) % 2 = 0 := by omega
    have h2 : 2 * (2 ^ k * q) / 2 = 2 ^ k * q := by omega
    have := zerosN_ge f k (2 ^ k * q) (by omega) (Nat.dvd_mul_right _ _) (by omega)
    rw [if_pos h1, h2]
    omega
/-- the level that is taken -/
def pieceL (p r : Nat) : Nat := min (min (zeros p) (bitsN 63 r - 1)) 62
theorem pieceL_eq {k p r : Nat} (hk : k ≤ 63) (hp : 2 ^ k ∣ p) (h0 : 0 < r) (hr : r < 2 ^ k) : pieceL p r = bitsN 63 r - 1 ∧ bitsN 63 r - 1 < k := by
  have hr63 : r < 2 ^ 63 := Nat.lt_of_lt_of_le hr (Nat.pow_le_pow_right (by decide) hk)
  obtain ⟨a1, a2, a3⟩ := bitsN_spec 63 r h0 hr63
  have hlt : bitsN 63 r - 1 < k := by
    by_cases h : bitsN 63 r - 1 < k
    · exact h
    · have := Nat.pow_le_pow_right (n := 2) (by decide) (Nat.le_of_not_lt h)
      omega
  have hz : k ≤ zeros p := by
    unfold zeros
    split
    · exact hk
    · exact zerosN_ge 63 k p (by assumption) hp hk
  unfold pieceL
  refine ⟨by omega, hlt⟩
theorem cov_head : ∀ (k p r : Nat), 0 < r → r < 2 ^ k → k ≤ 63 → cov k p r = (bitsN 63 r - 1, p / 2 ^ (bitsN 63 r - 1)) :: cov (bitsN 63 r - 1) (p + 2 ^ (bitsN 63 r - 1)) (r - 2 ^ (bitsN 63 r - 1))
  | 0, p, r, h0, h, _ => by simp at h; omega
  | k + 1, p, r, h0, h, hk => by
    obtain ⟨a1, a2, a3⟩ := bitsN_spec 63 r h0 (Nat.lt_of_lt_of_le h (Nat.pow_le_pow_right (by decide) hk))
    have hc : cov (k + 1) p r = if 2 ^ k ≤ r then (k, p / 2 ^ k) :: cov k (p + 2 ^ k) (r - 2 ^ k) else cov k p r := rfl
    rw [hc]
    split
    · rename_i hle
      have e : bitsN 63 r - 1 = k := by
        have h1 : bitsN 63 r - 1 < k + 1 := by
          by_cases hh : bitsN 63 r - 1 < k + 1
          · exact hh
          · have := Nat.pow_le_pow_right (n := 2) (by decide) (Nat.le_of_not_lt hh); omega
        have h2 : k < bitsN 63 r := by
          by_cases hh : k < bitsN 63 r
          · exact hh
          · have := Nat.pow_le_pow_right (n := 2) (by decide) (Nat.le_of_not_lt hh); omega
        omega
      rw [e]
    · exact cov_head k p r h0 (by omega) (by omega)
theorem cov_zero : ∀ k p, cov k p 0 = []
  | 0, _ => rfl
  | k + 1, p => by
    unfold cov
    rw [if_neg (by have := Nat.two_pow_pos k; omega)]
    exact cov_zero k p
set_option maxRecDepth 100000 in
set_option maxHeartbeats 4000000 in
theorem pieces1_in (l Bl Bh : Nat) (Fb : Nat → Prop) (n : Nat) (hn : n ≤ 4611686018427387904) (J Jx : List (Nat × Nat) → World → Prop)
    (hY : ∀ pre x W, J pre W → pre.length < 64 → YieldAt Fence.wide 1 Tryz.prog l #[plV x.1 x.2] W fun e W' =>
      (e = .returned (.bool true) ∧ J (pre ++ [x]) W' ∧ Turn Fb W W') ∨ (e = .returned (.bool false) ∧ Jx (pre ++ [x]) W'))
    (W : World) (hBl : W.cell? ⟨Bl, 0, none⟩ = some (.int .i64 0)) (hBh : W.cell? ⟨Bh, 0, none⟩ = some (.int .i64 (n : Int))) (hlt : Bh < W.heap.size) (hBn : ¬ Fb Bh) (hFb : ∀ b, W.heap.size ≤ b → Fb b)
    (hJd : ∀ pre W, J pre W → ∀ k, J pre (W.drewN k)) (h0 : J [] W) :
    CallsIn Fence.wide 2 Tryz.prog 207 #[.func (.yield l) #[] #[], .pointer (some ⟨Bl, 0, none⟩), .pointer (some ⟨Bh, 0, none⟩)] W fun e W' => (∃ v, e = .returned v) ∧
      ((∃ ys, ys = cover n ∧ J ys W') ∨ (∃ pre, pre <+: cover n ∧ Jx pre W')) := by
  refine callsIn_of_wp Tryz.func207 rfl trivial ?_ rfl
  simp only [Tryz.ntmps207, List.size_toArray, List.length_cons, List.length_nil, Nat.reduceAdd, Nat.reduceSub, Array.replicate_succ, Array.replicate_zero, List.push_toArray, List.append_toArray, List.nil_append, List.cons_append]
  gi_wp2
  gi_loopw [4] (fun i wr => ∃ (pre : List (Nat × Nat)) (p k : Nat), i = .int .i64 (p : Int) ∧ p ≤ n ∧ k ≤ 63 ∧ cover n = pre ++ cov k p (n - p) ∧ 2 ^ k ∣ p ∧ n - p < 2 ^ k ∧ J pre wr ∧ Turn Fb W wr)
    (fun i _ => n - (intOf i).toNat)
  case atStart => exact ⟨[], 0, 63, rfl, Nat.zero_le _, Nat.le_refl _, by rw [Nat.sub_zero, List.nil_append]; rfl, Nat.dvd_zero _, by rw [Nat.sub_zero]; exact Nat.lt_of_le_of_lt hn (by decide), h0, Turn.refl _ _⟩
  case round =>
    obtain ⟨pre, p, k, rfl, hpn, hk63, hcv, hd, hr, hJs, hT⟩ := hrel
    have hBh' : wr.cell? ⟨Bh, 0, none⟩ = some (.int .i64 (n : Int)) := (hT.cell (p := ⟨Bh, 0, none⟩) hlt hBn).trans hBh
    by_cases hlt2 : p < n
    · obtain ⟨e1, e2⟩ := pieceL_eq hk63 hd (show 0 < n - p by omega) hr
      obtain ⟨lev, hlev⟩ : ∃ x, x = bitsN 63 (n - p) - 1 := ⟨_, rfl⟩
      have HCH := Lib.hid (cov_head k p (n - p) (by omega) hr hk63)
      have hspec := bitsN_spec 63 (n - p) (by omega) (by omega)
      unfold pieceL at e1
      rw [← hlev] at HCH e1 e2
      have hlev1 : bitsN 63 (n - p) = lev + 1 := by omega
      have hpow : 2 ^ lev ≤ n - p := by rw [hlev]; exact hspec.2.1
      have hpow2 : n - p < 2 ^ (lev + 1) := by rw [← hlev1]; exact hspec.2.2
      obtain ⟨q, hq⟩ : ∃ x, x = p / 2 ^ lev := ⟨_, rfl⟩
      obtain ⟨P2, hP2⟩ : ∃ x, x = 2 ^ lev := ⟨_, rfl⟩
      obtain ⟨z, hz⟩ : ∃ x, x = zeros p := ⟨_, rfl⟩
      obtain ⟨r, hrr⟩ : ∃ x, x = n - p := ⟨_, rfl⟩
      have HZC := Lib.hid (show ∀ w, Calls Tryz.prog 208 #[.int .i64 p] w fun r w' => r = .returned (.int .i64 (z : Int)) ∧ w = w' by rw [hz]; exact fun w => zeros_calls p (by omega) w)
      have HBC := Lib.hid (show ∀ w, Calls Tryz.prog 209 #[.int .i64 (r : Int)] w fun r w' => r = .returned (.int .i64 ((lev + 1 : Nat) : Int)) ∧ w = w' by rw [← hlev1, hrr]; exact fun w => bits_calls (n - p) (by omega) w)
      obtain ⟨l1, hl1⟩ : ∃ x, x = lev + 1 := ⟨_, rfl⟩
      rw [← hl1] at HBC
      have hlevk : lev < k := e2
      have e1' : min (min z lev) 62 = lev := by rw [hz]; exact e1
      have m1 : min (z : Int) (lev : Int) = (lev : Int) := by omega
      have m2 : min (lev : Int) 62 = (lev : Int) := by omega
      have s1 : (n : Int) - (p : Int) = (r : Int) := by omega
      have s2 : (l1 : Int) - 1 = (lev : Int) := by omega
      have hlz : lev ≤ z := by omega
      have hm3 : (if lev < z then (lev : Int) else (z : Int)) = (lev : Int) := by split <;> omega
      have hm4 : ¬ (62 < (lev : Int)) := by omega
      have hm5 : ¬ (62 < lev) := by omega
      have hw1 : IntKind.i64.wrap (r : Int) = (r : Int) := by simp [IntKind.wrap, IntKind.signed, IntKind.bits]; omega
      have hw2 : IntKind.i64.wrap (lev : Int) = (lev : Int) := by simp [IntKind.wrap, IntKind.signed, IntKind.bits]; omega
      have hl62 : lev ≤ 62 := by omega
      have hshr : (p : Int) / 2 ^ lev = (q : Int) := by rw [hq]; simp
      have hshl : (1 : Int) * 2 ^ lev = (P2 : Int) := by rw [hP2]; simp
      have hshl2 : (2 : Int) ^ lev = (P2 : Int) := by rw [hP2]; simp
      have hshr2 : (p : Int) / (P2 : Int) = (q : Int) := by rw [hq, hP2]; simp
      have k64 : (lev : Int) ≤ 64 := by omega
      have HNX := Lib.hid (show p + P2 ≤ n ∧ lev ≤ 63 ∧ cover n = (pre ++ [(lev, q)]) ++ cov lev (p + P2) (n - (p + P2)) ∧ 2 ^ lev ∣ p + P2 ∧ n - (p + P2) < 2 ^ lev ∧ pre.length < 64 ∧ 1 ≤ P2 from by
        rw [hP2]
        refine ⟨by omega, by omega, ?_, ?_, by rw [Nat.pow_succ] at hpow2; omega, ?_, Nat.one_le_two_pow⟩
        · rw [hcv, HCH.out, ← hq, List.append_assoc, show n - p - 2 ^ lev = n - (p + 2 ^ lev) by omega]
          rfl
        · exact (Nat.dvd_add_iff_right (Nat.dvd_trans (Nat.pow_dvd_pow 2 (Nat.le_of_lt hlevk)) hd)).1 (Nat.dvd_refl _)
        · have h1 := congrArg List.length hcv
          have h2 := cover_len n
          rw [List.length_append] at h1
          omega)
      have hJd' := fun k => hJd pre wr hJs k
      have HYY := Lib.hid hY
      have HT := Lib.hid hT
      have HJD := Lib.hid hJd'
      have hP2n : p + P2 ≤ n := HNX.out.1
      clear hY hJd' hcv hd hr hpow hpow2 hq hP2 hz hrr hspec hlev1 hlev e1 e1' e2 hlevk hl1
      gi_wp2
      refine wpIn_wide.2 ?_
      go_quiet (first | (go_at_call 208; exact (HZC.out _).mono fun _ _ ⟨h1, h2⟩ => ⟨h1, _, h2.symm⟩) | (go_at_call 209; exact (HBC.out _).mono fun _ _ ⟨h1, h2⟩ => ⟨h1, _, h2.symm⟩))
      obtain ⟨fn, tmps, assign, body, hy, hR⟩ := HYY.out pre (lev, q) (wr.drewN nq) (HJD.out nq) HNX.out.2.2.2.2.2.1
      dsimp only at hy
      unfold plV at hy
      gi_wp2
      refine hR.mono ?_
      rintro e W3 (⟨rfl, hJ3, hk3⟩ | ⟨rfl, hJx3⟩)
      · gi_wp2
        go_roundw
        case rel => exact ⟨pre ++ [(lev, q)], p + P2, lev, by congr 1, HNX.out.1, HNX.out.2.1, HNX.out.2.2.1, HNX.out.2.2.2.1, HNX.out.2.2.2.2.1, hJ3, (HT.out.drewN nq).trans hk3⟩
        case measure => have := HNX.out.2.2.2.2.2.2; simp [intOf]; omega
      · gi_wp2
        refine bodyPost_ret (results_none rfl _ _ _) rfl ?_
        exact ⟨⟨_, rfl⟩, .inr ⟨_, ⟨_, HNX.out.2.2.1.symm⟩, hJx3⟩⟩
    · obtain rfl : p = n := by omega
      have hcv2 : cover p = pre := by rw [hcv, Nat.sub_self, cov_zero, List.append_nil]
      gi_wp2
      go_end0
      exact ⟨⟨_, rfl⟩, .inl ⟨_, rfl, by rw [hcv2]; exact hJs⟩⟩
end Go.Proofs.YtblkehdpenfhjaaGreatDoor
/-
  tree.Cover.
-/
set_option linter.unusedVariables false
set_option linter.unusedSimpArgs false
namespace Go.Proofs.YtblkehdpenfhjaaGreatDoor
open Go.RowKit Go.Shelf

attribute [local go_sem] Oper.semAt_some
theorem grown_drewN (w : World) (n : Nat) (row : Option Nat) : w.grownBy (w.drewN n) row := ⟨rfl, rfl, rfl, Nat.le_refl _, fun _ _ _ => rfl⟩
/-- the cells of places -/
def plC (ps : List (Nat × Nat)) : List Value := ps.flatMap fun a => [.int .i64 (a.1 : Int), .int .i64 (a.2 : Int)]
theorem plC_app (a b : List (Nat × Nat)) : plC (a ++ b) = plC a ++ plC b := by simp [plC]
theorem plC_one (a : Nat × Nat) : plC [a] = [.int .i64 (a.1 : Int), .int .i64 (a.2 : Int)] := by simp [plC]
theorem infoA : (Tryz.prog.info? 42).map (fun i => (i.zero, i.size, i.bytes)) = some (some (.agg #[.int .i64 0, .int .i64 0]), 2, 16) := by kernel_rfl
set_option maxRecDepth 100000 in
theorem pieces_calls (x y : Int) (w : World) :
    Calls Tryz.prog 133 #[.int .i64 x, .int .i64 y] w fun e w' => e = .returned (.func (.func 207) #[] #[.pointer (some ⟨w.heap.size, 0, none⟩), .pointer (some ⟨w.heap.size + 1, 0, none⟩)]) ∧ w' = (w.alloc (.cells #[.int .i64 x] 3)).alloc (.cells #[.int .i64 y] 3) := by
  go_enter Tryz.func133, Tryz.ntmps133
  go_wp2
  go_ret
  exact ⟨rfl, rfl⟩
theorem pieces_stops (Bl Bh : Nat) (Fb : Nat → Prop) (n : Nat) (hn : n ≤ 4611686018427387904) (w : World) (hBl : Bl < w.heap.size) (hBh : Bh < w.heap.size) (hFh : ¬ Fb Bh) (hFb : ∀ b, w.heap.size ≤ b → Fb b) (hl : w.cell? ⟨Bl, 0, none⟩ = some (.int .i64 0)) (hh : w.cell? ⟨Bh, 0, none⟩ = some (.int .i64 (n : Int))) :
    SeqStopsK Fence.wide 2 Tryz.prog 207 #[.pointer (some ⟨Bl, 0, none⟩), .pointer (some ⟨Bh, 0, none⟩)] (fun x : Nat × Nat => #[plV x.1 x.2]) (Turn Fb) (fun ys => ys = cover n) (fun pre => pre <+: cover n) 64 w := fun l J Jx W hW hJ _ hY h0 =>
  pieces1_in l Bl Bh Fb n hn J Jx hY W ((hW.cell (p := ⟨Bl, 0, none⟩) hBl).trans hl) ((hW.cell (p := ⟨Bh, 0, none⟩) hBh).trans hh) (Nat.lt_of_lt_of_le hBh hW.size) hFh (fun b hb => hFb b (Nat.le_trans hW.size hb))
    (fun pre W' hj k => hJ pre W' _ none hj (grown_drewN W' k none) (fun r e => by cases e)) h0
theorem own_size {β : Type} (B k : Nat) : OwnFrom B (fun (_ : β) W => k ≤ W.heap.size) := fun _ W W' row hs hg _ => Nat.le_trans hs hg.size
set_option maxHeartbeats 4000000 in
set_option maxRecDepth 100000 in
theorem cover_calls (n : Nat) (hn : n ≤ 4611686018427387904) (w : World) :
    Calls Tryz.prog 61 #[.int .i64 0, .int .i64 n] w fun r w' => ∃ v, r = .returned (.tuple #[v, .int .i64 0]) ∧ w'.ownsRow w.heap.size 42 2 v (cover n).length (plC (cover n)) ∧ Below w.heap.size w w' := by
  have k1 : ¬ ((n : Int) < 0) := by omega
  have k2 : ¬ (4611686018427387904 < (n : Int)) := by omega
  obtain ⟨i0, hi, hz0, hz1, hz2⟩ := info_parts infoA
  refine (callsIn_wide (n := 3)).1 ?_
  refine callsIn_of_wp_marks Tryz.func61 rfl trivial ?_ rfl
  simp only [Tryz.ntmps61, List.size_toArray, List.length_cons, List.length_nil, Nat.reduceAdd, Nat.reduceSub, Array.replicate_succ, Array.replicate_zero, List.push_toArray, List.append_toArray, List.nil_append, List.cons_append]
  gi_wp2_with (refine ⟨trivial, ?_⟩; gi_at_call 133; refine (callsIn_wide.2 (pieces_calls _ _ _)).mono ?_; rintro e w' ⟨rfl, rfl⟩)
  have bS := ((Boxed.new w 23 (.slice none 0 0)).alloc (.cells #[.int .i64 0] 3)).alloc (.cells #[.int .i64 (n : Int)] 3)
  have q1 := cell_new_l (w.alloc (.cells #[.slice none 0 0] 23)) (.int .i64 0) 3
  have q2 := cell_new_l ((w.alloc (.cells #[.slice none 0 0] 23)).alloc (.cells #[.int .i64 0] 3)) (.int .i64 (n : Int)) 3
  simp only [World.size_alloc] at q1 q2
  obtain ⟨s, hs⟩ : ∃ s, s = w.heap.size := ⟨_, rfl⟩
  obtain ⟨w3, hw3⟩ : ∃ w3, w3 = ((w.alloc (.cells #[.slice none 0 0] 23)).alloc (.cells #[.int .i64 0] 3)).alloc (.cells #[.int .i64 (n : Int)] 3) := ⟨_, rfl⟩
  have hB0 : Below w.heap.size w w3 := by rw [hw3]; exact (((Below.refl _ w).alloc (Nat.le_refl _) _).alloc (by simp) _).alloc (by simp; omega) _
  have hs3 : w3.heap.size = s + 1 + 1 + 1 := by rw [hw3, hs]; simp
  have p1 : w3.cell? ⟨w.heap.size + 1, 0, none⟩ = some (.int .i64 0) := by rw [hw3]; exact cell_alloc_l _ q1.1
  have p2 : w3.cell? ⟨w.heap.size + 1 + 1, 0, none⟩ = some (.int .i64 (n : Int)) := by rw [hw3]; exact q2.1
  rw [← hw3] at bS ⊢
  rw [← hs] at bS hB0 p1 p2 ⊢
  have HSW := Lib.hid hs
  clear q1 q2 hw3 hs
  refine wpIn_rangeFunc_ownH rfl (by omega) (gf := 207) (lb := #[.pointer (some ⟨s + 1, 0, none⟩), .pointer (some ⟨s + 1 + 1, 0, none⟩)]) rfl trivial (enters_of Tryz.func207 (by kernel_rfl) rfl)
    (pieces_stops (s + 1) (s + 1 + 1) (fun b => s ≤ b ∧ b ≠ s + 1 ∧ b ≠ s + 1 + 1) n hn w3 (by omega) (by omega) (fun h => h.2.2 rfl) (fun b hb => ⟨by omega, by omega, by omega⟩) p1 p2) (fun h k => h.trans k) (fun W' l o o' hl _ _ _ => turn_put W' l o' ⟨by omega, by omega, by omega⟩) (Below.refl _ _) (fun _ => rfl)
    (fun pre W' => (∃ v, Boxed W' s 23 v ∧ W'.ownsRow (s + 1 + 1 + 1) 42 2 v pre.length (plC pre) ∧ True) ∧ Below s w W' ∧ s + 1 + 1 + 1 ≤ W'.heap.size)
    (fun _ _ _ => False)
    (OwnFrom.and (Own.from (holdsRow_own (s + 1 + 1 + 1) s 23 42 2 (fun pre : List (Nat × Nat) => pre.length) plC (fun _ _ => True)) _) (OwnFrom.and (ownFrom_below (by rw [HSW.out]; exact Nat.le_refl _) (by omega)) (own_size _ _)))
    (fun _ _ _ _ _ hs _ _ => hs)
    ⟨⟨_, bS, World.ownsRow_nil _ _ _ _, trivial⟩, hB0, by omega⟩
    (fun x a' W' => ∃ Bx, s + 1 + 1 < Bx ∧ W'.heap[Bx]? = some (.cells #[.int .i64 (x.1 : Int), .int .i64 (x.2 : Int)] 42 (0, 0)) ∧ a' = { tmps := #[.int .i64 0, .int .i64 (n : Int), undef, undef, .slice none 0 0, .int .i64 0, .pointer (some ⟨s, 0, none⟩), .pointer (some ⟨Bx, 0, none⟩), .int .i64 0, .bool false, .bool false, .int .i64 (n : Int), .int .i64 0, .bool false, .bool false, .bool false, .int .i64 (n : Int), .bool false, .bool false, .int .i64 0, .int .i64 (n : Int), .func (.func 207) #[] #[.pointer (some ⟨s + 1, 0, none⟩), .pointer (some ⟨s + 1 + 1, 0, none⟩)], .agg #[.int .i64 (x.1 : Int), .int .i64 (x.2 : Int)], undef, undef, undef, undef, undef], defers := [] })
    (fun x a' _ X Y row hs hg hr => by
      obtain ⟨Bx, h1, h2, h3⟩ := hs
      refine ⟨Bx, h1, (hg.block Bx (block_lt h2) (fun e => ?_)).trans h2, h3⟩
      obtain ⟨_, o, h4, h5⟩ := hr Bx e.symm
      rw [h2] at h4
      cases h4
      cases h5)
    ?assign ?body ?done ?stop
  case assign =>
    rintro l pre x W' K ⟨⟨v, bv, hrow, _⟩, hB, hsz⟩ hK
    unfold plV
    gi_wp2
    exact hK _ _ ((KeepsOthers.alloc _ _).from _) ((Turn.refl _ W').alloc _) ⟨⟨v, bv.alloc _, hrow.alloc _, trivial⟩, hB.alloc (by omega) _, by simp; omega⟩ ⟨W'.heap.size, by omega, (MapKept.heap_alloc W' _).1, rfl⟩
  case body =>
    rintro l pre x a' W' hl ⟨r, hr⟩ ⟨⟨v, bv, hrow, _⟩, hB, hsz⟩ ⟨Bx, hBx, hbx, rfl⟩ hlt
    have c6 := bv.cell
    have f6 := bv.frozen
    have d0 := cell_of_block (off := 0) hbx (by show 0 < 2; decide)
    have d1 := cell_of_block (off := 1) hbx (by show 1 < 2; decide)
    have HROW := Lib.hid hrow
    have HB := Lib.hid hB
    have hlen : pre.length ≤ 64 := by omega
    obtain ⟨x0, x1⟩ := x
    dsimp only at d0 d1 hbx ⊢
    clear hrow hB hr hbx
    gi_wp2_with (gi_at_builtin; refine wpListIn_append_own _ rfl (.tmp 23) (.tmp 25) 23 rfl (s + 1 + 1 + 1) 42 i0 (.agg #[.int .i64 0, .int .i64 0]) 2 16 Tryz.underlying23 hi hz0 hz1 hz2 rfl (by decide) _ _ _ rfl (HROW.out.alloc _) ⟨W'.heap.size, 0, none⟩ 1 1 [.int .i64 (x0 : Int), .int .i64 (x1 : Int)] rfl rfl (World.news_of_block (MapKept.heap_alloc _ _).1) (by intro u hu; simp at hu; rcases hu with rfl | rfl <;> rfl) (by unfold maxLen; omega) (by omega) (by simp; omega) ?_)
    intro v' w1 hown' hgrow _
    obtain ⟨g', cap', rfl⟩ := ownsRow_succ hown'
    have hne : some s ≠ v.ownBlock := fun e => by have := own_ge HROW.out e.symm; omega
    have hv1 : Boxed w1 s 23 v := (bv.alloc _).kept hgrow hne
    have hc1 := hv1.cell
    have hf1 := hv1.frozen
    have HFIN := Lib.hid (show KeepsFrom w3.heap.size W' (w1.setCell ⟨s, 0, none⟩ (.slice (some ⟨g', 0, none⟩) (pre.length + 1) cap')) ∧ Turn (fun b => s ≤ b ∧ b ≠ s + 1 ∧ b ≠ s + 1 + 1) W' (w1.setCell ⟨s, 0, none⟩ (.slice (some ⟨g', 0, none⟩) (pre.length + 1) cap')) ∧
        (∃ v, Boxed (w1.setCell ⟨s, 0, none⟩ (.slice (some ⟨g', 0, none⟩) (pre.length + 1) cap')) s 23 v ∧ (w1.setCell ⟨s, 0, none⟩ (.slice (some ⟨g', 0, none⟩) (pre.length + 1) cap')).ownsRow (s + 1 + 1 + 1) 42 2 v (pre ++ [(x0, x1)]).length (plC (pre ++ [(x0, x1)])) ∧ True) ∧
        Below s w (w1.setCell ⟨s, 0, none⟩ (.slice (some ⟨g', 0, none⟩) (pre.length + 1) cap')) ∧ s + 1 + 1 + 1 ≤ (w1.setCell ⟨s, 0, none⟩ (.slice (some ⟨g', 0, none⟩) (pre.length + 1) cap')).heap.size from by
      have hsz2 := hgrow.size
      rw [World.size_alloc] at hsz2
      refine ⟨?_, ?_, ⟨_, hv1.set _, ?_, trivial⟩, ?_, ?_⟩
      · refine ((KeepsOthers.alloc W' _).trans (KeepsOthers.of_grownBy hgrow fun j o ej hj => ?_)).trans (KeepsOthers.setCell _ _ _) |>.from _
        obtain ⟨cur, hc⟩ := own_block (HROW.out.alloc _) ej
        rw [hc] at hj; cases hj; rfl
      · refine (((Turn.refl _ W').alloc _).grown hgrow fun k hk => .inl ?_).setCell (p := ⟨s, 0, none⟩) (.inl ⟨Nat.le_refl _, by show s ≠ s + 1; omega, by show s ≠ s + 1 + 1; omega⟩) _
        have := own_ge HROW.out hk
        exact ⟨by omega, by omega, by omega⟩
      · rw [List.length_append, plC_app, plC_one]
        exact hown'.kept (grownBy_setCell' w1 s _) (.inr (fun e => by have := own_ge hown' e; omega))
      · refine ((HB.out.alloc (by omega) _).grown hgrow (by simp; omega) fun k hk => ?_).setCell (p := ⟨s, 0, none⟩) (Nat.le_refl _) _
        have := own_ge HROW.out hk
        omega
      · simp [World.setCell]; omega)
    clear hown' hgrow hv1 hne
    gi_wp2
    exact HFIN.out
  case done =>
    rintro D ys W' hD rfl ⟨⟨v, bv, hrow, _⟩, hB, hsz⟩ hK
    have c6 := bv.cell
    gi_wp2
    refine ⟨by simp, .inl ⟨_, _, rfl, run_takeDeferred hK, ?_⟩⟩
    have hsw := HSW.out
    subst hsw
    exact ⟨_, results_tmp2 rfl _ _ _, v, rfl, own_mono (ownsRow_putObj hrow _ hK rfl) (by omega), hB.trans (belowK_b (w := w) (Nat.le_refl _) W' D _ _ (by omega) hK rfl rfl)⟩
  case stop =>
    rintro D c pre W' _ _ h _
    exact h.elim
end Go.Proofs.YtblkehdpenfhjaaGreatDoor
/-
  Package shard: hashes, fold, Root.
-/
set_option linter.unusedVariables false
set_option linter.unusedSimpArgs false
namespace Go.Proofs.YtblkehdpenfhjaaGreatDoor
open Go.RowKit Go.Maps Go.ChangeMaps Go.MapKept

section
variable {w w' : World} {a : EA} {D : ED} {X Y : Nat → Prop}
/-- what questions leave; k: node hashes that were made beside the engine's own -/
structure Asked (w w' : World) (a : EA) (D D' : ED) (X : Nat → Prop) (k : Nat) : Prop where
  eng : EngAt w' a D' X
  like : Like D D'
  good : Good D'
  cnt : D'.nodes + cnt D = D.nodes + cnt D' + k
  turn : Turn a.own w w'
theorem Asked.refl (h : EngAt w a D X) (hg : Good D) : Asked w w a D D X 0 := ⟨h, Like.refl D, hg, rfl, Turn.refl _ _⟩
theorem Asked.trans {w'' : World} {D' D'' : ED} {k m : Nat} (h : Asked w w' a D D' X k) (h2 : Asked w' w'' a D' D'' X m) : Asked w w'' a D D'' X (k + m) :=
  ⟨h2.eng, h.like.trans h2.like, h2.good, by have := h.cnt; have := h2.cnt; omega, h.turn.trans h2.turn⟩
theorem NodeLeft.asked {D' : ED} {l i : Nat} (h : NodeLeft w w' a D D' X l i) : Asked w w' a D D' X 0 := ⟨h.eng, h.like, h.good, h.cnt, h.turn⟩
theorem Asked.below {w'' : World} {D' : ED} {k : Nat} (h : Asked w w' a D D' X k) (hb : Below w'.heap.size w' w'') : Asked w w'' a D D' X k :=
  ⟨h.eng.below hb, h.like, h.good, h.cnt, h.turn.trans (Turn.of_below hb)⟩
theorem EngAt.mono (h : EngAt w a D X) (hX : ∀ b, b < w.heap.size → X b → Y b) (hY : ∀ b, Y b → ¬ a.own b) : EngAt w a D Y := by obtain ⟨lv, rv, sf, ns, h⟩ := h; exact ⟨lv, rv, sf, ns, h.mono hX hY⟩
theorem EngAt.apX (h : EngAt w a D X) : ∀ b, X b → ¬ a.own b := by obtain ⟨_, _, _, _, h⟩ := h; exact h.apX
theorem Asked.mono {D' : ED} {k : Nat} (h : Asked w w' a D D' X k) (hX : ∀ b, b < w'.heap.size → X b → Y b) (hY : ∀ b, Y b → ¬ a.own b) : Asked w w' a D D' Y k := ⟨h.eng.mono hX hY, h.like, h.good, h.cnt, h.turn⟩
theorem own_keepB {e : TypeId} {base sz n : Nat} {v : Value} {us : List Value} (h : w.ownsRow base e sz v n us) (hk : ∀ b, v.ownBlock = some b → b < w.heap.size → w'.heap[b]? = w.heap[b]?) : w'.ownsRow base e sz v n us := by
  refine ⟨h.1, ?_⟩
  rcases h.2 with h2 | ⟨g, cap, cur, e1, e2, e3, e4⟩
  · exact .inl h2
  · exact .inr ⟨g, cap, cur, e1, e2, (hk g (by rw [e1]; rfl) (block_lt e3)).trans e3, e4⟩
theorem EngAt.glb (h : EngAt w a D X) : ∀ b, GlobB b → ¬ a.own b := by obtain ⟨_, _, _, _, h⟩ := h; exact h.glb
theorem plC_at : ∀ (ps : List (Nat × Nat)) (i : Nat) (h : i < ps.length), (plC ps)[2 * i]? = some (.int .i64 (ps[i].1 : Int)) ∧ (plC ps)[2 * i + 1]? = some (.int .i64 (ps[i].2 : Int))
  | [], i, h => by simp at h
  | p :: ps, 0, h => by simp [plC]
  | p :: ps, i + 1, h => by
    have := plC_at ps i (by simpa using h)
    have e : plC (p :: ps) = .int .i64 (p.1 : Int) :: .int .i64 (p.2 : Int) :: plC ps := by simp [plC]
    rw [e, show 2 * (i + 1) = 2 * i + 1 + 1 by omega, show 2 * i + 1 + 1 + 1 = 2 * i + 1 + 1 + 1 from rfl]
    simpa using this
/-- two cells of a list of places -/
theorem plC_cells {B n : Nat} {v : Value} {ps : List (Nat × Nat)} (h : w.ownsRow B 42 2 v n (plC ps)) (hn : n = ps.length) (i : Nat) (hi : i < ps.length) :
    ∃ b c, v = .slice (some ⟨b, 0, none⟩) n c ∧ v.ownBlock = some b ∧ b < w.heap.size ∧ w.cell? ⟨b, i * 2, none⟩ = some (.int .i64 (ps[i].1 : Int)) ∧ w.cell? ⟨b, i * 2 + 1, none⟩ = some (.int .i64 (ps[i].2 : Int)) := by
  rcases h.2 with ⟨rfl, h0⟩ | ⟨g, cap, cur, rfl, hB, hg, hc, hm, hs, ht⟩
  · omega
  · have h1 := plC_at ps i hi
    have c1 := World.ownsRow.cells (g := g) h rfl _ _ h1.1
    have c2 := World.ownsRow.cells (g := g) h rfl _ _ h1.2
    rw [Addr.add_lit, Nat.zero_add, Nat.mul_comm] at c1
    rw [Addr.add_lit, Nat.zero_add, Nat.mul_comm 2 i] at c2
    exact ⟨g, cap, rfl, rfl, block_lt hg, c1, c2⟩
set_option maxHeartbeats 8000000 in
set_option maxRecDepth 100000 in
theorem hashes_calls (h : EngAt w a D X) (hG : Glob w) (hg : Good D) (hXn : ∀ b, w.heap.size ≤ b → X b) (hno : D.nodes + D.most ≤ 1152921504606846976 + cnt D) (ps : List (Nat × Nat)) (hps : ∀ p ∈ ps, (p.2 + 1) * 2 ^ p.1 ≤ D.L.length) (hpl : ps.length ≤ 64) {B : Nat} {v : Value}
    (hv : w.ownsRow B 42 2 v ps.length (plC ps)) (hvo : ∀ b, v.ownBlock = some b → ¬ a.own b) :
    Calls Tryz.prog 63 #[v, .func (.func 60) #[.pointer (some ⟨a.eb, 0, none⟩)] #[]] w fun r w' => ∃ u D', r = .returned u ∧ Asked w w' a D D' X 0 ∧
      w'.ownsRow w.heap.size 9 1 u ps.length ((ps.map fun p => nodeF D.W D.L p.1 p.2).map Value.string) := by
  have HH := Lib.hid (And.intro h (And.intro hG (And.intro hg (And.intro hXn hno))))
  have HP := Lib.hid hps
  have HV := Lib.hid hv
  have HVO := Lib.hid hvo
  have HLOW := Lib.hid (fun b hb => h.low (b := b) hb)
  obtain ⟨n, hn⟩ : ∃ n, n = ps.length := ⟨_, rfl⟩
  have HN := Lib.hid hn
  rw [← hn] at HV hpl ⊢
  obtain ⟨A, cap, rfl, hcap⟩ := own_form HV.out
  obtain ⟨i0, hi, hz0, hz1, hz2⟩ := info_parts infoS
  obtain ⟨eb, heb⟩ : ∃ x, x = a.eb := ⟨_, rfl⟩
  have HEB := Lib.hid heb
  rw [← heb]
  clear h hG hg hXn hno hps hv hvo hn heb
  go_enter Tryz.func63, Tryz.ntmps63
  go_wp2
  go_loopw [5, 10] (fun uv iv wr => ∃ (i : Nat) (D1 : ED) (A1 : Option Addr) (c1 : Nat), uv = .slice A1 i c1 ∧ iv = .int .i64 (i : Int) ∧ i ≤ n ∧ Hid (Asked w wr a D D1 (fun b => X b ∧ uv.ownBlock ≠ some b) 0) ∧ Hid (wr.ownsRow w.heap.size 9 1 uv i (((ps.take i).map fun p => nodeF D.W D.L p.1 p.2).map Value.string))) (fun _ iv _ => n - (intOf iv).toNat)
  case atStart => exact ⟨0, D, none, 0, rfl, rfl, Nat.zero_le _, Lib.hid ((Asked.refl HH.out.1 HH.out.2.2.1).mono (fun b _ hb => ⟨hb, fun e => by cases e⟩) (fun b hb => HH.out.1.apX b hb.1)), Lib.hid (by simpa using World.ownsRow_nil _ _ _ _)⟩
  case round =>
    obtain ⟨i, D1, A1, c1, rfl, rfl, hin, HA, HR⟩ := hrel
    by_cases hlt : i < n
    · have hip : i < ps.length := by rw [← HN.out]; exact hlt
      obtain ⟨b, cb, hsl, hob, hbl, hc0, hc1⟩ := plC_cells HV.out HN.out i hip
      injection hsl with e1 e2 e3
      subst e1
      have hno' := HVO.out b hob
      have d0 := (HA.out.turn.cell (p := ⟨b, i * 2, none⟩) hbl hno').trans hc0
      have d1 := (HA.out.turn.cell (p := ⟨b, i * 2 + 1, none⟩) hbl hno').trans hc1
      have HPI := Lib.hid (HP.out ps[i] (List.getElem_mem _))
      have HTK := Lib.hid (show ((ps.take (i + 1)).map fun p => nodeF D.W D.L p.1 p.2).map Value.string = ((ps.take i).map fun p => nodeF D.W D.L p.1 p.2).map Value.string ++ [Value.string (nodeF D.W D.L ps[i].1 ps[i].2)] by
        rw [List.take_succ_eq_append_getElem hip, List.map_append, List.map_append]; rfl)
      obtain ⟨l, hl⟩ : ∃ l, l = ps[i].1 := ⟨_, rfl⟩
      obtain ⟨k, hk⟩ : ∃ k, k = ps[i].2 := ⟨_, rfl⟩
      rw [← hl] at d0 HPI HTK
      rw [← hk] at d1 HPI HTK
      obtain ⟨us, hus⟩ : ∃ us, us = ((ps.take i).map fun p => nodeF D.W D.L p.1 p.2).map Value.string := ⟨_, rfl⟩
      rw [← hus] at HTK HR
      clear hl hk hc0 hc1 hob e2 e3 hip hus
      go_upto_region 5 with (fail)
      obtain ⟨w2, hw2⟩ : ∃ w2, w2 = wr.alloc (.cells #[.int .i64 (l : Int), .int .i64 (k : Int)] 42) := ⟨_, rfl⟩
      have hbx : w2.heap[wr.heap.size]? = some (.cells #[.int .i64 (l : Int), .int .i64 (k : Int)] 42 (0, 0)) := by rw [hw2]; exact (MapKept.heap_alloc wr _).1
      have hb2 : Below wr.heap.size wr w2 := by rw [hw2]; exact (Below.refl _ _).alloc (Nat.le_refl _) _
      have HA2 := Lib.hid (HA.out.below hb2)
      have HR2 := Lib.hid (own_keep HR.out fun b cur hb => hb2.block b (block_lt hb))
      have d0 := cell_of_block (off := 0) hbx (by show 0 < 2; decide)
      have d1 := cell_of_block (off := 1) hbx (by show 1 < 2; decide)
      have hGw := HH.out.2.1.turn HA2.out.turn HH.out.1.glb
      have HND := Lib.hid (node_calls' l w2 D1 k HA2.out.eng hGw HA2.out.good (fun b hb => ⟨HH.out.2.2.2.1 b (Nat.le_trans HA2.out.turn.size hb), fun e => by
        obtain ⟨cur, hc⟩ := own_block HR2.out e
        have := block_lt hc
        omega⟩) (by
        have h1 := HA2.out.cnt
        have h2 := HH.out.2.2.2.2
        rw [HA2.out.like.most]
        omega) (by rw [HA2.out.like.L]; exact HPI.out))
      rw [HA2.out.like.W, HA2.out.like.L, ← HEB.out] at HND
      unfold plV at HND
      obtain ⟨nv, hnv⟩ : ∃ x, x = nodeF D.W D.L l k := ⟨_, rfl⟩
      rw [← hnv] at HND HTK
      rw [← hw2]
      clear hw2 hbx hb2 hGw hnv HA HR
      go_wp2_with fail
      refine (HND.out).mono ?_
      rintro r w3 ⟨rfl, D2, hL⟩
      have HA3 := Lib.hid (HA2.out.trans hL.asked)
      have HR3 := Lib.hid (own_keepB HR2.out (w' := w3) fun b hb hlt => hL.turn.block b hlt (fun ho => by have := own_ge HR2.out hb; have := HLOW.out b ho; omega))
      clear hL d0 d1
      go_wp2_with (at_builtin; go_must (refine wpList_append_lies _ rfl (.tmp 14) (.tmp 18) 32 rfl w.heap.size 9 i0 (.string ⟨#[]⟩) 1 16 Tryz.underlying32 hi hz0 hz1 hz2 rfl (by decide) _ _ _ rfl (HR3.out.alloc _) ⟨w3.heap.size, 0, none⟩ 1 1 [Value.string nv] rfl rfl (World.news_of_block (MapKept.heap_alloc _ _).1) (by intro u hu; simp at hu; subst hu; rfl) (by decide) (by unfold maxLen; omega) (by omega) (by have := HA3.out.turn.size; simp; omega) _ rfl ?_))
      intro g cap3 w4 hown4 hgrow hat hltg
      have HR4 := Lib.hid (show w4.ownsRow w.heap.size 9 1 (.slice (some ⟨g, 0, none⟩) (i + 1) cap3) (i + 1) (((ps.take (i + 1)).map fun p => nodeF D.W D.L p.1 p.2).map Value.string) by rw [HTK.out]; exact hown4)
      have HA4 := Lib.hid (show Asked w w4 a D D2 (fun b => X b ∧ (Value.slice (some ⟨g, 0, none⟩) (i + 1) cap3).ownBlock ≠ some b) 0 from by
        have ht : Turn (fun b => (Value.slice A1 i c1).ownBlock = some b) w3 w4 := ((Turn.refl _ _).alloc _).grown hgrow (fun b hb => .inl hb)
        have hZ := HA3.out.eng.mono (Y := fun b => (X b ∧ (Value.slice A1 i c1).ownBlock ≠ some b) ∧ b < w3.heap.size) (fun b hb hX => ⟨hX, hb⟩) (fun b hb => HH.out.1.apX b hb.1.1)
        have hE := hZ.keep ht.size fun b hb ho => ht.block b hb (fun e => by
          rcases ho with ho | ho
          · have := own_ge HR3.out e; have := HLOW.out b ho; omega
          · exact ho.1.2 e)
        exact ⟨hE.mono (fun b _ hb => ⟨hb.1.1, fun e => by
          rcases hat with h1 | h1
          · exact hb.1.2 (h1.trans e)
          · have e2 : g = b := by simpa [Value.ownBlock] using e
            have h2 := hb.2
            omega⟩) (fun b hb => HH.out.1.apX b hb.1), HA3.out.like, HA3.out.good, HA3.out.cnt, HA3.out.turn.trans' ht (fun b e => .inr (own_ge HR3.out e))⟩)
      clear hown4 hgrow hat hltg
      go_wp2
      exact ⟨⟨i + 1, D2, _, _, rfl, by go_num, by omega, HA4, HR4⟩, by simp [intOf]; omega⟩
    · obtain rfl : i = n := by omega
      have hfin := HR.out
      rw [List.take_of_length_le (by rw [HN.out]; exact Nat.le_refl _)] at hfin
      have HFIN := Lib.hid hfin
      clear hfin
      go_wp2
      go_ret
      exact ⟨_, D1, rfl, HA.out.mono (fun b _ hb => hb.1) HH.out.1.apX, HFIN.out⟩
/-- nodes counted beside -/
theorem EngIn.more {lv : Value} {rv : Nat → Option Value} {sf : Lit → Option Value} {ns : Nat} (h : EngIn w a D X lv rv sf ns) (k : Nat) (hno : D.nodes + k ≤ 1152921504606846976) :
    EngIn (w.setCell ⟨a.eb, 15, none⟩ (.int .i64 ((D.nodes + k : Nat) : Int))) a (D.addNodes k) X lv rv sf ns ∧ Turn a.own w (w.setCell ⟨a.eb, 15, none⟩ (.int .i64 ((D.nodes + k : Nat) : Int))) := by
  have ht : Turn (fun b => b = a.eb) w (w.setCell ⟨a.eb, 15, none⟩ (.int .i64 ((D.nodes + k : Nat) : Int))) := (Turn.refl (fun b => b = a.eb) w).setCell (p := ⟨a.eb, 15, none⟩) (.inl rfl) _
  have hT : Turn a.own w (w.setCell ⟨a.eb, 15, none⟩ (.int .i64 ((D.nodes + k : Nat) : Int))) := ht.mono fun b hb => .inl (.inl hb)
  refine ⟨⟨(block_setCell (off := 15) h.blk _).trans (by rw [engC_nodes]; rfl), h.rowsM.keep (ht.block _ h.rowsM.lt (fun e => h.ne1 e.symm)), h.dirtyM.keep (ht.block _ h.dirtyM.lt (fun e => h.ne2 e.symm)), h.unwrM.keep (ht.block _ h.unwrM.lt (fun e => h.ne3 e.symm)),
    h.spineM.keep (ht.block _ h.spineM.lt (fun e => h.ne4 e.symm)), h.list.keep ht.size fun b hb hX => hT.block b hb (h.apX b hX), fun j => (h.grid j).keep ht.size fun b hb hX => hT.block b hb (h.apX b hX), h.spv, Nat.le_trans h.nsle (by show D.nodes + 1 ≤ D.nodes + k + 1; omega), h.ap1, h.ap2, h.ap3, h.ap4, h.ap5, h.ap6, h.apX,
    ⟨h.ok.W1, h.ok.W2, h.ok.B, h.ok.space, h.ok.age, h.ok.small, h.ok.len, hno⟩, h.glb, h.nl⟩, hT⟩
set_option maxHeartbeats 4000000 in
set_option maxRecDepth 100000 in
theorem engFold_calls (h : EngAt w a D X) (hG : Glob w) (hg : Good D) (ps : List ByteArray) (hp : ∀ x ∈ ps, x.size ≤ 32) (hl : ps.length ≤ 1099511627776) (hno : D.nodes + (ps.length - 1) ≤ 1152921504606846976) {v : Value} {Z : Nat → Prop} (hv : SlIn w v (ps.map Value.string) Z) (hZ : ∀ b, Z b → ¬ a.own b) :
    Calls Tryz.prog 62 #[.pointer (some ⟨a.eb, 0, none⟩), v] w fun r w' => r = .returned (.string (foldF D.W ps)) ∧ Asked w w' a D (D.addNodes (ps.length - 1)) X (ps.length - 1) := by
  have HG := Lib.hid hG
  obtain ⟨lv, rv, sf, ns, hE⟩ := h
  have c15 := hE.c15
  have f15 := hE.froz 15
  obtain ⟨hE2, hT2⟩ := hE.more (ps.length - 1) hno
  have hv2 := hv.keep hT2.size fun b hb hb2 => hT2.block b hb (hZ b hb2)
  have hfd := fold_calls D.W ps hp hl hv2 (hG.turn hT2 hE.glb)
  have c4 := hE2.c4
  obtain ⟨A, cap, rfl, hcap, _⟩ := hv
  rw [List.length_map] at hcap hfd ⊢
  obtain ⟨n, hn⟩ : ∃ n, n = ps.length := ⟨_, rfl⟩
  rw [← hn] at hfd hcap hno hl hE2 hT2 c4 ⊢
  obtain ⟨k, hk⟩ : ∃ k, k = n - 1 := ⟨_, rfl⟩
  rw [← hk] at hno hE2 hT2 hfd c4 ⊢
  have hok := hE.ok.nodes
  have HG2 := Lib.hid (show Good (D.addNodes k) from ⟨hg.rows, hg.spine⟩)
  have HCN := Lib.hid (show (D.addNodes k).nodes + cnt D = D.nodes + cnt (D.addNodes k) + k from by show D.nodes + k + cnt D = D.nodes + cnt D + k; omega)
  have HT2 := Lib.hid hT2
  have HFD := Lib.hid hfd
  have HE2 := Lib.hid hE2
  obtain ⟨nv, hnv⟩ : ∃ x, x = foldF D.W ps := ⟨_, rfl⟩
  rw [← hnv] at HFD ⊢
  have hm : max (0 : Int) ((n : Int) - 1) = (k : Int) := by omega
  have hW2 : (D.addNodes k).W = D.W := rfl
  rw [hW2] at c4
  obtain ⟨W, hW⟩ : ∃ x, x = D.W := ⟨_, rfl⟩
  rw [← hW] at c4 HFD
  obtain ⟨eb, heb⟩ : ∃ x, x = a.eb := ⟨_, rfl⟩
  obtain ⟨N, hN⟩ : ∃ x, x = D.nodes := ⟨_, rfl⟩
  rw [← heb] at c15 f15 c4 HFD HE2 HT2 ⊢
  rw [← hN] at c15 c4 HFD hno hok HE2 HT2
  obtain ⟨M, hM⟩ : ∃ x, x = N + k := ⟨_, rfl⟩
  rw [← hM] at c4 HFD hno HE2 HT2
  have hsum : (N : Int) + (k : Int) = (M : Int) := by omega
  have HM := Lib.hid (And.intro hn hk)
  have hw64 : IntKind.i64.wrap (M : Int) = (M : Int) := by simp [IntKind.wrap, IntKind.signed, IntKind.bits]; omega
  have hw64b : wrap64 (M : Int) = (M : Int) := by unfold wrap64; omega
  have HNO := Lib.hid (And.intro hno (And.intro hok hl))
  clear hE hE2 hT2 hv2 hfd hg hZ hp hG hnv hW heb hN hn hk hno hok hl hM
  go_enter Tryz.func62, Tryz.ntmps62
  by_cases h0 : n = 0
  · have hk0 : k = 0 := by have := HM.out.2; omega
    subst h0
    subst hk0
    have hMN : M = N := by omega
    subst hMN
    clear hm hsum
    have hmx : max (0 : Int) (-1) = 0 := by decide
    go_wp2_with fail
    refine (HFD.out).mono ?_
    rintro r w2 ⟨rfl, hb⟩
    have HF := Lib.hid (show Asked w w2 a D (D.addNodes 0) X 0 from ⟨(EngAt.below ⟨_, _, _, _, HE2.out⟩ hb), ⟨rfl, rfl, rfl, rfl, rfl, rfl⟩, HG2.out, HCN.out, HT2.out.trans (Turn.of_below hb)⟩)
    clear hb
    go_wp2
    go_ret
    exact ⟨rfl, HF.out⟩
  · have hn1 : (n : Int) - 1 = (k : Int) := by have := HM.out.2; omega
    clear hm
    have hk64 : wrap64 (k : Int) = (k : Int) := by have := HNO.out.2.2; have := HM.out.2; unfold wrap64; omega
    have hmx : max (0 : Int) (k : Int) = (k : Int) := by omega
    go_wp2_with fail
    refine (HFD.out).mono ?_
    rintro r w2 ⟨rfl, hb⟩
    have HF := Lib.hid (show Asked w w2 a D (D.addNodes k) X k from ⟨(EngAt.below ⟨_, _, _, _, HE2.out⟩ hb), ⟨rfl, rfl, rfl, rfl, rfl, rfl⟩, HG2.out, HCN.out, HT2.out.trans (Turn.of_below hb)⟩)
    clear hb
    go_wp2
    go_ret
    exact ⟨rfl, HF.out⟩
end
end Go.Proofs.YtblkehdpenfhjaaGreatDoor
/-
  Package shard: Root.
-/
set_option linter.unusedVariables false
set_option linter.unusedSimpArgs false
namespace Go.Proofs.YtblkehdpenfhjaaGreatDoor
open Go.RowKit Go.Maps Go.ChangeMaps Go.MapKept

section
variable {w w' : World} {a : EA} {D : ED} {X Y : Nat → Prop} {room : Nat} {now disk : Recs} {log : List Value} {F : Nat → Prop}
theorem EngAt.drewN (h : EngAt w a D X) (n : Nat) : EngAt (w.drewN n) a D X := h.keep (Nat.le_refl _) fun _ _ _ => rfl
theorem EngAt.list_len (h : EngAt w a D X) : ∃ A c, w.cell? ⟨a.eb, 10, none⟩ = some (.slice A D.L.length c) := by
  obtain ⟨lv, rv, sf, ns, h⟩ := h
  obtain ⟨A, c, e, _⟩ := h.list
  rw [List.length_map] at e
  exact ⟨A, c, by rw [← e]; exact h.c10⟩
set_option maxHeartbeats 4000000 in
set_option maxRecDepth 100000 in
theorem engRoot_yes (h : EngAt w a D X) (hS : StoreAt w a.sb room now disk log D.age F) (hG : Glob w) (hg : Good D) (hXn : ∀ b, w.heap.size ≤ b → X b) (hno : D.nodes + D.most + 62 ≤ 1152921504606846976 + cnt D) (n : Nat) (hn : n ≤ D.L.length) :
    Calls Tryz.prog 18 #[.pointer (some ⟨a.eb, 0, none⟩), .int .i64 n] w fun r w' => r = .returned (.tuple #[.string (rootF D.W D.L n), .int .i64 0]) ∧ ∃ D' k, k ≤ 62 ∧ Asked w w' a D D' X k := by
  have hlen := h.ok.len
  have HO := Lib.hid (show Calls Tryz.prog 58 #[.pointer (some ⟨a.eb, 0, none⟩)] w fun r w' => r = .returned (.bool false) ∧ ∃ n, w' = w.drewN n from by obtain ⟨lv, rv, sf, ns, hE⟩ := h; exact over_calls hE hS)
  obtain ⟨A, c, c10⟩ := h.list_len
  have HH := Lib.hid (And.intro h (And.intro hG (And.intro hg (And.intro hXn hno))))
  have HN := Lib.hid hn
  have HOK := Lib.hid (cover_ok n (by omega))
  obtain ⟨len, hle⟩ : ∃ x, x = D.L.length := ⟨_, rfl⟩
  rw [← hle] at c10 hn hlen
  have hnl : ¬ ((len : Int) < (n : Int)) := by omega
  have hnl2 : ¬ (len < n) := by omega
  have hcn : n ≤ 4611686018427387904 := by omega
  have HCV := Lib.hid fun w => cover_calls n hcn w
  obtain ⟨rt, hrt⟩ : ∃ x, x = rootF D.W D.L n := ⟨_, rfl⟩
  have HRT := Lib.hid hrt
  obtain ⟨eb, heb⟩ : ∃ x, x = a.eb := ⟨_, rfl⟩
  have HEB := Lib.hid heb
  rw [← heb] at HO c10 ⊢
  rw [← hrt]
  clear h hS hG hg hXn hno hlen hcn hrt heb hle
  go_enter Tryz.func18, Tryz.ntmps18
  go_wp2_with fail
  refine (HO.out).mono ?_
  rintro r w1 ⟨rfl, m, rfl⟩
  go_wp2_with fail
  refine (HCV.out (w.drewN m)).mono ?_
  rintro r w1 ⟨v, rfl, hrow, hb⟩
  have hE1 := (HH.out.1.drewN m).below hb
  have hT1 : Turn a.own w w1 := ((Turn.refl _ w).drewN m).trans (Turn.of_below hb)
  have hB1 : w.heap.size ≤ w1.heap.size := hT1.size
  have HS := Lib.hid (hashes_calls hE1 (HH.out.2.1.turn hT1 HH.out.1.glb) HH.out.2.2.1 (fun b hb' => HH.out.2.2.2.1 b (Nat.le_trans hB1 hb')) (by have := HH.out.2.2.2.2; omega) (cover n) (fun p hp => Nat.le_trans (HOK.out p hp).2 HN.out) (by have := cover_len n; omega) hrow (fun b hb' ho => by have := own_ge hrow hb'; have := HH.out.1.low ho; have e : (w.drewN m).heap.size = w.heap.size := rfl; omega))
  rw [← HEB.out] at HS
  have HT1 := Lib.hid hT1
  clear hrow hb hE1 hT1 hB1 c10
  go_wp2_with fail
  refine (HS.out).mono ?_
  rintro r w2 ⟨u, D2, rfl, hA, hru⟩
  have hlk := hA.like
  have hps : ∀ x ∈ (cover n).map (fun p => nodeF D.W D.L p.1 p.2), x.size ≤ 32 := fun x hx => by
    obtain ⟨p, _, rfl⟩ := List.mem_map.1 hx
    exact nodeF_size _ _ _ _
  have hcl := cover_len n
  have hF := engFold_calls hA.eng (HH.out.2.1.turn (HT1.out.trans hA.turn) HH.out.1.glb) hA.good ((cover n).map (fun p => nodeF D.W D.L p.1 p.2)) hps (by rw [List.length_map]; omega) (by
    rw [List.length_map]
    have h1 := hA.cnt
    have h2 := HH.out.2.2.2.2
    have h3 := cnt_le D2
    have h4 := hlk.most
    omega) (SlIn.of_own hru) (fun b hb' ho => by have := HH.out.1.low ho; have := HT1.out.size; omega)
  rw [hlk.W, List.length_map] at hF
  rw [show foldF D.W ((cover n).map fun p => nodeF D.W D.L p.1 p.2) = rt from HRT.out.symm, ← HEB.out] at hF
  have HF := Lib.hid hF
  have HA := Lib.hid hA
  have HCL := Lib.hid hcl
  clear hA hru hlk hps hcl hF
  go_wp2_with fail
  refine (HF.out).mono ?_
  rintro r w3 ⟨rfl, hA3⟩
  have HFIN := Lib.hid (show ∃ D' k, k ≤ 62 ∧ Asked w w3 a D D' X k from ⟨_, 0 + ((cover n).length - 1), by have := HCL.out; omega, by
    have h1 := HA.out.trans hA3
    exact ⟨h1.eng, h1.like, h1.good, h1.cnt, HT1.out.trans h1.turn⟩⟩)
  clear hA3
  go_wp2
  go_ret2
  exact ⟨rfl, HFIN.out⟩
set_option maxHeartbeats 4000000 in
set_option maxRecDepth 100000 in
theorem engRoot_no (h : EngAt w a D X) (hS : StoreAt w a.sb room now disk log D.age F) (n : Int) (hn : n < 0 ∨ (D.L.length : Int) < n) :
    Calls Tryz.prog 18 #[.pointer (some ⟨a.eb, 0, none⟩), .int .i64 n] w fun r w' => r = .returned (.tuple #[.string ⟨#[]⟩, .int .i64 80]) ∧ ∃ n, w' = w.drewN n := by
  have HO := Lib.hid (show Calls Tryz.prog 58 #[.pointer (some ⟨a.eb, 0, none⟩)] w fun r w' => r = .returned (.bool false) ∧ ∃ n, w' = w.drewN n from by obtain ⟨lv, rv, sf, ns, hE⟩ := h; exact over_calls hE hS)
  obtain ⟨A, c, c10⟩ := h.list_len
  obtain ⟨len, hle⟩ : ∃ x, x = D.L.length := ⟨_, rfl⟩
  rw [← hle] at c10 hn
  obtain ⟨eb, heb⟩ : ∃ x, x = a.eb := ⟨_, rfl⟩
  rw [← heb] at HO c10 ⊢
  clear h hS heb hle
  by_cases h0 : n < 0
  · clear hn
    go_enter Tryz.func18, Tryz.ntmps18
    go_wp2_with fail
    refine (HO.out).mono ?_
    rintro r w1 ⟨rfl, m, rfl⟩
    go_wp2
    go_ret2
    exact ⟨rfl, _, rfl⟩
  · have h1 : (len : Int) < n := hn.resolve_left h0
    clear hn
    go_enter Tryz.func18, Tryz.ntmps18
    go_wp2_with fail
    refine (HO.out).mono ?_
    rintro r w1 ⟨rfl, m, rfl⟩
    go_wp2
    go_ret2
    exact ⟨rfl, _, rfl⟩
end
end Go.Proofs.YtblkehdpenfhjaaGreatDoor
/-
  Package shard: Node.
-/
set_option linter.unusedVariables false
set_option linter.unusedSimpArgs false
namespace Go.Proofs.YtblkehdpenfhjaaGreatDoor
open Go.RowKit Go.Maps Go.ChangeMaps Go.MapKept

section
variable {w w' : World} {a : EA} {D : ED} {X Y : Nat → Prop} {room : Nat} {now disk : Recs} {log : List Value} {F : Nat → Prop}
def addrV (x y : Int) : Value := .agg #[.int .i64 x, .int .i64 y]
def AOk (x y : Int) : Prop := 0 ≤ x ∧ x ≤ 62 ∧ 0 ≤ y ∧ (y.toNat + 1) * 2 ^ x.toNat ≤ 4611686018427387904
set_option maxHeartbeats 2000000 in
set_option maxRecDepth 100000 in
theorem valid_no (x y : Int) (hno : ¬ AOk x y) (w : World) :
    Calls Tryz.prog 129 #[addrV x y] w fun r w' => r = .returned (.bool false) ∧ Below w.heap.size w w' := by
  have HBX := Lib.hid (fun n => below_drewN ((Below.refl w.heap.size w).alloc (Nat.le_refl _) (.cells #[.int .i64 x, .int .i64 y] 42)) n)
  by_cases h1 : x < 0
  · clear hno
    have k1 : ¬ (0 ≤ x) := by omega
    have k1d : decide (0 ≤ x) = false := decide_eq_false k1
    unfold addrV
    go_enter Tryz.func129, Tryz.ntmps129
    go_wp2
    go_quiet (fail)
    have HB := Lib.hid (HBX.out nq)
    go_wp2
    go_ret
    exact ⟨rfl, HB.out⟩
  by_cases h2 : 62 < x
  · clear hno
    have k0 : 0 ≤ x := by omega
    have k1 : ¬ (x ≤ 62) := by omega
    have k0d : decide (0 ≤ x) = true := decide_eq_true k0
    have k1d : decide (x ≤ 62) = false := decide_eq_false k1
    unfold addrV
    go_enter Tryz.func129, Tryz.ntmps129
    go_wp2
    go_quiet (fail)
    have HB := Lib.hid (HBX.out nq)
    go_wp2
    go_ret
    exact ⟨rfl, HB.out⟩
  by_cases h3 : y < 0
  · clear hno
    have k0 : 0 ≤ x := by omega
    have k1 : x ≤ 62 := by omega
    have k2 : ¬ (0 ≤ y) := by omega
    have k0d : decide (0 ≤ x) = true := decide_eq_true k0
    have k1d : decide (x ≤ 62) = true := decide_eq_true k1
    have k2d : decide (0 ≤ y) = false := decide_eq_false k2
    unfold addrV
    go_enter Tryz.func129, Tryz.ntmps129
    go_wp2
    go_quiet (fail)
    have HB := Lib.hid (HBX.out nq)
    go_wp2
    go_ret
    exact ⟨rfl, HB.out⟩
  · obtain ⟨l, rfl⟩ : ∃ l : Nat, x = (l : Int) := ⟨x.toNat, by omega⟩
    obtain ⟨i, rfl⟩ : ∃ i : Nat, y = (i : Int) := ⟨y.toNat, by omega⟩
    have hgt : ¬ ((i + 1) * 2 ^ l ≤ 4611686018427387904) := fun h => hno ⟨by omega, by omega, by omega, by simpa using h⟩
    have hlt : ¬ ((i : Int) < 4611686018427387904 / 2 ^ l) := fun h => by
      apply hgt
      have e : (4611686018427387904 : Int) / 2 ^ l = ((4611686018427387904 / 2 ^ l : Nat) : Int) := by simp
      rw [e] at h
      exact (Nat.le_div_iff_mul_le (Nat.two_pow_pos l)).1 (by omega)
    have k5 : decide ((i : Int) < 4611686018427387904 / 2 ^ l) = false := decide_eq_false hlt
    have k1 : (l : Int) ≤ 64 := by omega
    have k2 : (l : Int) ≤ 62 := by omega
    have k3 : decide ((l : Int) ≤ 62) = true := decide_eq_true k2
    have k6 : decide (l ≤ 62) = true := decide_eq_true (by omega)
    clear hno hgt h1 h2 h3
    unfold addrV
    go_enter Tryz.func129, Tryz.ntmps129
    go_wp2
    go_quiet (fail)
    have HB := Lib.hid (HBX.out nq)
    go_wp2
    go_ret
    exact ⟨rfl, HB.out⟩
set_option maxHeartbeats 2000000 in
set_option maxRecDepth 100000 in
theorem span_no (x y : Int) (hno : ¬ AOk x y) (w : World) :
    Calls Tryz.prog 59 #[addrV x y] w fun r w' => r = .returned (.tuple #[.int .i64 0, .int .i64 0, .int .i64 50]) ∧ Below w.heap.size w w' := by
  have HV := Lib.hid fun w => valid_no x y hno w
  clear hno
  unfold addrV at HV ⊢
  go_enter Tryz.func59, Tryz.ntmps59
  go_upto_region 1 with (fail)
  obtain ⟨w0, hw0⟩ : ∃ w0, w0 = w.alloc (.cells #[.int .i64 x, .int .i64 y] 42) := ⟨_, rfl⟩
  have c0 : w0.cell? ⟨w.heap.size, 0, none⟩ = some (.int .i64 x) := by rw [hw0]; exact cell_of_block (MapKept.heap_alloc w _).1 (by show 0 < 2; decide)
  have c1 : w0.cell? ⟨w.heap.size, 1, none⟩ = some (.int .i64 y) := by rw [hw0]; exact cell_of_block (MapKept.heap_alloc w _).1 (by show 1 < 2; decide)
  have HB0 := Lib.hid (show Below w.heap.size w w0 by rw [hw0]; exact (Below.refl _ _).alloc (Nat.le_refl _) _)
  rw [← hw0]
  clear hw0
  go_wp2_with fail
  refine (HV.out w0).mono ?_
  rintro r w1 ⟨rfl, hb1⟩
  have HB1 := Lib.hid (HB0.out.trans (hb1.mono HB0.out.size))
  clear hb1 c0 c1
  go_wp2
  go_ret3
  exact ⟨rfl, HB1.out⟩
open Classical in
/-- what Node answers -/
noncomputable def nodeA (W : Nat) (L : List ByteArray) (x y : Int) : ByteArray × Int :=
  if AOk x y then (if (y.toNat + 1) * 2 ^ x.toNat ≤ L.length then (nodeF W L x.toNat y.toNat, 0) else (⟨#[]⟩, 80)) else (⟨#[]⟩, 50)
def Ready (D : ED) (x y : Int) : Prop := AOk x y → (y.toNat + 1) * 2 ^ x.toNat ≤ D.L.length → Has D x.toNat y.toNat
set_option maxHeartbeats 4000000 in
set_option maxRecDepth 100000 in
theorem engNode_calls (h : EngAt w a D X) (hS : StoreAt w a.sb room now disk log D.age F) (hG : Glob w) (hg : Good D) (hXn : ∀ b, w.heap.size ≤ b → X b) (hno : D.nodes + D.most ≤ 1152921504606846976 + cnt D) (x y : Int) :
    Calls Tryz.prog 16 #[.pointer (some ⟨a.eb, 0, none⟩), addrV x y] w fun r w' => r = .returned (.tuple #[.string (nodeA D.W D.L x y).1, .int .i64 (nodeA D.W D.L x y).2]) ∧ ∃ D', Asked w w' a D D' X 0 ∧ Ready D' x y ∧ (Ready D x y → D'.nodes = D.nodes) := by
  have hlow := h.low (b := a.eb) (.inl rfl)
  obtain ⟨w0, hw0⟩ : ∃ w0, w0 = w.alloc (.cells #[.int .i64 x, .int .i64 y] 42) := ⟨_, rfl⟩
  have hbx : w0.heap[w.heap.size]? = some (.cells #[.int .i64 x, .int .i64 y] 42 (0, 0)) := by rw [hw0]; exact (MapKept.heap_alloc w _).1
  have hb0 : Below w.heap.size w w0 := by rw [hw0]; exact (Below.refl _ _).alloc (Nat.le_refl _) _
  have HO := Lib.hid (show Calls Tryz.prog 58 #[.pointer (some ⟨a.eb, 0, none⟩)] w0 fun r w' => r = .returned (.bool false) ∧ ∃ n, w' = w0.drewN n from by obtain ⟨lv, rv, sf, ns, hE⟩ := h.below hb0; exact over_calls hE (hS.below hb0))
  obtain ⟨A, c, c10⟩ := (h.below hb0).list_len
  have hlen := h.ok.len
  have HH := Lib.hid (And.intro h (And.intro hG (And.intro hg (And.intro hXn hno))))
  have HB0 := Lib.hid hb0
  have HBX := Lib.hid hbx
  have d0 := cell_of_block (off := 0) hbx (by show 0 < 2; decide)
  have d1 := cell_of_block (off := 1) hbx (by show 1 < 2; decide)
  obtain ⟨len, hle⟩ : ∃ x, x = D.L.length := ⟨_, rfl⟩
  have HLE := Lib.hid hle
  rw [← hle] at c10 hlen
  obtain ⟨eb, heb⟩ : ∃ x, x = a.eb := ⟨_, rfl⟩
  have HEB := Lib.hid heb
  rw [← heb] at HO c10 ⊢
  clear h hS hG hg hXn hno hb0 hbx heb hle hlow
  by_cases hok : AOk x y
  · obtain ⟨l, rfl⟩ : ∃ l : Nat, x = (l : Int) := ⟨x.toNat, by have := hok.1; omega⟩
    obtain ⟨i, rfl⟩ : ∃ i : Nat, y = (i : Int) := ⟨y.toNat, by have := hok.2.2.1; omega⟩
    have hpl : PlOk l i := ⟨by have := hok.2.1; omega, by simpa using hok.2.2.2⟩
    have HSP := Lib.hid fun w => span_calls l i hpl w
    unfold plV at HSP
    obtain ⟨hiN, hhi⟩ : ∃ x, x = (i + 1) * 2 ^ l := ⟨_, rfl⟩
    obtain ⟨loN, hlo⟩ : ∃ x, x = i * 2 ^ l := ⟨_, rfl⟩
    rw [← hhi, ← hlo] at HSP
    have HHI := Lib.hid hhi
    have HOK := Lib.hid hok
    by_cases hin : hiN ≤ len
    · have HNA := Lib.hid (show nodeA D.W D.L l i = (nodeF D.W D.L l i, 0) by unfold nodeA; rw [if_pos hok, if_pos (by simp only [Int.toNat_natCast]; rw [← HHI.out, ← HLE.out]; exact hin)]; rfl)
      obtain ⟨nv, hnv⟩ : ∃ x, x = nodeF D.W D.L l i := ⟨_, rfl⟩
      rw [← hnv] at HNA
      rw [HNA.out]
      have HNV := Lib.hid hnv
      have hle1 : ¬ ((len : Int) < (hiN : Int)) := by omega
      have hle2 : ¬ (len < hiN) := by omega
      clear hok hpl hhi hlo hnv
      unfold addrV
      go_enter Tryz.func16, Tryz.ntmps16
      go_upto_region 1 with (fail)
      rw [← hw0]
      clear hw0
      go_wp2_with fail
      refine (HO.out).mono ?_
      rintro r w1 ⟨rfl, m, rfl⟩
      go_wp2_with fail
      refine (HSP.out (w0.drewN m)).mono ?_
      rintro r w1 ⟨rfl, hb1⟩
      have hb1' : Below w.heap.size w w1 := (below_drewN HB0.out m).trans (hb1.mono HB0.out.size)
      have hbx1 : w1.heap[w.heap.size]? = some (.cells #[.int .i64 (l : Int), .int .i64 (i : Int)] 42 (0, 0)) := (hb1.block _ (block_lt HBX.out)).trans HBX.out
      have c10' : w1.cell? ⟨eb, 10, none⟩ = some (.slice A len c) := by
        have hlt : eb < w0.heap.size := by rw [HEB.out]; exact Nat.lt_of_lt_of_le (HH.out.1.low (.inl rfl)) HB0.out.size
        exact (hb1.cell (p := ⟨eb, 10, none⟩) hlt).trans c10
      have HND := Lib.hid (node_calls' l w1 D i (HH.out.1.below hb1') (HH.out.2.1.keep hb1') HH.out.2.2.1 (fun b hb => HH.out.2.2.2.1 b (Nat.le_trans hb1'.size hb)) HH.out.2.2.2.2 (by rw [← HHI.out, ← HLE.out]; exact hin))
      rw [← HNV.out, ← HEB.out] at HND
      unfold plV at HND
      have HB1 := Lib.hid hb1'
      clear d0 d1 c10
      have d0 := cell_of_block (off := 0) hbx1 (by show 0 < 2; decide)
      have d1 := cell_of_block (off := 1) hbx1 (by show 1 < 2; decide)
      clear hb1 hb1' hbx1
      go_wp2_with fail
      refine (HND.out).mono ?_
      rintro r w2 ⟨rfl, D2, hL⟩
      have HFIN := Lib.hid (show ∃ D', Asked w w2 a D D' X 0 ∧ Ready D' (l : Int) (i : Int) ∧ (Ready D (l : Int) (i : Int) → D'.nodes = D.nodes) from
        ⟨D2, ⟨hL.eng, hL.like, hL.good, hL.cnt, (Turn.of_below HB1.out).trans hL.turn⟩, fun _ _ => by simpa using hL.has, fun hr => hL.same (by
          have := hr HOK.out (by simp only [Int.toNat_natCast]; rw [← HHI.out, ← HLE.out]; exact hin)
          simpa using this)⟩)
      clear hL d0 d1
      go_wp2
      go_ret2
      exact ⟨rfl, HFIN.out⟩
    · have HNA := Lib.hid (show nodeA D.W D.L l i = (⟨#[]⟩, 80) by unfold nodeA; rw [if_pos hok, if_neg (by simp only [Int.toNat_natCast]; rw [← HHI.out, ← HLE.out]; exact hin)])
      rw [HNA.out]
      have hle1 : (len : Int) < (hiN : Int) := by omega
      clear hok hpl hhi hlo
      unfold addrV
      go_enter Tryz.func16, Tryz.ntmps16
      go_upto_region 1 with (fail)
      rw [← hw0]
      clear hw0
      go_wp2_with fail
      refine (HO.out).mono ?_
      rintro r w1 ⟨rfl, m, rfl⟩
      go_wp2_with fail
      refine (HSP.out (w0.drewN m)).mono ?_
      rintro r w1 ⟨rfl, hb1⟩
      have c10' : w1.cell? ⟨eb, 10, none⟩ = some (.slice A len c) := by
        have hlt : eb < w0.heap.size := by rw [HEB.out]; exact Nat.lt_of_lt_of_le (HH.out.1.low (.inl rfl)) HB0.out.size
        exact (hb1.cell (p := ⟨eb, 10, none⟩) hlt).trans c10
      have HB1 := Lib.hid ((below_drewN HB0.out m).trans (hb1.mono HB0.out.size))
      clear hb1 d0 d1 c10
      go_wp2
      go_ret2
      exact ⟨rfl, D, (Asked.refl HH.out.1 HH.out.2.2.1).below HB1.out, fun _ h2 => absurd h2 (by simp only [Int.toNat_natCast]; rw [← HHI.out, ← HLE.out]; exact hin), fun _ => rfl⟩
  · have HNA := Lib.hid (show nodeA D.W D.L x y = (⟨#[]⟩, 50) by unfold nodeA; rw [if_neg hok])
    rw [HNA.out]
    have HSP := Lib.hid fun w => span_no x y hok w
    have HOK := Lib.hid hok
    unfold addrV at HSP ⊢
    clear hok
    go_enter Tryz.func16, Tryz.ntmps16
    go_upto_region 1 with (fail)
    rw [← hw0]
    clear hw0
    go_wp2_with fail
    refine (HO.out).mono ?_
    rintro r w1 ⟨rfl, m, rfl⟩
    go_wp2_with fail
    refine (HSP.out (w0.drewN m)).mono ?_
    rintro r w1 ⟨rfl, hb1⟩
    have HB1 := Lib.hid ((below_drewN HB0.out m).trans (hb1.mono HB0.out.size))
    clear hb1 d0 d1 c10
    go_wp2
    go_ret2
    exact ⟨rfl, D, (Asked.refl HH.out.1 HH.out.2.2.1).below HB1.out, fun h1 _ => absurd h1 HOK.out, fun _ => rfl⟩
end
end Go.Proofs.YtblkehdpenfhjaaGreatDoor
/-
  Package shard: mark, each, taken; slices.Clone, slices.ContainsFunc.
-/
set_option linter.unusedVariables false
set_option linter.unusedSimpArgs false
namespace Go.Proofs.YtblkehdpenfhjaaGreatDoor
open Go.RowKit Go.Maps Go.ChangeMaps Go.MapKept

section
variable {w w' : World} {a : EA} {D : ED} {X Y : Nat → Prop} {room : Nat} {now disk : Recs} {log : List Value} {F : Nat → Prop}
def ED.marked (D : ED) (j : Nat) : ED := { D with dirty := fun q => if q = j then true else D.dirty q, unwr := fun q => if q = j then true else D.unwr q }
theorem boolF_set (f : Nat → Bool) (j : Nat) : upd (boolF f) j (some (.bool true)) = boolF (fun q => if q = j then true else f q) := by
  funext q
  unfold upd boolF
  by_cases h : q = j
  · simp [h]
  · simp [h]
set_option maxHeartbeats 4000000 in
set_option maxRecDepth 100000 in
theorem mark_calls (h : EngAt w a D X) (j : Nat) (hj : j ≤ 68719476736) :
    Calls Tryz.prog 74 #[.pointer (some ⟨a.eb, 0, none⟩), .int .i64 j] w fun r w' => r = .returned (.tuple #[]) ∧ EngAt w' a (D.marked j) X ∧ Turn a.own w w' := by
  obtain ⟨lv, rv, sf, ns, hE⟩ := h
  have hjb : j < big := by unfold big; omega
  obtain ⟨w1, hrun1, hM1, hT1⟩ := hE.dirtyM.store Tryz.underlying3 Tryz.underlying85 hjb (.bool true)
  have ht1 := mapTurned_turn hT1
  have hM1' := hE.unwrM.keep (ht1.block _ hE.unwrM.lt hE.ap4.symm)
  obtain ⟨w2, hrun2, hM2, hT2⟩ := hM1'.store Tryz.underlying3 Tryz.underlying85 hjb (.bool true)
  have ht2 := mapTurned_turn hT2
  have hT : Turn a.own w w2 := (ht1.mono fun i hi => .inl (.inr (.inr (.inl hi)))).trans (ht2.mono fun i hi => .inl (.inr (.inr (.inr (.inl hi)))))
  have c12 := hE.c12
  have c13 : w1.cell? ⟨a.eb, 13, none⟩ = some (.map (some a.ub)) := (ht1.cell (p := ⟨a.eb, 13, none⟩) (hE.low (.inl rfl)) hE.ne2).trans hE.c13
  rw [boolF_set] at hM1 hM2
  have hb : ∀ b, b < w.heap.size → b ≠ a.db → b ≠ a.ub → w2.heap[b]? = w.heap[b]? := fun b hb h1 h2 => (ht2.block b (Nat.lt_of_lt_of_le hb ht1.size) h2).trans (ht1.block b hb h1)
  have HFIN := Lib.hid (show EngAt w2 a (D.marked j) X ∧ Turn a.own w w2 from
    ⟨⟨lv, rv, sf, ns, (hb _ (hE.low (.inl rfl)) hE.ne2 hE.ne3).trans hE.blk, hE.rowsM.keep (hb _ hE.rowsM.lt hE.ap1 hE.ap2), hM1.keep (ht2.block _ hM1.lt hE.ap4), hM2, hE.spineM.keep (hb _ hE.spineM.lt hE.ap5.symm hE.ap6.symm),
      hE.list.keep hT.size fun b hb hX => hT.block b hb (hE.apX b hX), fun j => (hE.grid j).keep hT.size fun b hb hX => hT.block b hb (hE.apX b hX), hE.spv, hE.nsle, hE.ap1, hE.ap2, hE.ap3, hE.ap4, hE.ap5, hE.ap6, hE.apX,
      ⟨hE.ok.W1, hE.ok.W2, hE.ok.B, hE.ok.space, hE.ok.age, hE.ok.small, hE.ok.len, hE.ok.nodes⟩, hE.glb, hE.nl⟩, hT⟩)
  obtain ⟨eb, sb, rb, db, ub, pb⟩ := a
  dsimp only at c12 c13 hrun1 hrun2 ⊢
  clear hE hM1 hT1 ht1 hM1' hM2 hT2 ht2 hT hb hjb
  go_enter Tryz.func74, Tryz.ntmps74
  go_wp2
  go_end0
  exact ⟨rfl, HFIN.out⟩
def ED.marks (D : ED) : List Nat → ED
  | [] => D
  | j :: r => (D.marked j).marks r
theorem marks_snoc (D : ED) : ∀ (js : List Nat) (j : Nat), D.marks (js ++ [j]) = (D.marks js).marked j
  | [], j => rfl
  | k :: r, j => marks_snoc (D.marked k) r j
set_option maxHeartbeats 4000000 in
set_option maxRecDepth 100000 in
theorem eachMark_calls (h : EngAt w a D X) (js : List Nat) (hj : ∀ j ∈ js, j ≤ 68719476736) (hl : js.length ≤ 1099511627776) {v : Value} {Z : Nat → Prop} (hv : SlIn w v (js.map fun (j : Nat) => Value.int .i64 (j : Int)) Z) (hZ : ∀ b, Z b → ¬ a.own b) :
    Calls Tryz.prog 73 #[.pointer (some ⟨a.eb, 0, none⟩), v, .func (.func 74) #[] #[]] w fun r w' => r = .returned (.tuple #[]) ∧ EngAt w' a (D.marks js) X ∧ Turn a.own w w' := by
  obtain ⟨A, cap, rfl, hcap, hcells⟩ := hv
  obtain ⟨n, hn⟩ : ∃ n, n = js.length := ⟨_, rfl⟩
  have hml : (js.map fun (j : Nat) => Value.int .i64 (j : Int)).length = n := by rw [List.length_map, hn]
  have HC := Lib.hid (show 0 < n → ∃ b o, A = some ⟨b, o, none⟩ ∧ b < w.heap.size ∧ ¬ a.own b ∧ ∀ i (h : i < js.length), w.cell? ⟨b, o + i, none⟩ = some (.int .i64 (js[i] : Int)) from fun h => by
    obtain ⟨b, o, h1, h2, h3, h4⟩ := hcells (by omega)
    exact ⟨b, o, h1, h2, hZ b h3, fun i hi => by rw [h4 i (by omega), List.getElem_map]⟩)
  rw [hml] at hcap ⊢
  have HN := Lib.hid hn
  have HJ := Lib.hid hj
  rw [← hn] at hl
  have HH := Lib.hid h
  obtain ⟨eb, heb⟩ : ∃ x, x = a.eb := ⟨_, rfl⟩
  have HEB := Lib.hid heb
  rw [← heb]
  clear hcells hml hn hj h heb hZ
  go_enter Tryz.func73, Tryz.ntmps73
  go_wp2
  go_loopw [10] (fun iv wr => ∃ i : Nat, iv = .int .i64 (i : Int) ∧ i ≤ n ∧ Hid (EngAt wr a (D.marks (js.take i)) X) ∧ Hid (Turn a.own w wr)) (fun iv _ => n - (intOf iv).toNat)
  case atStart => exact ⟨0, rfl, Nat.zero_le _, HH, Lib.hid (Turn.refl _ _)⟩
  case round =>
    obtain ⟨i, rfl, hin, HE, HT⟩ := hrel
    by_cases hlt : i < n
    · obtain ⟨b, o, rfl, hbl, hbo, hc⟩ := HC.out (by omega)
      have hij : i < js.length := by rw [← HN.out]; exact hlt
      have c1 := (HT.out.cell (p := ⟨b, o + i, none⟩) hbl hbo).trans (hc i hij)
      have HTK := Lib.hid (show D.marks (js.take (i + 1)) = (D.marks (js.take i)).marked js[i] by rw [List.take_succ_eq_append_getElem hij, marks_snoc])
      have HMK := Lib.hid (mark_calls HE.out js[i] (HJ.out _ (List.getElem_mem _)))
      obtain ⟨j, hj⟩ : ∃ j, j = js[i] := ⟨_, rfl⟩
      rw [← hj] at c1 HTK HMK
      rw [← HEB.out] at HMK
      clear hj hc hij
      go_wp2_with fail
      refine (HMK.out).mono ?_
      rintro r w2 ⟨rfl, hE2, hT2⟩
      have HE2 := Lib.hid (show EngAt w2 a (D.marks (js.take (i + 1))) X by rw [HTK.out]; exact hE2)
      have HT2 := Lib.hid (HT.out.trans hT2)
      clear hE2 hT2 c1
      go_wp2
      exact ⟨⟨i + 1, by go_num, by omega, HE2, HT2⟩, by simp [intOf]; omega⟩
    · obtain rfl : i = n := by omega
      have hfin := HE.out
      rw [List.take_of_length_le (by rw [HN.out]; exact Nat.le_refl _)] at hfin
      have HFIN := Lib.hid hfin
      clear hfin
      go_wp2
      go_end0
      exact ⟨rfl, HFIN.out, HT.out⟩
/- the test of a batch -/
set_option maxHeartbeats 4000000 in
set_option maxRecDepth 100000 in
theorem indexBig_calls (xs : List ByteArray) (hx : ∀ x ∈ xs, x.size ≤ 4096) (hl : xs.length ≤ 1099511627776) {v : Value} (hv : SlIn w v (xs.map Value.string) X) :
    Calls Tryz.prog 211 #[v, .func (.func 136) #[] #[]] w fun r w' => r = .returned (.int .i64 (-1)) ∧ w = w' := by
  obtain ⟨A, cap, rfl, hcap, hcells⟩ := hv
  obtain ⟨n, hn⟩ : ∃ n, n = xs.length := ⟨_, rfl⟩
  have hml : (xs.map Value.string).length = n := by rw [List.length_map, hn]
  have HC := Lib.hid (show 0 < n → ∃ b o, A = some ⟨b, o, none⟩ ∧ ∀ i (h : i < xs.length), w.cell? ⟨b, o + i, none⟩ = some (.string xs[i]) from fun h => by
    obtain ⟨b, o, h1, h2, h3, h4⟩ := hcells (by omega)
    exact ⟨b, o, h1, fun i hi => by rw [h4 i (by omega), List.getElem_map]⟩)
  rw [hml] at hcap ⊢
  have HN := Lib.hid hn
  have HX := Lib.hid hx
  rw [← hn] at hl
  clear hcells hml hn hx
  go_enter Tryz.func211, Tryz.ntmps211
  go_wp2
  go_loopw [8] (fun iv wr => ∃ i : Nat, iv = .int .i64 (i : Int) ∧ i ≤ n ∧ w = wr) (fun iv _ => n - (intOf iv).toNat)
  case atStart => exact ⟨0, rfl, Nat.zero_le _, rfl⟩
  case round =>
    obtain ⟨i, rfl, hin, rfl⟩ := hrel
    by_cases hlt : i < n
    · obtain ⟨b, o, rfl, hc⟩ := HC.out (by omega)
      have hij : i < xs.length := by rw [← HN.out]; exact hlt
      have c1 := hc i hij
      have hs := HX.out xs[i] (List.getElem_mem _)
      obtain ⟨x, hxe⟩ : ∃ x, x = xs[i] := ⟨_, rfl⟩
      rw [← hxe] at c1 hs
      have k2 : decide ((4096 : Int) < (x.size : Int)) = false := decide_eq_false (by omega)
      have k3 : ¬ ((4096 : Int) < (x.size : Int)) := by omega
      clear hxe hc hij
      go_wp2_with (go_in)
      exact ⟨⟨i + 1, by go_num, by omega, by first | rfl | trivial⟩, by simp [intOf]; omega⟩
    · obtain rfl : i = n := by omega
      go_wp2
      go_ret
      exact ⟨rfl, by first | rfl | trivial⟩
set_option maxHeartbeats 4000000 in
set_option maxRecDepth 100000 in
theorem containsBig_calls (xs : List ByteArray) (hx : ∀ x ∈ xs, x.size ≤ 4096) (hl : xs.length ≤ 1099511627776) {v : Value} (hv : SlIn w v (xs.map Value.string) X) :
    Calls Tryz.prog 135 #[v, .func (.func 136) #[] #[]] w fun r w' => r = .returned (.bool false) ∧ w = w' := by
  have HI := Lib.hid (indexBig_calls xs hx hl hv)
  clear hx hl hv
  go_enter Tryz.func135, Tryz.ntmps135
  go_wp2_with fail
  refine (HI.out).mono ?_
  rintro r w2 ⟨rfl, rfl⟩
  go_wp2
  go_ret
  exact ⟨rfl, by first | rfl | trivial⟩
set_option maxHeartbeats 4000000 in
set_option maxRecDepth 100000 in
theorem taken_calls (h : EngAt w a D X) (xs : List ByteArray) (hx : ∀ x ∈ xs, x.size ≤ 4096) (h0 : 0 < xs.length) (hl : xs.length ≤ 1024) {v : Value} {Z : Nat → Prop} (hv : SlIn w v (xs.map Value.string) Z) :
    Calls Tryz.prog 64 #[.pointer (some ⟨a.eb, 0, none⟩), v] w fun r w' => r = .returned (.int .i64 0) ∧ w = w' := by
  have HB := Lib.hid (containsBig_calls xs hx (by omega) hv)
  obtain ⟨A1, c1, c10⟩ := h.list_len
  have hlen := h.ok.len
  obtain ⟨A, cap, rfl, hcap, _⟩ := hv
  rw [List.length_map] at hcap HB ⊢
  obtain ⟨n, hn⟩ : ∃ n, n = xs.length := ⟨_, rfl⟩
  rw [← hn] at hcap HB h0 hl ⊢
  obtain ⟨len, hle⟩ : ∃ x, x = D.L.length := ⟨_, rfl⟩
  rw [← hle] at c10 hlen
  obtain ⟨eb, heb⟩ : ∃ x, x = a.eb := ⟨_, rfl⟩
  rw [← heb] at c10 ⊢
  have k1 : ¬ ((1024 : Int) < (n : Int)) := by omega
  have k1b : ¬ (1024 < n) := by omega
  have k2 : decide ((n : Int) = 0) = false := decide_eq_false (by omega)
  have k3 : ((n : Int) == 0) = false := by simp; omega
  have k4 : ¬ ((n : Int) = 0) := by omega
  have k5 : ¬ ((4611686018427387904 : Int) - (n : Int) < (len : Int)) := by omega
  clear h hx hn hle heb hcap
  go_enter Tryz.func64, Tryz.ntmps64
  go_wp2_with fail
  refine (HB.out).mono ?_
  rintro r w2 ⟨rfl, rfl⟩
  go_wp2
  go_ret
  exact ⟨rfl, by first | rfl | trivial⟩
end
end Go.Proofs.YtblkehdpenfhjaaGreatDoor
/-
  slices.Clone; an engine and its store together; what an Append writes, plain.
-/
set_option linter.unusedVariables false
set_option linter.unusedSimpArgs false
namespace Go.Proofs.YtblkehdpenfhjaaGreatDoor
open Go.RowKit Go.Maps Go.ChangeMaps Go.MapKept

section
variable {w w' : World} {a : EA} {D : ED} {X Y : Nat → Prop} {room : Nat} {now disk : Recs} {log : List Value} {F : Nat → Prop}
theorem eql_slice_nil {P : Program} (w : World) {t e : TypeId} (A : Option Addr) (n c : Nat) (ht : P.underlying t = some (.slice e)) :
    (binOp .eql t (.slice A n c) (.slice none 0 0)).run P w = .ok (.bool A.isNone) w := by
  have h : ∀ d : Nat, (Op.equalIn (d + 1) t (.slice A n c) (.slice none 0 0)).run P w = .ok A.isNone w := fun d => by
    cases A <;> simp [Op.equalIn, run_underlying ht]
  simp only [binOp]
  simp [show Op.equal t (.slice A n c) (.slice none 0 0) = Op.equalIn (9999 + 1) t (.slice A n c) (.slice none 0 0) from rfl, h 9999]
set_option maxHeartbeats 4000000 in
set_option maxRecDepth 100000 in
theorem clone_calls (us : List Value) (h1 : ∀ u ∈ us, u.oneCell' = true) (hl : us.length ≤ 68719476736) {v : Value} (hv : SlIn w v us X) (hnl : us = [] → v = .slice none 0 0) :
    Calls Tryz.prog 65 #[v] w fun r w' => ∃ u, r = .returned u ∧ w'.ownsRow w.heap.size 9 1 u us.length us ∧ Below w.heap.size w w' := by
  obtain ⟨i0, hi, hz0, hz1, hz2⟩ := info_parts infoS
  have hq := fun w A n c => eql_slice_nil (P := Tryz.prog) w A n c Tryz.underlying32
  by_cases h0 : us = []
  · rw [hnl h0, h0]
    go_enter Tryz.func65, Tryz.ntmps65
    go_wp2
    go_ret
    exact ⟨_, rfl, World.ownsRow_nil _ _ _ _, Below.refl _ _⟩
  · obtain ⟨A, cap, rfl, hcap, hcells⟩ := hv
    have hpos : 0 < us.length := by
      cases us with
      | nil => exact absurd rfl h0
      | cons _ _ => simp
    obtain ⟨b, o, rfl, hb, hX, hc⟩ := hcells hpos
    obtain ⟨n, hn⟩ : ∃ n, n = us.length := ⟨_, rfl⟩
    have HC := Lib.hid hc
    have HN := Lib.hid hn
    have H1 := Lib.hid h1
    rw [← hn] at hpos hl hcap ⊢
    clear hcells hc hn h1 hnl h0
    go_enter Tryz.func65, Tryz.ntmps65
    obtain ⟨w1, hw1⟩ : ∃ w1, w1 = w.alloc (.cells #[] 9) := ⟨_, rfl⟩
    have hb1 : Below w.heap.size w w1 := by rw [hw1]; exact (Below.refl _ _).alloc (Nat.le_refl _) _
    have HO := Lib.hid (show w1.ownsRow w.heap.size 9 1 (.slice (some ⟨w.heap.size, 0, none⟩) 0 0) 0 [] from
      ⟨rfl, .inr ⟨w.heap.size, 0, #[], rfl, Nat.le_refl _, by rw [hw1]; exact (MapKept.heap_alloc w _).1, Nat.le_refl _, Nat.zero_le _, rfl, rfl⟩⟩)
    have HB1 := Lib.hid hb1
    have HCW := Lib.hid (show ∀ (j : Nat) u, us[j]? = some u → w1.cell? ((⟨b, o, none⟩ : Addr).add j) = some u from fun j u hu => by
      obtain ⟨hj, rfl⟩ := List.getElem?_eq_some_iff.1 hu
      rw [Addr.add_lit, hb1.cell (p := ⟨b, o + j, none⟩) hb]
      exact HC.out j hj)
    clear hb1
    go_wp2_with (at_builtin; rw [← hw1]; go_must (refine wpList_append_lies _ rfl (.tmp 5) (.tmp 6) 32 rfl w.heap.size 9 i0 (.string ⟨#[]⟩) 1 16 Tryz.underlying32 hi hz0 hz1 hz2 rfl (by decide) _ _ _ rfl HO.out ⟨b, o, none⟩ n cap us rfl (by rw [← HN.out]; simp) HCW.out H1.out hpos (by unfold maxLen; omega) (by omega) HB1.out.size _ rfl ?_))
    intro g cap3 w4 hown4 hgrow hat hltg
    have HF := Lib.hid (show w4.ownsRow w.heap.size 9 1 (.slice (some ⟨g, 0, none⟩) n cap3) n us ∧ Below w.heap.size w w4 from
      ⟨by simpa using hown4, HB1.out.grown (by rw [hw1]; exact hgrow) HB1.out.size (fun k hk => own_ge HO.out hk)⟩)
    clear hown4 hgrow hat hltg
    go_wp2
    go_ret
    exact ⟨_, by simp, HF.out.1, HF.out.2⟩
/-- an engine and its store, each in blocks of its own -/
structure Sys (w : World) (a : EA) (D : ED) (room : Nat) (now disk : Recs) (log : List Value) (F : Nat → Prop) : Prop where
  eng : EngAt w a D (fun b => ¬ a.own b ∧ ¬ F b)
  sto : StoreAt w a.sb room now disk log D.age F
  low : ∀ b, F b → b < w.heap.size
  apart : ∀ b, F b → ¬ a.own b
  good : Good D
  glob : Glob w
  gf : ∀ b, GlobB b → ¬ F b
theorem Sys.new (h : Sys w a D room now disk log F) : ∀ b, w.heap.size ≤ b → ¬ a.own b ∧ ¬ F b := fun b hb => ⟨fun ho => by have := h.eng.low ho; omega, fun hf => by have := h.low b hf; omega⟩
/-- the store turned, the engine not -/
theorem Sys.wrote {F' : Nat → Prop} {now' : Recs} {log' : List Value} (h : Sys w a D room now disk log F) (hs : StoreAt w' a.sb room now' disk log' D.age F') (hg : Goes F F' w w') : Sys w' a D room now' disk log' F' :=
  ⟨(((h.eng.mono (Y := fun b => (¬ a.own b ∧ ¬ F b) ∧ b < w.heap.size) (fun b hb hX => ⟨hX, hb⟩) (fun b hb => hb.1.1)).keep hg.turn.size fun b hb ho => hg.turn.block b hb (fun hF => ho.elim (h.apart b hF) (fun hX => hX.1.2 hF))).mono (fun b hb hX => ⟨hX.1.1, fun hF' => (hg.own b hF').elim hX.1.2 (fun hn => by have := hX.2; omega)⟩) (fun b hb => hb.1)), hs, hg.low, fun b hb ho => (hg.own b hb).elim (fun hF => h.apart b hF ho) (fun hn => by have := h.eng.low ho; omega), h.good,
    h.glob.turn hg.turn h.gf, fun b hb hF => (hg.own b hF).elim (h.gf b hb) (fun hn => h.glob.new hn hb)⟩
theorem Sys.asked {D' : ED} {k : Nat} (h : Sys w a D room now disk log F) (hq : Asked w w' a D D' (fun b => ¬ a.own b ∧ ¬ F b) k) : Sys w' a D' room now disk log F :=
  ⟨hq.eng, by rw [hq.like.age]; exact h.sto.keep fun b hb hF => hq.turn.block b hb (h.apart b hF), fun b hb => Nat.lt_of_lt_of_le (h.low b hb) hq.turn.size, h.apart, hq.good, h.glob.turn hq.turn h.eng.glb, h.gf⟩
theorem Sys.below (h : Sys w a D room now disk log F) (hb : Below w.heap.size w w') : Sys w' a D room now disk log F :=
  ⟨h.eng.below hb, h.sto.below hb, fun b hF => Nat.lt_of_lt_of_le (h.low b hF) hb.size, h.apart, h.good, h.glob.keep hb, h.gf⟩
end
end Go.Proofs.YtblkehdpenfhjaaGreatDoor
