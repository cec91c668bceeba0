/-
  Arguments opened: a list of numbers.
-/
import Derived.Test.YtfkdmbiejledoaaRows
import Derived.Test.YtfkdmbiejledoaaP0
import Derived.Test.YtfkdmbiejledoaaG6
import Derived.Deep.Slices
import Derived.Deep.Fields
import Derived.ChangeSame
import Derived.WalkKit
import Derived.ProofKit
import Derived.OpenShut
import Derived.ShutString
import Derived.ChangeOld
import Derived.Below
import Derived.SizedLaws
import Derived.JoinedCond
import Derived.SliceStrings
import Derived.ChangeSlices
set_option linter.unusedVariables false
set_option linter.unusedSimpArgs false
namespace Go.Proofs.Ytfkdmbiejledoaa
open Go.RowKit Go.ChangeShapes Go.WideShapes Go.ChangeAt
open Go.ChangeMaps (open_string shut_string)


theorem own_knob : ownKnob Try.prog.godebug = none := by kernel_rfl
theorem Try.laidOut : laidOutB Try.prog = true := by kernel_rfl
theorem cells3' : Try.prog.cellsOf 3 = 1 := by kernel_rfl
theorem bulk_ints {H : Type} (zs : List Int) : Rows.uptoBulkAll (lits (H := H) .i64 zs) = zs.length := by
  induction zs with
  | nil => rfl
  | cons s ss ih =>
    have e : lits (H := H) .i64 (s :: ss) = .lit (.int .i64 s) :: lits .i64 ss := rfl
    rw [e]
    simp only [Rows.uptoBulkAll, Rows.uptoBulk, ih, List.length_cons]; omega
theorem ints_open {H : Type} {enc : TypeId × Value → H} {W : World} {v : Value} {x : DataW H × List MemPlace} {fuel : Nat} {held : Bool}
    (h : DataW.trod enc Try.prog W 0 (fun _ => true) held fuel 46 v.cells.toList = some x) (hv : ∃ a l c, v = .slice a l c) (hlt : ∀ p ∈ x.2, p.block < W.heap.size) :
    ∃ zs : List Int, SlIn W v (zs.map (Value.int .i64)) (fun _ => True) ∧ zs.length ≤ Rows.uptoBulk x.1 ∧ ∀ z ∈ zs, InI64 z := by
  obtain ⟨a0, l0, c0, rfl⟩ := hv
  rcases open_ints Try.underlying46 Try.underlying3 cells3' h with ⟨hcs, hx⟩ | ⟨a, len, cap, ss, hcs, _, hl, hm, hz, hx, hcell, hws⟩
  · simp [Value.cells] at hcs
    obtain ⟨rfl, rfl, rfl⟩ := hcs
    exact ⟨[], SlIn.nil _, by simp, fun z hz => by cases hz⟩
  · simp [Value.cells] at hcs
    obtain ⟨rfl, rfl, rfl⟩ := hcs
    simp only [if_true] at hz
    have hlen : (ss.take l0).length = l0 := by rw [List.length_take]; omega
    have hlm : ((ss.take l0).map (Value.int .i64)).length = l0 := by rw [List.length_map, hlen]
    refine ⟨ss.take l0, ⟨some a, c0, by rw [hlm], by omega, fun hp => ?_⟩, ?_, fun z hz' => ?_⟩
    · rw [hlm] at hp
      obtain ⟨b, off, spot⟩ := a
      have hspot : spot = none := by simpa [Addr.add] using World.cell?_spot (hcell 0 (by omega))
      subst hspot
      refine ⟨b, off, rfl, ?_, trivial, fun i hi => ?_⟩
      · have := hlt (.cell b off) (by rw [hx]; exact MemPlace.mem_row.2 ⟨0, by omega, by simp⟩)
        exact this
      · rw [hlm] at hi
        have hc := hcell i (by omega)
        rw [show (⟨b, off + i, none⟩ : Addr) = Addr.add ⟨b, off, none⟩ i by simp [Addr.add]]
        rw [hc, List.getElem_map, List.getElem_take]
        simp [List.getD, show i < ss.length by omega]
    · rw [hx]
      simp only [Rows.uptoBulk, bulk_ints]
      omega
    · have := hws z (List.mem_of_mem_take hz')
      unfold InI64
      simpa [Lit.wf, IntKind.min, IntKind.max, IntKind.signed, IntKind.bits] using this
theorem bulk_mem {H : Type} {d : DataW H} {ds : List (DataW H)} (h : d ∈ ds) : Rows.uptoBulk d ≤ Rows.uptoBulkAll ds := by
  induction ds with
  | nil => cases h
  | cons e ds ih =>
    simp only [Rows.uptoBulkAll]
    rcases List.mem_cons.1 h with rfl | h
    · omega
    · have := ih h; omega
theorem bulk_pos {H : Type} (d : DataW H) : 1 ≤ Rows.uptoBulk d := by
  cases d with
  | lit l => cases l <;> simp [Rows.uptoBulk]
  | _ => simp [Rows.uptoBulk]
theorem bulk_len {H : Type} (ds : List (DataW H)) : ds.length ≤ Rows.uptoBulkAll ds := by
  induction ds with
  | nil => simp
  | cons e ds ih =>
    have := bulk_pos e
    simp only [Rows.uptoBulkAll, List.length_cons]; omega
section
open Go.Deep
theorem open_slice_fields {H : Type} {enc : TypeId × Value → H} {P : Program} {w : World} {base : Nat} {spare : Nat → Bool} {held : Bool}
    {t e : TypeId} {fs : Array Field} {fuel : Nat} {cs : List Value} {x : DataW H × List MemPlace} (ht : P.underlying t = some (.slice e)) (he : P.underlying e = some (.struct fs))
    (hone : oneCellFields P fs = true) (hC : P.cellsOf e = fs.size) (h : DataW.trod enc P w base spare held fuel t cs = some x) :
    (cs = [.slice none 0 0] ∧ x = (.nil, [])) ∨
    ∃ (a : Addr) (len cap m : Nat) (D : Nat → DataW H) (Pl : Nat → List MemPlace), cs = [.slice (some a) len cap] ∧ base ≤ a.block ∧ len ≤ cap ∧ cap ≤ maxLen ∧ m = (if spare a.block then cap else len) ∧
      x = (.slice ((List.range len).map D) ((List.range (m - len)).map fun j => D (len + j)), MemPlace.row a (m * fs.size) ++ (List.range m).flatMap Pl) ∧
      ∀ i, i < m → ∃ (ys : List (DataW H × List MemPlace)) (n : Nat), D i = .agg (ys.map (·.1)) ∧ Pl i = ys.flatMap (·.2) ∧ ys.length = fs.size ∧
        ∀ (j : Nat) (f : Field), fs[j]? = some f → ∃ (v : Value) (y : DataW H × List MemPlace), w.cell? (a.add (i * fs.size + j)) = some v ∧ ys[j]? = some y ∧ DataW.trod enc P w base spare held n f.type [v] = some y := by
  rcases open_slice ht h with h0 | ⟨a, len, cap, m, n, D, Pl, hcs, hb, hl, hm, hmm, hx, hi⟩
  · exact .inl h0
  · refine .inr ⟨a, len, cap, m, D, Pl, hcs, hb, hl, hm, hmm, by rw [hC] at hx; exact hx, fun i him => ?_⟩
    obtain ⟨cs', hc, ht'⟩ := hi i him
    rw [hC] at hc
    obtain ⟨ys, n', hn', hy, hlen, hyl, hf⟩ := DataW.trod_struct he ht'
    obtain ⟨_, hcl, hat⟩ := World.cells?_some hc
    simp only [Prod.mk.injEq] at hy
    refine ⟨ys, n', hy.1, hy.2, hyl, fun j f hj => ?_⟩
    obtain ⟨ho, hk⟩ := hone_of hone j f hj
    have hjl : j < fs.size := (Array.getElem?_eq_some_iff.1 hj).1
    have hcell := hat j hjl
    have hv : cs'[j]? = some (cs'[j]'(by omega)) := List.getElem?_eq_getElem (by omega)
    have h1 := hf j f hj
    rw [ho, hk] at h1
    have hone' : (cs'.drop j).take 1 = [cs'[j]'(by omega)] := by
      rw [List.drop_eq_getElem_cons (by omega)]
      rfl
    rw [hone'] at h1
    have hys : ys[j]? = some (ys[j]'(by omega)) := List.getElem?_eq_getElem (by omega)
    refine ⟨_, _, ?_, hys, h1.trans hys⟩
    rw [← Go.Deep.add_add, hcell, hv]
end
theorem op_at {H : Type} {enc : TypeId × Value → H} {W : World} {a : Addr} {i fs n : Nat} {held : Bool} {ys : List (DataW H × List MemPlace)} (hlen : ys.length = 3)
    (h0 : ∃ (v : Value) (y : DataW H × List MemPlace), W.cell? (a.add (i * 3 + 0)) = some v ∧ ys[0]? = some y ∧ DataW.trod enc Try.prog W 0 (fun _ => true) held n 3 [v] = some y)
    (h1 : ∃ (v : Value) (y : DataW H × List MemPlace), W.cell? (a.add (i * 3 + 1)) = some v ∧ ys[1]? = some y ∧ DataW.trod enc Try.prog W 0 (fun _ => true) held n 3 [v] = some y)
    (h2 : ∃ (v : Value) (y : DataW H × List MemPlace), W.cell? (a.add (i * 3 + 2)) = some v ∧ ys[2]? = some y ∧ DataW.trod enc Try.prog W 0 (fun _ => true) held n 9 [v] = some y) :
    ∃ x : OpV, (∀ (j : Nat) u, x.cells[j]? = some u → W.cell? (a.add (i * 3 + j)) = some u) ∧ InI64 x.kind ∧ InI64 x.k ∧ x.val.size ≤ Rows.uptoBulk (DataW.agg (ys.map (·.1))) := by
  obtain ⟨v0, y0, c0, e0, t0⟩ := h0
  obtain ⟨v1, y1, c1, e1, t1⟩ := h1
  obtain ⟨v2, y2, c2, e2, t2⟩ := h2
  obtain ⟨n0, hc0, rfl, w0⟩ := DataW.trod_int Try.underlying3 t0
  obtain ⟨n1, hc1, rfl, w1⟩ := DataW.trod_int Try.underlying3 t1
  obtain ⟨s, hc2, rfl, w2⟩ := DataW.trod_string Try.underlying9 t2
  simp only [List.cons.injEq, and_true] at hc0 hc1 hc2
  subst hc0 hc1 hc2
  refine ⟨⟨n0, n1, s⟩, fun j u hu => ?_, ?_, ?_, ?_⟩
  · match j, hu with
    | 0, hu => simp only [OpV.cells, List.getElem?_cons_zero, Option.some.injEq] at hu; rw [c0, hu]
    | 1, hu => simp only [OpV.cells, List.getElem?_cons_succ, List.getElem?_cons_zero, Option.some.injEq] at hu; rw [c1, hu]
    | 2, hu => simp only [OpV.cells, List.getElem?_cons_succ, List.getElem?_cons_zero, Option.some.injEq] at hu; rw [c2, hu]
    | j + 3, hu => simp [OpV.cells] at hu
  · unfold InI64; simpa [Lit.wf, IntKind.min, IntKind.max, IntKind.signed, IntKind.bits] using w0
  · unfold InI64; simpa [Lit.wf, IntKind.min, IntKind.max, IntKind.signed, IntKind.bits] using w1
  · have hm : (DataW.lit (.string s.data.toList) : DataW H) ∈ ys.map (·.1) := List.mem_map.2 ⟨_, List.mem_of_getElem? e2, rfl⟩
    have h := bulk_mem hm
    have hs : s.data.toList.length = s.size := by simp
    simp only [Rows.uptoBulk] at h ⊢
    omega
theorem ops_open {H : Type} {enc : TypeId × Value → H} {W : World} {v : Value} {x : DataW H × List MemPlace} {fuel : Nat} {held : Bool}
    (h : DataW.trod enc Try.prog W 0 (fun _ => true) held fuel 32 v.cells.toList = some x) (hv : ∃ a l c, v = .slice a l c) (hlt : ∀ p ∈ x.2, p.block < W.heap.size) :
    ∃ os : List OpV, OpsIn W v os (fun _ => True) ∧ os.length ≤ Rows.uptoBulk x.1 ∧ ∀ z ∈ os, InI64 z.kind ∧ InI64 z.k ∧ z.val.size ≤ Rows.uptoBulk x.1 := by
  obtain ⟨a0, l0, c0, rfl⟩ := hv
  rcases open_slice_fields Try.underlying32 Try.underlying35 (by kernel_rfl) (by kernel_rfl) h with ⟨hcs, hx⟩ | ⟨a, len, cap, m, D, Pl, hcs, _, hl, hm, hmm, hx, hi⟩
  · simp [Value.cells] at hcs
    obtain ⟨rfl, rfl, rfl⟩ := hcs
    exact ⟨[], ⟨none, 0, rfl, Nat.le_refl _, fun h => absurd h (by simp)⟩, by simp, fun z hz => by cases hz⟩
  · simp [Value.cells] at hcs
    obtain ⟨rfl, rfl, rfl⟩ := hcs
    simp only [if_true] at hmm
    subst hmm
    have hop : ∀ i : Nat, ∃ x : OpV, i < m → (∀ (j : Nat) u, x.cells[j]? = some u → W.cell? (a.add (i * 3 + j)) = some u) ∧ InI64 x.kind ∧ InI64 x.k ∧ x.val.size ≤ Rows.uptoBulk (D i) := by
      intro i
      by_cases him : i < m
      · obtain ⟨ys, n, hD, _, hlen, hf⟩ := hi i him
        obtain ⟨x, hx⟩ := op_at (enc := enc) (W := W) (a := a) (i := i) (fs := 3) (n := n) (held := held) (ys := ys) hlen (hf 0 _ rfl) (hf 1 _ rfl) (hf 2 _ rfl)
        exact ⟨x, fun _ => by rw [hD]; exact hx⟩
      · exact ⟨⟨0, 0, ⟨#[]⟩⟩, fun h => absurd h him⟩
    obtain ⟨X, hX⟩ := Classical.axiomOfChoice hop
    have hlm : ((List.range l0).map X).length = l0 := by simp
    have hb : Rows.uptoBulkAll ((List.range l0).map D) ≤ Rows.uptoBulk x.1 := by rw [hx]; simp only [Rows.uptoBulk]; omega
    refine ⟨(List.range l0).map X, ⟨some a, m, by rw [hlm], by omega, fun hp => ?_⟩, ?_, fun z hz => ?_⟩
    · rw [hlm] at hp
      obtain ⟨b, off, spot⟩ := a
      have hc0 := (hX 0 (by omega)).1 0 _ rfl
      have hspot : spot = none := by simpa [Addr.add] using World.cell?_spot hc0
      subst hspot
      refine ⟨b, off, rfl, ?_, trivial, fun i hi' j u hu => ?_⟩
      · have := hlt (.cell b off) (by rw [hx]; exact List.mem_append.2 (.inl (MemPlace.mem_row.2 ⟨0, by show 0 < m * 3; omega, by simp⟩)))
        exact this
      · rw [hlm] at hi'
        rw [List.getElem_map, List.getElem_range] at hu
        have := (hX i (by omega)).1 j u hu
        rw [show (⟨b, off + i * 3 + j, none⟩ : Addr) = Addr.add ⟨b, off, none⟩ (i * 3 + j) by simp [Addr.add, Nat.add_assoc]]
        exact this
    · rw [hlm]
      have h1 := bulk_len ((List.range l0).map D)
      simp at h1
      omega
    · obtain ⟨i, hi', rfl⟩ := List.mem_map.1 hz
      rw [List.mem_range] at hi'
      obtain ⟨_, h1, h2, h3⟩ := hX i (by omega)
      have h4 := bulk_mem (d := D i) (ds := (List.range l0).map D) (List.mem_map.2 ⟨i, List.mem_range.2 hi', rfl⟩)
      exact ⟨h1, h2, by omega⟩

end Go.Proofs.Ytfkdmbiejledoaa
