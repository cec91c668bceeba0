import Derived.OrdersHeld
import Derived.WalkKit
import Derived.Deep.QuietTactic
import Derived.Test.YtblkehdpenfhjaaGreatDoorProg
import Derived.WalkSpells
import Derived.WalkLawsBesides
import Derived.Deep.LoopGhost
import Derived.BigQuiet
import Derived.Lib.Hide
import Derived.Deep.OwnRows
import Derived.RegionTactic
import Derived.Maps.Own
import Derived.Maps.OwnSet
import Derived.LaidEqlPtr
import Derived.Deep.AppendLies
import Derived.Deep.DeepCutAuto
import Derived.Deep.Cut
import Derived.Deep.CutBlock
import Derived.Deep.DeepMust
import Derived.Laws.BytesArg
import Derived.Laws.CopyOwn
import Derived.Laws.Rows
import Derived.StillTailTactics
import Derived.Lib.ConvBytes
import Derived.ArgAppend
import Derived.Shelf.SlMaps.Clone
import Derived.Laws.BitsAllLaws
import Derived.Laws.MakeOwn
set_option linter.unnecessarySimpa false
set_option linter.unusedVariables false
set_option linter.unusedSimpArgs false
/-
  A region that draws its order, walked in ONE order: operations that yield their value in every world that meets S ('held'), and operations that act, each the only one that may come up at its turn. Behind an acting operation S is asked only where a held one need not have come up before it. No conditions.
-/
set_option linter.unusedVariables false
set_option linter.unusedSimpArgs false
namespace Go.Proofs.YtblkehdpenfhjaaGreatDoor
open Go.RowKit
section
variable {P : Program} {ops : Array Oper} {Q : Exit → Act → World → Prop} {md : Region.Mode} {S : World → Prop}

/-- Must i have come up before j? (through n edges at most) -/
def reachB (md : Region.Mode) (ops : Array Oper) : Nat → Nat → Nat → Bool
  | 0, _, _ => false
  | n + 1, j, i => match ops[j]? with
    | none => false
    | some oj => oj.after.any fun e => Region.binds md e && (e.on == i || reachB md ops n e.on i)

def closedB (md : Region.Mode) (ops : Array Oper) (listed : Array Bool) : Prop :=
  ∀ k ok, ops[k]? = some ok → listed.getD k false = true → ∀ e ∈ ok.after, Region.binds md e = true → listed.getD e.on false = true

theorem reach_listed {listed : Array Bool} (hc : closedB md ops listed) : ∀ (n j i : Nat), (∀ oj, ops[j]? = some oj → ∀ e ∈ oj.after, Region.binds md e = true → listed.getD e.on false = true) → reachB md ops n j i = true → listed.getD i false = true
  | 0, _, _, _, h => by simp [reachB] at h
  | n + 1, j, i, hj, h => by
    unfold reachB at h
    cases ho : ops[j]? with
    | none => simp [ho] at h
    | some oj =>
      simp only [ho] at h
      obtain ⟨e, he, hb⟩ := Array.any_eq_true'.1 h
      simp only [Bool.and_eq_true, Bool.or_eq_true, beq_iff_eq] at hb
      have hl := hj oj ho e he hb.1
      rcases hb.2 with rfl | h2
      · exact hl
      · exact reach_listed hc n e.on i (fun ok hk e' he' hb' => hc e.on ok hk hl e' he' hb') h2

theorem closed_set {listed : Array Bool} {j : Nat} (hc : closedB md ops listed) (hr : j ∈ Region.ready md ops listed) : closedB md ops (listed.setIfInBounds j true) := by
  intro k ok hk hl e he hb
  obtain ⟨_, oj, hoj, hall⟩ := mem_ready.1 hr
  by_cases hjk : j = k
  · subst hjk
    obtain rfl : ok = oj := Option.some.inj (hk.symm.trans hoj)
    exact getD_set_true (hall e he hb)
  · rw [getD_set_ne false hjk] at hl
    exact getD_set_true (hc k ok hk hl e he hb)

theorem listed_conv {listed : Array Bool} {i : Nat} (h1 : listed.getD i true = false) (h2 : listed.getD i false = true) : False := by
  rcases Nat.lt_or_ge i listed.size with h' | h'
  · simp [h'] at h1 h2; rw [h1] at h2; cases h2
  · simp [Array.getElem?_eq_none h'] at h2

/-- Need S hold behind j? : is there a held operation that need not come up before it? -/
def needB (md : Region.Mode) (ops : Array Oper) (held : List Nat) (j : Nat) : Bool := held.any fun i => !reachB md ops ops.size j i

/-- Whatever order is picked: S holds behind each operation behind which it is needed. -/
def wpAnyN (P : Program) (md : Region.Mode) (ops : Array Oper) (Q : Exit → Act → World → Prop) (S : World → Prop) (held : List Nat) : Nat → Array Bool → Act → World → Prop
  | 0, listed, a, w => Region.ready md ops listed = [] ∧ Q .normal a w
  | fuel + 1, listed, a, w =>
    (Region.ready md ops listed = [] → Q .normal a w) ∧
    ∀ i ∈ Region.ready md ops listed, wpOp P ops Q i (fun a' w' => (needB md ops held i = true → S w') ∧ wpAnyN P md ops Q S held fuel (listed.setIfInBounds i true) a' w') a w

theorem wpAny_of_N {held : List Nat} : ∀ (fuel : Nat) (listed : Array Bool) (a : Act) (w : World), wpAnyN P md ops Q S held fuel listed a w → wpAny P md ops Q fuel listed a w
  | 0, _, _, _, h => h
  | fuel + 1, _, _, _, h => ⟨h.1, fun i hi => wpOp_mono (fun a' w' h' => wpAny_of_N fuel _ a' w' h'.2) (h.2 i hi)⟩

theorem wpAnyN_first {held : List Nat} {i : Nat} {oi : Oper} {v : Value} (hi : ops[i]? = some oi) (hh : i ∈ held) (hsel : ∀ (j : Nat) (o : Oper) cs b, ops[j]? = some o → o.op ≠ .select cs b)
    (hQ : ∀ c a w, Q (.panic c) (a.put oi.dst v) w → Q (.panic c) a w) :
    ∀ (fuel : Nat) (listed : Array Bool) (a : Act) (w : World), closedB md ops listed →
      (∀ j oj, ops[j]? = some oj → j ≠ i → listed.getD j true = false → (∀ e ∈ oj.after, Region.binds md e = true → e.on ≠ i) → oi.apart ops oj = true) →
      i ∈ Region.ready md ops listed → YieldsIf P ops S oi v a → S w →
      wpAnyN P md ops Q S held fuel (listed.setIfInBounds i true) (a.put oi.dst v) w → wpAnyN P md ops Q S held (fuel + 1) listed a w := by
  intro fuel
  induction fuel with
  | zero =>
    intro listed a w _ _ hr hy hS H
    refine ⟨fun h => (by rw [h] at hr; cases hr), fun j hj => ?_⟩
    by_cases hji : j = i
    · subst hji; exact hy.wpOp hi hS ⟨fun _ => hS, H⟩
    · have := ready_mono hj hji
      rw [H.1] at this
      cases this
  | succ fuel ih =>
    intro listed a w hcl hfree hr hy hS H
    refine ⟨fun h => (by rw [h] at hr; cases hr), fun j hj => ?_⟩
    by_cases hji : j = i
    · subst hji; exact hy.wpOp hi hS ⟨fun _ => hS, H⟩
    · have h1 := H.2 j (ready_mono hj hji)
      obtain ⟨hjun, oj, hoj, hall⟩ := mem_ready.1 hj
      have hnot : ∀ e ∈ oj.after, Region.binds md e = true → e.on ≠ i := fun e he hb heq => by
        have h1 := hall e he hb
        rw [heq] at h1
        exact listed_conv (mem_ready.1 hr).1 h1
      have hneed : needB md ops held j = true := by
        unfold needB
        refine List.any_eq_true.2 ⟨i, hh, ?_⟩
        cases hre : reachB md ops ops.size j i
        · rfl
        · exact (listed_conv (mem_ready.1 hr).1 (reach_listed hcl _ _ _ (fun o ho e he hb => by
            obtain rfl : o = oj := Option.some.inj (ho.symm.trans hoj)
            exact hall e he hb) hre)).elim
      have h2 := wpOp_putIf hoj (hfree j oj hoj hji hjun hnot) (fun cs b => hsel i oi cs b hi) (fun cs b => hsel j oj cs b hoj) hQ hy h1
      have hfree' : ∀ k ok, ops[k]? = some ok → k ≠ i → (listed.setIfInBounds j true).getD k true = false →
          (∀ e ∈ ok.after, Region.binds md e = true → e.on ≠ i) → oi.apart ops ok = true := fun k ok hk hki hun hno => by
        refine hfree k ok hk hki ?_ hno
        by_cases hjk : j = k
        · subst hjk; exact hjun
        · rw [getD_set_ne true hjk] at hun; exact hun
      refine wpOp_mono (fun a' w' h3 => ⟨h3.2.1, ih (listed.setIfInBounds j true) a' w' (closed_set hcl hj) hfree' (ready_mono hr (Ne.symm hji)) h3.1 (h3.2.1 hneed) ?_⟩) h2
      rw [Array.setIfInBounds_comm _ _ hji]
      exact h3.2.2

/-- The walk in the given order: (i, false): operation i is held; (i, true): it acts. -/
def seqH (P : Program) (md : Region.Mode) (ops : Array Oper) (Q : Exit → Act → World → Prop) (S : World → Prop) (held : List Nat) : List (Nat × Bool) → Act → World → Prop
  | [], a, w => Q .normal a w
  | (i, false) :: rest, a, w => match ops[i]? with
    | none => False
    | some o => ∃ v, YieldsIf P ops S o v a ∧ seqH P md ops Q S held rest (a.put o.dst v) w
  | (i, true) :: rest, a, w => match ops[i]? with
    | none => False
    | some o => if Region.wanted o (yielded ops a.tmps) then o.wp P a w (fun a' w' => (needB md ops held i = true → S w') ∧ ((rest.any fun x => !x.2) = true → S w') ∧ seqH P md ops Q S held rest a' w') Q else (needB md ops held i = true → S w) ∧ seqH P md ops Q S held rest (a.put o.dst undef) w

/-- May the region be walked in this order? -/
def seqOk (md : Region.Mode) (ops : Array Oper) (held : List Nat) : List (Nat × Bool) → Array Bool → Bool
  | [], listed => (Region.ready md ops listed).isEmpty
  | (i, false) :: rest, listed => held.contains i && Region.free md ops listed i && (Region.ready md ops listed).contains i && seqOk md ops held rest (listed.setIfInBounds i true)
  | (i, true) :: rest, listed => (Region.ready md ops listed == [i]) && seqOk md ops held rest (listed.setIfInBounds i true)

theorem wpAnyN_done {held : List Nat} {listed : Array Bool} {a : Act} {w : World} (hr : Region.ready md ops listed = []) (h : Q .normal a w) : ∀ fuel, wpAnyN P md ops Q S held fuel listed a w
  | 0 => ⟨hr, h⟩
  | _ + 1 => ⟨fun _ => h, by rw [hr]; simp⟩

theorem wpAnyN_of_seq {held : List Nat} (hs : Region.noSelect ops = true) (hQ : ∀ c a d v w, Q (.panic c) (Act.put a d v) w → Q (.panic c) a w) :
    ∀ (ord : List (Nat × Bool)) (fuel : Nat) (listed : Array Bool) (a : Act) (w : World), closedB md ops listed → seqOk md ops held ord listed = true → ord.length ≤ fuel → ((ord.any fun x => !x.2) = true → S w) → seqH P md ops Q S held ord a w → wpAnyN P md ops Q S held fuel listed a w
  | [], fuel, listed, a, w, _, hok, _, _, h => by
    exact wpAnyN_done (by simpa [seqOk, List.isEmpty_iff] using hok) h fuel
  | (i, false) :: rest, 0, listed, a, w, _, _, hl, _, _ => by simp at hl
  | (i, true) :: rest, 0, listed, a, w, _, _, hl, _, _ => by simp at hl
  | (i, false) :: rest, fuel + 1, listed, a, w, hcl, hok, hl, hS, h => by
    simp only [seqOk, Bool.and_eq_true] at hok
    simp only [seqH] at h
    have hS' : S w := hS (by simp)
    have hri : i ∈ Region.ready md ops listed := by simpa using hok.1.2
    cases ho : ops[i]? with
    | none => simp only [ho] at h
    | some o =>
      simp only [ho] at h
      obtain ⟨v, hy, hrest⟩ := h
      exact wpAnyN_first ho (by simpa using hok.1.1.1) (Region.noSelect_spec hs) (fun c a w hh => hQ c a _ _ w hh) fuel listed a w hcl (Region.free_spec ho hok.1.1.2) hri hy hS'
        (wpAnyN_of_seq hs hQ rest fuel _ _ _ (closed_set hcl hri) hok.2 (by simpa using hl) (fun _ => hS') hrest)
  | (i, true) :: rest, fuel + 1, listed, a, w, hcl, hok, hl, hS, h => by
    simp only [seqOk, Bool.and_eq_true, beq_iff_eq] at hok
    simp only [seqH] at h
    have hri : i ∈ Region.ready md ops listed := by rw [hok.1]; simp
    refine ⟨fun h0 => (by rw [hok.1] at h0; cases h0), fun j hj => ?_⟩
    obtain rfl : j = i := by rw [hok.1] at hj; simpa using hj
    cases ho : ops[j]? with
    | none => simp only [ho] at h
    | some o =>
      simp only [ho] at h
      unfold wpOp
      simp only [ho]
      split
      · rename_i hw
        rw [if_pos hw] at h
        exact .inl (Oper.wp_mono (fun a' w' ⟨hn, hS', h'⟩ => ⟨hn, wpAnyN_of_seq hs hQ rest fuel _ _ _ (closed_set hcl hri) hok.2 (by simpa using hl) hS' h'⟩) h)
      · rename_i hw
        rw [if_neg hw] at h
        exact ⟨h.1, wpAnyN_of_seq hs hQ rest fuel _ _ _ (closed_set hcl hri) hok.2 (by simpa using hl) (fun h0 => hS (by simpa using h0)) h.2⟩

theorem closed_none : closedB md ops (Array.replicate ops.size false) := by
  intro k ok hk hl
  rcases Nat.lt_or_ge k ops.size with h | h
  · simp [h] at hl
  · simp [Array.getElem?_eq_none h] at hk

/-- The region, in the order 'ord'. -/
theorem wp_region_seq {id : Nat} {l : List Oper} {a : Act} {w : World} (S : World → Prop) (ord : List (Nat × Bool)) (hm : P.follows .mixedOrders = true)
    (hok : (Region.noSelect l.toArray && seqOk .any l.toArray ((ord.filter fun x => !x.2).map (·.1)) ord (Array.replicate l.toArray.size false) && decide (ord.length ≤ l.toArray.size)) = true)
    (hQ : ∀ c a d v w, Q (.panic c) (Act.put a d v) w → Q (.panic c) a w) (hS : S w.drew) (h : seqH P .any l.toArray Q S ((ord.filter fun x => !x.2).map (·.1)) ord a w.drew) : (Code.region id l.toArray true).wp P Q a w := by
  simp only [Bool.and_eq_true, decide_eq_true_eq] at hok
  exact wp_region_any hm (wpAny_of_N _ _ _ _ (wpAnyN_of_seq hok.1.1 hQ ord _ _ _ _ closed_none hok.1.2 hok.2 (fun _ => hS) h))

section
variable {held : List Nat} {l : List Oper} {i : Nat} {o : Oper} {rest : List (Nat × Bool)} {a : Act} {w : World}
theorem seqH_held (v : Value) (ho : l.toArray[i]? = some o) (hw : Region.wanted o (yielded l.toArray a.tmps) = true)
    (hy : ∀ w', S w' → (execOp a.eval o).run P w' = .ok (.value v) w') (h : seqH P md l.toArray Q S held rest (a.put o.dst v) w) : seqH P md l.toArray Q S held ((i, false) :: rest) a w := by
  simp only [seqH, ho]
  exact ⟨v, .inl ⟨hw, hy⟩, h⟩
theorem seqH_skip (ho : l.toArray[i]? = some o) (hw : Region.wanted o (yielded l.toArray a.tmps) = false)
    (h : seqH P md l.toArray Q S held rest (a.put o.dst undef) w) : seqH P md l.toArray Q S held ((i, false) :: rest) a w := by
  simp only [seqH, ho]
  exact ⟨undef, .inr ⟨hw, rfl⟩, h⟩
/-- It acts, and S must hold behind it. -/
theorem seqH_actS (ho : l.toArray[i]? = some o) (hw : Region.wanted o (yielded l.toArray a.tmps) = true)
    (h : ∀ K : Act → World → Prop, (∀ a' w', S w' → seqH P md l.toArray Q S held rest a' w' → K a' w') → o.wp P a w K Q) : seqH P md l.toArray Q S held ((i, true) :: rest) a w := by
  simp only [seqH, ho, hw, if_true]
  exact h _ (fun a' w' hS' h' => ⟨fun _ => hS', fun _ => hS', h'⟩)
/-- It acts, and all that is held has come up before it. -/
theorem seqH_act (hneed : (needB md l.toArray held i || rest.any fun x => !x.2) = false) (ho : l.toArray[i]? = some o) (hw : Region.wanted o (yielded l.toArray a.tmps) = true)
    (h : ∀ K : Act → World → Prop, (∀ a' w', seqH P md l.toArray Q S held rest a' w' → K a' w') → o.wp P a w K Q) : seqH P md l.toArray Q S held ((i, true) :: rest) a w := by
  simp only [Bool.or_eq_false_iff] at hneed
  simp only [seqH, ho, hw, if_true]
  exact h _ (fun a' w' h' => ⟨fun hn => (by rw [hneed.1] at hn; cases hn), fun hn => (by rw [hneed.2] at hn; cases hn), h'⟩)
/-- the same, behind a structure (so that nothing unfolds it) -/
structure SeqG (P : Program) (md : Region.Mode) (l : List Oper) (Q : Exit → Act → World → Prop) (S : World → Prop) (held : List Nat) (ord : List (Nat × Bool)) (a : Act) (w : World) : Prop where
  out : seqH P md l.toArray Q S held ord a w
theorem heldL (v : Value) (a' : Act) (ho : l[i]? = some o) (hw : Region.wanted o (yielded l.toArray a.tmps) = true)
    (hy : ∀ w', S w' → (execOp a.eval o).run P w' = .ok (.value v) w') (ha : a.put o.dst v = a') (h : SeqG P md l Q S held rest a' w) : SeqG P md l Q S held ((i, false) :: rest) a w :=
  ⟨seqH_held v (by simpa using ho) hw hy (ha ▸ h.out)⟩
theorem skipL (ho : l[i]? = some o) (hw : Region.wanted o (yielded l.toArray a.tmps) = false)
    (h : SeqG P md l Q S held rest (a.put o.dst undef) w) : SeqG P md l Q S held ((i, false) :: rest) a w :=
  ⟨seqH_skip (by simpa using ho) hw h.out⟩
theorem actSL (ho : l[i]? = some o) (hw : Region.wanted o (yielded l.toArray a.tmps) = true)
    (h : ∀ K : Act → World → Prop, (∀ a' w', S w' → SeqG P md l Q S held rest a' w' → K a' w') → o.wp P a w K Q) : SeqG P md l Q S held ((i, true) :: rest) a w :=
  ⟨seqH_actS (by simpa using ho) hw (fun K hK => h K fun a' w' s h' => hK a' w' s h'.out)⟩
theorem actL (hneed : (needB md l.toArray held i || rest.any fun x => !x.2) = false) (ho : l[i]? = some o) (hw : Region.wanted o (yielded l.toArray a.tmps) = true)
    (h : ∀ K : Act → World → Prop, (∀ a' w', SeqG P md l Q S held rest a' w' → K a' w') → o.wp P a w K Q) : SeqG P md l Q S held ((i, true) :: rest) a w :=
  ⟨seqH_act hneed (by simpa using ho) hw (fun K hK => h K fun a' w' h' => hK a' w' h'.out)⟩
theorem nilL (h : Q .normal a w) : SeqG P md l Q S held [] a w := ⟨h⟩
theorem putL {a' : Act} {v : Value} {d : Option Tmp} {ord : List (Nat × Bool)} (h : SeqG P md l Q S held ord a' w) (e : a.put d v = a') : SeqG P md l Q S held ord (a.put d v) w := e ▸ h
/-- The region, in the order 'ord'. -/
theorem wp_region_ord {id : Nat} (S : World → Prop) (ord : List (Nat × Bool)) (hm : P.follows .mixedOrders = true)
    (hok : (Region.noSelect l.toArray && seqOk .any l.toArray ((ord.filter fun x => !x.2).map (·.1)) ord (Array.replicate l.toArray.size false) && decide (ord.length ≤ l.toArray.size)) = true)
    (hQ : ∀ c a d v w, Q (.panic c) (Act.put a d v) w → Q (.panic c) a w) (hS : S w.drew) (h : SeqG P .any l Q S ((ord.filter fun x => !x.2).map (·.1)) ord a w.drew) : (Code.region id l.toArray true).wp P Q a w :=
  wp_region_seq S ord hm hok hQ hS h.out
theorem seqH_nil (h : Q .normal a w) : seqH P md ops Q S held [] a w := h
end
end
end Go.Proofs.YtblkehdpenfhjaaGreatDoor
/-
  A region that draws its order, walked along a TREE of orders: operations that yield their value in every world that meets S, calls that only read among them ('hd'), and operations that act; where several that act may come up, each has its own branch ('fk').
-/
set_option linter.unusedVariables false
set_option linter.unusedSimpArgs false
namespace Go.Proofs.YtblkehdpenfhjaaGreatDoor
open Go.RowKit
section
variable {P : Program} {ops : Array Oper} {Q : Exit → Act → World → Prop} {md : Region.Mode} {S : World → Prop}

/-- in every world of S the operation yields v, and leaves the world: it may be a call that only reads -/
def YI (P : Program) (ops : Array Oper) (S : World → Prop) (o : Oper) (v : Value) (a : Act) : Prop :=
  (Region.wanted o (yielded ops a.tmps) = true ∧ ∀ w, S w → ((execOp a.eval o).run P w = .ok (.value v) w ∨ ∃ f args, (execOp a.eval o).run P w = .ok (.enter f args) w ∧ Calls P f args w (fun e w'' => e = .returned v ∧ w = w''))) ∨
  (Region.wanted o (yielded ops a.tmps) = false ∧ v = undef)
theorem YI.wpOp {i : Nat} {o : Oper} {v : Value} {a : Act} (hi : ops[i]? = some o) (hy : YI P ops S o v a)
    {K : Act → World → Prop} {w : World} (hS : S w) (h : K (a.put o.dst v) w) : wpOp P ops Q i K a w := by
  unfold Go.wpOp
  simp only [hi]
  rcases hy with ⟨hw, hv⟩ | ⟨hw, rfl⟩
  · rcases hv w hS with hv | ⟨f, args, hv, hc⟩
    · simp only [hw, if_true, Oper.wp, hv, Oper.upon]; exact .inl h
    · simp only [hw, if_true, Oper.wp, hv, Oper.upon]
      exact .inl (hc.mono fun e w'' ⟨he, hw''⟩ => by subst he hw''; exact h)
  · simp only [hw, Bool.false_eq_true, if_false]; exact h
theorem YI.of_same {o : Oper} {v : Value} {a a' : Act} (hy : YI P ops S o v a) (he : execOp a'.eval o = execOp a.eval o)
    (hw : Region.wanted o (yielded ops a'.tmps) = Region.wanted o (yielded ops a.tmps)) : YI P ops S o v a' := by
  unfold YI at *
  rw [he, hw]
  exact hy
theorem wpOp_putYI {j : Nat} {oi oj : Oper} {v : Value} (hj : ops[j]? = some oj) (hap : oi.apart ops oj = true)
    (hsi : ∀ cs b, oi.op ≠ .select cs b) (hsj : ∀ cs b, oj.op ≠ .select cs b)
    (hQ : ∀ c a w, Q (.panic c) (a.put oi.dst v) w → Q (.panic c) a w) {K : Act → World → Prop} {a : Act} {w : World}
    (hy : YI P ops S oi v a) (h : wpOp P ops Q j K (a.put oi.dst v) w) :
    wpOp P ops Q j (fun a' w' => YI P ops S oi v a' ∧ K (a'.put oi.dst v) w') a w := by
  obtain ⟨h1, h2, h3⟩ := Oper.apart_spec hap
  have keep : ∀ (a : Act), YI P ops S oi v a → ∀ u, YI P ops S oi v (a.put oj.dst u) := fun a hy u =>
    hy.of_same (execOp_put oi hsi a oj.dst u h3) (wanted_put oi a oj.dst u h3)
  have keepD : ∀ d, YI P ops S oi v { a with defers := d :: a.defers } := fun d => hy.of_same rfl rfl
  unfold wpOp at *
  simp only [hj] at *
  rw [wanted_put oj a oi.dst v h1] at h
  split
  · rename_i hw
    simp only [hw, if_true] at h
    rcases h with h | ⟨hasks, hlets⟩
    case inr => exact .inr ⟨by unfold Oper.asks at *; rw [execOp_put oj hsj a oi.dst v h1] at hasks; exact hasks, hlets⟩
    refine .inl ?_
    unfold Oper.wp at *
    rw [execOp_put oj hsj a oi.dst v h1] at h
    generalize (execOp a.eval oj).run P w = r at *
    cases r with
    | ok n w' =>
      cases n <;> simp only [Oper.upon] at h ⊢
      case value u => exact ⟨keep a hy u, by rw [← Act.put_comm a v u h2]; exact h⟩
      case skip => exact ⟨keep a hy _, by rw [← Act.put_comm a v undef h2]; exact h⟩
      case defer d =>
        refine ⟨keep _ (keepD d) _, ?_⟩
        rw [← Act.put_comm _ v undef h2, ← Act.put_defers]
        exact h
      case enter f args =>
        refine Calls.mono h fun e w'' he => ?_
        cases e with
        | returned u => exact ⟨keep a hy u, by rw [← Act.put_comm a v u h2]; exact he⟩
        | panicked c => exact hQ _ _ _ he
        | outgrown => exact he
      case row row args => exact Rows.mono h fun u w'' he => ⟨keep a hy u, by rw [← Act.put_comm a v u h2]; exact he⟩
    | halt x w' =>
      cases x <;> simp only [Oper.upon] at h ⊢
      case panic u => exact hQ _ _ _ h
  · rename_i hw
    simp only [hw] at h
    exact ⟨keep a hy _, by rw [← Act.put_comm a v undef h2]; exact h⟩

theorem wpAnyN_firstY {held : List Nat} {i : Nat} {oi : Oper} {v : Value} (hi : ops[i]? = some oi) (hh : i ∈ held) (hsel : ∀ (j : Nat) (o : Oper) cs b, ops[j]? = some o → o.op ≠ .select cs b)
    (hQ : ∀ c a w, Q (.panic c) (a.put oi.dst v) w → Q (.panic c) a w) :
    ∀ (fuel : Nat) (listed : Array Bool) (a : Act) (w : World), closedB md ops listed →
      (∀ j oj, ops[j]? = some oj → j ≠ i → listed.getD j true = false → (∀ e ∈ oj.after, Region.binds md e = true → e.on ≠ i) → oi.apart ops oj = true) →
      i ∈ Region.ready md ops listed → YI P ops S oi v a → S w →
      wpAnyN P md ops Q S held fuel (listed.setIfInBounds i true) (a.put oi.dst v) w → wpAnyN P md ops Q S held (fuel + 1) listed a w := by
  intro fuel
  induction fuel with
  | zero =>
    intro listed a w _ _ hr hy hS H
    refine ⟨fun h => (by rw [h] at hr; cases hr), fun j hj => ?_⟩
    by_cases hji : j = i
    · subst hji; exact hy.wpOp hi hS ⟨fun _ => hS, H⟩
    · have := ready_mono hj hji
      rw [H.1] at this
      cases this
  | succ fuel ih =>
    intro listed a w hcl hfree hr hy hS H
    refine ⟨fun h => (by rw [h] at hr; cases hr), fun j hj => ?_⟩
    by_cases hji : j = i
    · subst hji; exact hy.wpOp hi hS ⟨fun _ => hS, H⟩
    · have h1 := H.2 j (ready_mono hj hji)
      obtain ⟨hjun, oj, hoj, hall⟩ := mem_ready.1 hj
      have hnot : ∀ e ∈ oj.after, Region.binds md e = true → e.on ≠ i := fun e he hb heq => by
        have h1 := hall e he hb
        rw [heq] at h1
        exact listed_conv (mem_ready.1 hr).1 h1
      have hneed : needB md ops held j = true := by
        unfold needB
        refine List.any_eq_true.2 ⟨i, hh, ?_⟩
        cases hre : reachB md ops ops.size j i
        · rfl
        · exact (listed_conv (mem_ready.1 hr).1 (reach_listed hcl _ _ _ (fun o ho e he hb => by
            obtain rfl : o = oj := Option.some.inj (ho.symm.trans hoj)
            exact hall e he hb) hre)).elim
      have h2 := wpOp_putYI hoj (hfree j oj hoj hji hjun hnot) (fun cs b => hsel i oi cs b hi) (fun cs b => hsel j oj cs b hoj) hQ hy h1
      have hfree' : ∀ k ok, ops[k]? = some ok → k ≠ i → (listed.setIfInBounds j true).getD k true = false →
          (∀ e ∈ ok.after, Region.binds md e = true → e.on ≠ i) → oi.apart ops ok = true := fun k ok hk hki hun hno => by
        refine hfree k ok hk hki ?_ hno
        by_cases hjk : j = k
        · subst hjk; exact hjun
        · rw [getD_set_ne true hjk] at hun; exact hun
      refine wpOp_mono (fun a' w' h3 => ⟨h3.2.1, ih (listed.setIfInBounds j true) a' w' (closed_set hcl hj) hfree' (ready_mono hr (Ne.symm hji)) h3.1 (h3.2.1 hneed) ?_⟩) h2
      rw [Array.setIfInBounds_comm _ _ hji]
      exact h3.2.2


/-- a tree of orders -/
inductive OT
  | nil
  | hd (i : Nat) (r : OT)
  | fk (i : Nat) (r : OT) (m : OT)
  | no
def OT.idxs : OT → List Nat
  | .fk i _ m => i :: m.idxs
  | _ => []
def OT.deep : OT → Nat
  | .hd _ r => r.deep + 1
  | .fk _ r m => max (r.deep + 1) m.deep
  | _ => 0
def OT.hasHd : OT → Bool
  | .hd _ _ => true
  | .fk _ r m => r.hasHd || m.hasHd
  | _ => false
def OT.held : OT → List Nat
  | .hd i r => i :: r.held
  | .fk _ r m => r.held ++ m.held
  | _ => []
def seqT (P : Program) (md : Region.Mode) (ops : Array Oper) (Q : Exit → Act → World → Prop) (S : World → Prop) (held : List Nat) : OT → Act → World → Prop
  | .nil, a, w => Q .normal a w
  | .no, _, _ => True
  | .hd i r, a, w => match ops[i]? with
    | none => False
    | some o => ∃ v, YI P ops S o v a ∧ seqT P md ops Q S held r (a.put o.dst v) w
  | .fk i r m, a, w => (match ops[i]? with
    | none => False
    | some o => Region.wanted o (yielded ops a.tmps) = true ∧ o.wp P a w (fun a' w' => (needB md ops held i = true → S w') ∧ (r.hasHd = true → S w') ∧ seqT P md ops Q S held r a' w') Q) ∧ seqT P md ops Q S held m a w
def okT (md : Region.Mode) (ops : Array Oper) (held : List Nat) : Bool → OT → Array Bool → Bool
  | false, .nil, listed => (Region.ready md ops listed).isEmpty
  | true, .nil, _ => false
  | b, .no, _ => b
  | b, .hd i r, listed => !b && held.contains i && Region.free md ops listed i && (Region.ready md ops listed).contains i && okT md ops held false r (listed.setIfInBounds i true)
  | b, .fk i r m, listed => (b || (Region.ready md ops listed == i :: m.idxs)) && okT md ops held false r (listed.setIfInBounds i true) && okT md ops held true m listed
theorem wpAnyN_of_T {held : List Nat} (hs : Region.noSelect ops = true) (hQ : ∀ c a d v w, Q (.panic c) (Act.put a d v) w → Q (.panic c) a w) : ∀ t : OT,
    (∀ (fuel : Nat) (listed : Array Bool) (a : Act) (w : World), closedB md ops listed → okT md ops held false t listed = true → t.deep ≤ fuel → (t.hasHd = true → S w) → seqT P md ops Q S held t a w → wpAnyN P md ops Q S held fuel listed a w) ∧
    (∀ (fuel : Nat) (listed : Array Bool) (a : Act) (w : World), closedB md ops listed → okT md ops held true t listed = true → t.deep ≤ fuel + 1 → seqT P md ops Q S held t a w → ∀ i ∈ t.idxs, i ∈ Region.ready md ops listed → wpOp P ops Q i (fun a' w' => (needB md ops held i = true → S w') ∧ wpAnyN P md ops Q S held fuel (listed.setIfInBounds i true) a' w') a w)
  | .nil => by
    refine ⟨fun fuel listed a w _ hok _ _ h => ?_, fun fuel listed a w _ hok _ _ i hi => by simp [OT.idxs] at hi⟩
    exact wpAnyN_done (by simpa [okT, List.isEmpty_iff] using hok) h fuel
  | .no => by
    refine ⟨fun fuel listed a w _ hok _ _ h => ?_, fun fuel listed a w _ hok _ _ i hi => by simp [OT.idxs] at hi⟩
    simp [okT] at hok
  | .hd i r => by
    refine ⟨fun fuel listed a w hcl hok hl hS h => ?_, fun fuel listed a w _ hok _ _ i hi => by simp [OT.idxs] at hi⟩
    match fuel, hl with
    | 0, hl => simp [OT.deep] at hl
    | fuel + 1, hl =>
      simp only [okT, Bool.and_eq_true] at hok
      simp only [seqT] at h
      have hS' : S w := hS rfl
      have hri : i ∈ Region.ready md ops listed := by simpa using hok.1.2
      cases ho : ops[i]? with
      | none => simp only [ho] at h
      | some o =>
        simp only [ho] at h
        obtain ⟨v, hy, hrest⟩ := h
        exact wpAnyN_firstY ho (by simpa using hok.1.1.1.2) (Region.noSelect_spec hs) (fun c a w hh => hQ c a _ _ w hh) fuel listed a w hcl (Region.free_spec ho hok.1.1.2) hri hy hS'
          ((wpAnyN_of_T hs hQ r).1 fuel _ _ _ (closed_set hcl hri) hok.2 (by simpa [OT.deep] using hl) (fun _ => hS') hrest)
  | .fk i r m => by
    have act : ∀ (fuel : Nat) (listed : Array Bool) (a : Act) (w : World), closedB md ops listed → (b : Bool) → okT md ops held b (.fk i r m) listed = true → (OT.fk i r m).deep ≤ fuel + 1 → seqT P md ops Q S held (.fk i r m) a w → ∀ j ∈ (OT.fk i r m).idxs, j ∈ Region.ready md ops listed → wpOp P ops Q j (fun a' w' => (needB md ops held j = true → S w') ∧ wpAnyN P md ops Q S held fuel (listed.setIfInBounds j true) a' w') a w := by
      intro fuel listed a w hcl b hok hd h j hj hr
      simp only [okT, Bool.and_eq_true] at hok
      simp only [OT.deep, Nat.max_le] at hd
      simp only [OT.idxs, List.mem_cons] at hj
      simp only [seqT] at h
      by_cases hji : j = i
      · subst hji
        have h1 := h.1
        unfold wpOp
        cases ho : ops[j]? with
        | none => simp only [ho] at h1
        | some o =>
          simp only [ho] at h1
          obtain ⟨hw, h1⟩ := h1
          simp only [hw, if_true]
          exact .inl (Oper.wp_mono (fun a' w' ⟨hn, hS', h'⟩ => ⟨hn, (wpAnyN_of_T hs hQ r).1 fuel _ _ _ (closed_set hcl hr) hok.1.2 (by omega) hS' h'⟩) h1)
      · exact (wpAnyN_of_T hs hQ m).2 fuel listed a w hcl hok.2 hd.2 h.2 j (hj.resolve_left hji) hr
    refine ⟨fun fuel listed a w hcl hok hl hS h => ?_, fun fuel listed a w hcl hok hd h => act fuel listed a w hcl true hok hd h⟩
    match fuel, hl with
    | 0, hl => simp [OT.deep] at hl
    | fuel + 1, hl =>
      have hrd : Region.ready md ops listed = i :: m.idxs := by
        simp only [okT, Bool.and_eq_true, Bool.false_or, beq_iff_eq] at hok
        exact hok.1.1
      refine ⟨fun h0 => (by rw [hrd] at h0; cases h0), fun j hj => ?_⟩
      exact act fuel listed a w hcl false hok hl h j (by rw [hrd] at hj; exact hj) hj
/-- the walk along the tree, behind a structure -/
structure TreeG (P : Program) (md : Region.Mode) (l : List Oper) (Q : Exit → Act → World → Prop) (S : World → Prop) (held : List Nat) (t : OT) (a : Act) (w : World) : Prop where
  out : seqT P md l.toArray Q S held t a w
variable {held : List Nat} {l : List Oper} {i : Nat} {o : Oper} {r m : OT} {a : Act} {w : World}
theorem hdT (v : Value) (a' : Act) (ho : l[i]? = some o) (hw : Region.wanted o (yielded l.toArray a.tmps) = true)
    (hy : ∀ w', S w' → (execOp a.eval o).run P w' = .ok (.value v) w') (ha : a.put o.dst v = a') (h : TreeG P md l Q S held r a' w) : TreeG P md l Q S held (.hd i r) a w :=
  ⟨by simp only [seqT, List.getElem?_toArray, ho]; exact ⟨v, .inl ⟨hw, fun w hS => .inl (hy w hS)⟩, ha ▸ h.out⟩⟩
/-- a call that only reads -/
theorem hcT (v : Value) (a' : Act) (f : FuncId) (args : Array Value) (ho : l[i]? = some o) (hw : Region.wanted o (yielded l.toArray a.tmps) = true)
    (hy : ∀ w', S w' → (execOp a.eval o).run P w' = .ok (.enter f args) w') (hc : ∀ w', S w' → Calls P f args w' (fun e w'' => e = .returned v ∧ w' = w'')) (ha : a.put o.dst v = a') (h : TreeG P md l Q S held r a' w) : TreeG P md l Q S held (.hd i r) a w :=
  ⟨by simp only [seqT, List.getElem?_toArray, ho]; exact ⟨v, .inl ⟨hw, fun w hS => .inr ⟨f, args, hy w hS, hc w hS⟩⟩, ha ▸ h.out⟩⟩
theorem skT (ho : l[i]? = some o) (hw : Region.wanted o (yielded l.toArray a.tmps) = false)
    (h : TreeG P md l Q S held r (a.put o.dst undef) w) : TreeG P md l Q S held (.hd i r) a w :=
  ⟨by simp only [seqT, List.getElem?_toArray, ho]; exact ⟨undef, .inr ⟨hw, rfl⟩, h.out⟩⟩
theorem fkT (ho : l[i]? = some o) (hw : Region.wanted o (yielded l.toArray a.tmps) = true)
    (h : ∀ K : Act → World → Prop, (∀ a' w', S w' → TreeG P md l Q S held r a' w' → K a' w') → o.wp P a w K Q) (hm : TreeG P md l Q S held m a w) : TreeG P md l Q S held (.fk i r m) a w :=
  ⟨by
    simp only [seqT, List.getElem?_toArray, ho]
    exact ⟨⟨hw, h _ (fun a' w' hS' h' => ⟨fun _ => hS', fun _ => hS', h'.out⟩)⟩, hm.out⟩⟩
/-- it acts, and nothing held comes behind it -/
theorem fkTn (hneed : (needB md l.toArray held i || r.hasHd) = false) (ho : l[i]? = some o) (hw : Region.wanted o (yielded l.toArray a.tmps) = true)
    (h : ∀ K : Act → World → Prop, (∀ a' w', TreeG P md l Q S held r a' w' → K a' w') → o.wp P a w K Q) (hm : TreeG P md l Q S held m a w) : TreeG P md l Q S held (.fk i r m) a w :=
  ⟨by
    simp only [Bool.or_eq_false_iff] at hneed
    simp only [seqT, List.getElem?_toArray, ho]
    exact ⟨⟨hw, h _ (fun a' w' h' => ⟨fun hn => (by rw [hneed.1] at hn; cases hn), fun hn => (by rw [hneed.2] at hn; cases hn), h'.out⟩)⟩, hm.out⟩⟩
theorem noT : TreeG P md l Q S held .no a w := ⟨trivial⟩
theorem nilT (h : Q .normal a w) : TreeG P md l Q S held .nil a w := ⟨h⟩
theorem wp_region_tree {id : Nat} (S : World → Prop) (t : OT) (hm : P.follows .mixedOrders = true)
    (hok : (Region.noSelect l.toArray && okT .any l.toArray t.held false t (Array.replicate l.toArray.size false) && decide (t.deep ≤ l.toArray.size)) = true)
    (hQ : ∀ c a d v w, Q (.panic c) (Act.put a d v) w → Q (.panic c) a w) (hS : S w.drew) (h : TreeG P .any l Q S t.held t a w.drew) : (Code.region id l.toArray true).wp P Q a w := by
  simp only [Bool.and_eq_true, decide_eq_true_eq] at hok
  exact wp_region_any hm (wpAny_of_N _ _ _ _ ((wpAnyN_of_T hok.1.1 hQ t).1 _ _ _ _ closed_none hok.1.2 hok.2 (fun _ => hS) h.out))

/- the quiet walk: one value an operation, in every world of a class -/
structure QuietG (P : Program) (ops : Array Oper) (C : World → Prop) (Q : Act → Prop) (l : List Oper) (a : Act) : Prop where
  out : wpQuiet P ops C Q l a
variable {C : World → Prop} {Q' : Act → Prop} {rest : List Oper}
theorem valQ (v : Value) (a' : Act) (hw : Region.wanted o (yielded ops a.tmps) = true) (hy : ∀ w', C w' → (execOp a.eval o).run P w' = .ok (.value v) w') (ha : a.put o.dst v = a') (h : QuietG P ops C Q' rest a') : QuietG P ops C Q' (o :: rest) a :=
  ⟨by
    unfold wpQuiet
    rw [if_pos hw]
    exact ⟨v, fun w' hC => by unfold Oper.quietAt; rw [hy w' hC]; exact ⟨rfl, rfl⟩, ha ▸ h.out⟩⟩
theorem callQ (v : Value) (a' : Act) (f : FuncId) (args : Array Value) (hw : Region.wanted o (yielded ops a.tmps) = true) (hy : ∀ w', C w' → (execOp a.eval o).run P w' = .ok (.enter f args) w') (hc : ∀ w', C w' → Calls P f args w' (fun e w'' => e = .returned v ∧ C w'')) (ha : a.put o.dst v = a') (h : QuietG P ops C Q' rest a') : QuietG P ops C Q' (o :: rest) a :=
  ⟨by
    unfold wpQuiet
    rw [if_pos hw]
    exact ⟨v, fun w' hC => by unfold Oper.quietAt; rw [hy w' hC]; exact ⟨rfl, hc w' hC⟩, ha ▸ h.out⟩⟩
theorem skipQ (hw : Region.wanted o (yielded ops a.tmps) = false) (h : QuietG P ops C Q' rest (a.put o.dst undef)) : QuietG P ops C Q' (o :: rest) a :=
  ⟨by
    unfold wpQuiet
    rw [if_neg (by rw [hw]; decide)]
    exact h.out⟩
theorem nilQ (h : Q' a) : QuietG P ops C Q' [] a := ⟨h⟩
theorem wp_region_quietQ {id : Nat} (C : World → Prop) (hm : P.follows .mixedOrders = true) (hB : Region.lexB .any l.toArray = true) (hC : C w.drew)
    (h : QuietG P l.toArray C (fun a' => ∀ w', C w' → Q .normal a' w') l a) : (Code.region id l.toArray true).wp P Q a w :=
  wp_region_quiet (C := C) hm hB hC (by simpa using h.out)
end
end Go.Proofs.YtblkehdpenfhjaaGreatDoor
/-
  Shared words, of no program: what a call may have turned (Turn), a map as a function (MapF), blocks and cells, lists that own their block (Row). No conditions.
-/
set_option linter.unusedVariables false
set_option linter.unusedSimpArgs false
namespace Go.Proofs.YtblkehdpenfhjaaGreatDoor
open Go.RowKit Go.Maps Go.ChangeMaps Go.MapKept

/-- w' is w but for the blocks of F, and new ones -/
structure Turn (F : Nat → Prop) (w w' : World) : Prop where
  os : w'.os = w.os
  tape : w'.tape = w.tape
  output : w'.output = w.output
  size : w.heap.size ≤ w'.heap.size
  block : ∀ k, k < w.heap.size → ¬ F k → w'.heap[k]? = w.heap[k]?
theorem Turn.refl (F : Nat → Prop) (w : World) : Turn F w w := ⟨rfl, rfl, rfl, Nat.le_refl _, fun _ _ _ => rfl⟩
theorem Turn.trans' {F G : Nat → Prop} {a b c : World} (h : Turn F a b) (k : Turn G b c) (hG : ∀ i, G i → F i ∨ a.heap.size ≤ i) : Turn F a c :=
  ⟨k.os.trans h.os, k.tape.trans h.tape, k.output.trans h.output, Nat.le_trans h.size k.size, fun i hi hF => (k.block i (Nat.lt_of_lt_of_le hi h.size) (fun hg => (hG i hg).elim hF (fun h => by omega))).trans (h.block i hi hF)⟩
theorem Turn.mono {F G : Nat → Prop} {a b : World} (h : Turn F a b) (hG : ∀ i, F i → G i ∨ a.heap.size ≤ i) : Turn G a b :=
  ⟨h.os, h.tape, h.output, h.size, fun i hi hg => h.block i hi (fun hf => (hG i hf).elim hg (fun h => by omega))⟩
theorem Turn.trans {F : Nat → Prop} {a b c : World} (h : Turn F a b) (k : Turn F b c) : Turn F a c := h.trans' k fun _ => .inl
theorem Turn.of_below {F : Nat → Prop} {w w' : World} (h : Below w.heap.size w w') : Turn F w w' := ⟨h.os, h.tape, h.output, h.size, fun k hk _ => h.block k hk⟩
theorem Turn.below {B : Nat} {F : Nat → Prop} {w w' : World} (h : Turn F w w') (hB : ∀ k, F k → B ≤ k) (hw : B ≤ w.heap.size) : Below B w w' :=
  ⟨h.os, h.tape, h.output, h.size, fun k hk => h.block k (by omega) (fun hf => by have := hB k hf; omega)⟩
theorem Turn.drew {F : Nat → Prop} {a w : World} (h : Turn F a w) : Turn F a w.drew := ⟨h.os, h.tape, h.output, h.size, h.block⟩
theorem Turn.drewN {F : Nat → Prop} {a w : World} (h : Turn F a w) (n : Nat) : Turn F a (w.drewN n) := ⟨h.os, h.tape, h.output, h.size, h.block⟩
theorem Turn.alloc {F : Nat → Prop} {a w : World} (h : Turn F a w) (o : Obj) : Turn F a (w.alloc o) :=
  ⟨h.os, h.tape, h.output, by have := h.size; simp; omega, fun k hk hF => (Below.heap_alloc w o k (by have := h.size; omega)).trans (h.block k hk hF)⟩
theorem Turn.setCell {F : Nat → Prop} {a w : World} (h : Turn F a w) {p : Addr} (hp : F p.block ∨ a.heap.size ≤ p.block) (u : Value) : Turn F a (w.setCell p u) :=
  ⟨h.os, h.tape, h.output, by have := h.size; simp [World.setCell]; omega, fun k hk hF => (Below.heap_setCell w p u k (by rintro rfl; rcases hp with hp | hp; exact hF hp; omega)).trans (h.block k hk hF)⟩
theorem Turn.grown {F : Nat → Prop} {a w w' : World} {row : Option Nat} (h : Turn F a w) (hg : w.grownBy w' row) (hr : ∀ k, row = some k → F k ∨ a.heap.size ≤ k) : Turn F a w' :=
  ⟨hg.os.trans h.os, hg.tape.trans h.tape, hg.output.trans h.output, Nat.le_trans h.size hg.size, fun k hk hF => (hg.block k (Nat.lt_of_lt_of_le hk h.size) (fun e => (hr k e.symm).elim hF (fun h => by omega))).trans (h.block k hk hF)⟩
theorem Turn.cell {F : Nat → Prop} {w w' : World} (h : Turn F w w') {p : Addr} (hp : p.block < w.heap.size) (hF : ¬ F p.block) : w'.cell? p = w.cell? p := World.cell?_of_block (w := w) (h.block p.block hp hF)
theorem Turn.frozen {F : Nat → Prop} {w w' : World} (h : Turn F w w') {p : Addr} (hp : p.block < w.heap.size) (hF : ¬ F p.block) : w'.frozen? p = w.frozen? p := World.frozen?_of_block (w := w) (h.block p.block hp hF)

/-- blocks and cells -/
theorem block_lt {w : World} {b : Nat} {o : Obj} (h : w.heap[b]? = some o) : b < w.heap.size := (Array.getElem?_eq_some_iff.1 h).1
theorem block_setCell {w : World} {b off : Nat} {c : Array Value} {t : TypeId} (h : w.heap[b]? = some (.cells c t (0, 0))) (v : Value) :
    (w.setCell ⟨b, off, none⟩ v).heap[b]? = some (.cells (c.setIfInBounds off v) t (0, 0)) := by
  unfold World.setCell
  simp [Array.getElem?_modify, h]
theorem block_other {w : World} {b b' off : Nat} (hne : b' ≠ b) (v : Value) : (w.setCell ⟨b', off, none⟩ v).heap[b]? = w.heap[b]? := by
  unfold World.setCell
  simp [Array.getElem?_modify, hne]
theorem cell_of_block {w : World} {b off : Nat} {c : Array Value} {t : TypeId} (h : w.heap[b]? = some (.cells c t (0, 0))) (ho : off < c.size) : w.cell? ⟨b, off, none⟩ = some c[off] := by
  simp [World.cell?, h, ho]
theorem frozen_of_block {w : World} {b off : Nat} {c : Array Value} {t : TypeId} (h : w.heap[b]? = some (.cells c t (0, 0))) : w.frozen? ⟨b, off, none⟩ = false := by
  simp [World.frozen?, h]
theorem heap_alloc_keep {w : World} {b : Nat} {o : Obj} (h : w.heap[b]? = some o) (o' : Obj) : (w.alloc o').heap[b]? = some o := by
  rw [Below.heap_alloc w o' b (block_lt h)]; exact h

/-- two pointers compared -/
theorem run_neq_ptr_same {P : Program} (w : World) {tp te : TypeId} {j : TypeInfo} (a : Addr) (hp : P.underlying tp = some (.pointer te)) (hte : P.info? te = some j) :
    (binOp .neq tp (.pointer (some a)) (.pointer (some a))).run P w = .ok (.bool false) w := by
  have h : ∀ d : Nat, (Op.equalIn (d + 1) tp (.pointer (some a)) (.pointer (some a))).run P w = .ok true w := fun d => by
    simp [Op.equalIn, run_underlying hp, sizeOf, typeInfo, hte, run_sameAddr_same]
  simp only [binOp]
  simp [Op.equal, Op.maxDepth, h 9999]
theorem run_neq_ptr_other {P : Program} (w : World) {tp te : TypeId} {j : TypeInfo} {a b : Addr} {ca cb : Array Value} {ta tb : TypeId} (hp : P.underlying tp = some (.pointer te)) (hte : P.info? te = some j) (hsz : j.size ≠ 0)
    (hne : a ≠ b) (ha : w.heap[a.block]? = some (.cells ca ta (0, 0))) (hb : w.heap[b.block]? = some (.cells cb tb (0, 0))) :
    (binOp .neq tp (.pointer (some a)) (.pointer (some b))).run P w = .ok (.bool true) w := by
  have h : ∀ d : Nat, (Op.equalIn (d + 1) tp (.pointer (some a)) (.pointer (some b))).run P w = .ok false w := fun d => by
    simp [Op.equalIn, run_underlying hp, sizeOf, typeInfo, hte, hsz, run_sameAddr_other w hne ha hb]
  simp only [binOp]
  simp [Op.equal, Op.maxDepth, h 9999]
/-- a map's element reads as itself -/
def tok (v : Value) : Option (DataW Value × List MemPlace) := some (.held v, [])
/-- block b is a map with keys of type k; f: what stands under a key; n: how many -/
def MapF (P : Program) (k : TypeId) (w : World) (b : Nat) (f : Lit → Option Value) (n : Nat) : Prop :=
  ∃ D : DataW Value, w.ownsMap P k tok b n D ∧ Maps.size D = n ∧ (∀ l, Maps.has D l = (f l).isSome) ∧ ∀ l v, f l = some v → ∀ z, D.atKey l z = .held v
variable {P : Program} {k e t : TypeId} {w w' : World} {b n : Nat} {f : Lit → Option Value}
theorem MapF.lt (h : MapF P k w b f n) : b < w.heap.size := by obtain ⟨D, h1, _⟩ := h; exact h1.lt
theorem MapF.keep (h : MapF P k w b f n) (he : w'.heap[b]? = w.heap[b]?) : MapF P k w' b f n := by
  obtain ⟨D, ⟨es, clock, hb, rest⟩, h2⟩ := h
  exact ⟨D, ⟨es, clock, he.trans hb, rest⟩, h2⟩
theorem MapF.ext (h : MapF P k w b f n) {g : Lit → Option Value} (hg : ∀ l, f l = g l) : MapF P k w b g n := by
  obtain rfl : f = g := funext hg
  exact h
theorem MapF.made (P : Program) (k : TypeId) (w : World) : MapF P k (w.alloc (.map #[] 0)) w.heap.size (fun _ => none) 0 :=
  ⟨.map [], World.ownsMap_made w P k tok, rfl, fun _ => rfl, fun _ _ h => by cases h⟩
theorem MapF.look (h : MapF P k w b f n) (K : Keyed P k) (ht : P.underlying t = some (.map k e)) {z : Value} (hz : (zeroValue e).run P w = .ok z w) {key : Value} {kl : Lit} (hkey : keyOf P k key = some kl) :
    (Instr.lookup t (.map (some b)) key true).run P w = .ok (.tuple #[(f kl).getD z, .bool (f kl).isSome]) w := by
  obtain ⟨D, h1, _, h3, h4⟩ := h
  obtain ⟨v, ps, hrun, hR⟩ := h1.look_ok K ht hz (zd := .held z) (zp := []) rfl hkey
  rw [hrun, h3 kl]
  have e1 : DataW.held v = D.atKey kl (.held z) := by
    simp only [tok, Option.some.injEq, Prod.mk.injEq] at hR; exact hR.1
  cases hf : f kl with
  | some u =>
    rw [h4 kl u hf] at e1
    injection e1 with e1
    rw [e1]; rfl
  | none =>
    have h5 := h3 kl
    rw [hf] at h5
    rw [Maps.atKey_of_not_has h5] at e1
    injection e1 with e1
    rw [e1]; rfl
theorem MapF.look1 (h : MapF P k w b f n) (K : Keyed P k) (ht : P.underlying t = some (.map k e)) {z : Value} (hz : (zeroValue e).run P w = .ok z w) {key : Value} {kl : Lit} (hkey : keyOf P k key = some kl) :
    (Instr.lookup t (.map (some b)) key false).run P w = .ok ((f kl).getD z) w := by
  obtain ⟨D, h1, _, h3, h4⟩ := h
  obtain ⟨v, ps, hrun, hR⟩ := h1.lookup K ht hz (zd := .held z) (zp := []) rfl hkey
  rw [hrun]
  have e1 : DataW.held v = D.atKey kl (.held z) := by
    simp only [tok, Option.some.injEq, Prod.mk.injEq] at hR; exact hR.1
  cases hf : f kl with
  | some u =>
    rw [h4 kl u hf] at e1
    injection e1 with e1
    rw [e1]; rfl
  | none =>
    have h5 := h3 kl
    rw [hf] at h5
    rw [Maps.atKey_of_not_has h5] at e1
    injection e1 with e1
    rw [e1]; rfl
open Classical in
noncomputable def updF (f : Lit → Option Value) (kl : Lit) (v : Option Value) : Lit → Option Value := fun l => if l = kl then v else f l
theorem updF_same (f : Lit → Option Value) (kl : Lit) (v : Option Value) : updF f kl v kl = v := if_pos rfl
theorem updF_other (f : Lit → Option Value) {kl l : Lit} (v : Option Value) (h : l ≠ kl) : updF f kl v l = f l := if_neg h
/-- how many there are behind a store, behind a delete -/
def grow (o : Option Value) (n : Nat) : Nat := if o.isSome then n else n + 1
def less (o : Option Value) (n : Nat) : Nat := if o.isSome then n - 1 else n
theorem MapF.shrink {D : DataW Value} {m : Nat} (h : w.ownsMap P k tok b m D) : w.ownsMap P k tok b (Maps.size D) D := by
  obtain ⟨es, clock, hb, F, hs, rfl⟩ := h
  exact ⟨es, clock, hb, F, by simp [Maps.size, length_sorted], rfl⟩
theorem MapF.store (h : MapF P k w b f n) (K : Keyed P k) (ht : P.underlying t = some (.map k e)) (hn : n < maxLen) {key val : Value} {kl : Lit} (hkey : keyOf P k key = some kl) :
    ∃ w', (Instr.mapUpdate t (.map (some b)) key val).run P w = .ok () w' ∧ MapF P k w' b (updF f kl (some val)) (grow (f kl) n) ∧ w.mapTurned w' b := by
  obtain ⟨D, h1, h2, h3, h4⟩ := h
  obtain ⟨w', hrun, ho, hturn⟩ := h1.store K ht hn hkey (val := val) (d := .held val) (ps := []) rfl
  have hT := h1.tidy K
  have hM := h1.isMap
  have hk := K.key hkey
  refine ⟨w', hrun, ⟨D.put kl (.held val), ?_, ?_, fun l => ?_, fun l v hl z => ?_⟩, hturn⟩
  · have := MapF.shrink ho
    rwa [Maps.size_put hT, h3 kl, h2] at this
  · rw [Maps.size_put hT, h3 kl, h2]; rfl
  · by_cases hl : l = kl
    · subst hl; rw [updF_same, Maps.has_put_same hM hk]; rfl
    · rw [updF_other _ _ hl, Maps.has_put_other hl, h3]
  · by_cases hl' : l = kl
    · subst hl'; rw [updF_same] at hl; injection hl with hl; subst hl; exact Maps.atKey_put_same hM hk _ z
    · rw [updF_other _ _ hl'] at hl; rw [Maps.atKey_put_other hl']; exact h4 l v hl z
theorem MapF.len (h : MapF P k w b f n) (ht : P.underlying t = some (.map k e)) (ty : TypeId) : (Builtin.len_ #[t] ty #[.map (some b)]).run P w = .ok (.int .i64 n) w := by
  obtain ⟨D, h1, h2, _⟩ := h
  rw [h1.len ht ty, h2]
theorem MapF.drop (h : MapF P k w b f n) (K : Keyed P k) (ht : P.underlying t = some (.map k e)) {key : Value} {kl : Lit} (hkey : keyOf P k key = some kl) (ty : TypeId) :
    ∃ w', (Builtin.delete_ #[t, k] ty #[.map (some b), key]).run P w = .ok (.tuple #[]) w' ∧ MapF P k w' b (updF f kl none) (less (f kl) n) ∧ w.mapTurned w' b := by
  obtain ⟨D, h1, h2, h3, h4⟩ := h
  obtain ⟨w', hrun, ho, hturn⟩ := h1.drop K ht hkey ty
  have hT := h1.tidy K
  have hs := Maps.size_del (k := kl) hT
  rw [h3 kl, h2] at hs
  have hs2 : Maps.size (D.del kl) = less (f kl) n := by
    unfold less
    split <;> rename_i hh <;> simp [hh] at hs <;> omega
  refine ⟨w', hrun, ⟨D.del kl, ?_, hs2, fun l => ?_, fun l v hl z => ?_⟩, hturn⟩
  · have := MapF.shrink ho
    rwa [hs2] at this
  · by_cases hl : l = kl
    · subst hl; rw [updF_same, Maps.has_del_same]; rfl
    · rw [updF_other _ _ hl, Maps.has_del_other hl, h3]
  · by_cases hl' : l = kl
    · subst hl'; rw [updF_same] at hl; cases hl
    · rw [updF_other _ _ hl'] at hl; rw [Maps.atKey_del_other hl']; exact h4 l v hl z
theorem mapTurned_other (h : w.mapTurned w' b) {i : Nat} (hi : i ≠ b) : w'.heap[i]? = w.heap[i]? := by
  obtain ⟨es, clock, es', clock', hb, rfl⟩ := h
  exact heap_setBlock_other hb _ hi
theorem mapTurned_size (h : w.mapTurned w' b) : w'.heap.size = w.heap.size := by
  obtain ⟨es, clock, es', clock', hb, rfl⟩ := h
  simp [setBlock]
theorem Turn.map {F : Nat → Prop} {a : World} (h : Turn F a w) (hm : w.mapTurned w' b) (hb : F b ∨ a.heap.size ≤ b) : Turn F a w' :=
  h.grown hm.grown fun k hk => by injection hk with hk; subst hk; exact hb
theorem MapF.clear (h : MapF P k w b f n) (ht : P.underlying t = some (.map k e)) (ty : TypeId) :
    ∃ w', (Builtin.clear_ #[t] ty #[.map (some b)]).run P w = .ok (.tuple #[]) w' ∧ MapF P k w' b (fun _ => none) 0 ∧ w.mapTurned w' b := by
  obtain ⟨D, ⟨es, clock, hb, F, hs, hD⟩, _⟩ := h
  refine ⟨setBlock w b (.map #[] clock), ?_, ⟨.map [], ⟨#[], clock, heap_setBlock_same hb _, ⟨by simp, stamped_empty clock, by simp⟩, Nat.le_refl _, rfl⟩, rfl, fun _ => rfl, fun _ _ h => by cases h⟩, ⟨es, clock, #[], clock, hb, rfl⟩⟩
  simp [Builtin.clear_, run_underlying ht, MapKept.run_getObj_map hb, MapKept.run_setObj_map _ hb, Result.andThen, setBlock]
section
variable {ops : Array Oper} {rest : List Oper} {o : Oper} {a : Act} {Q : Exit → Act → World → Prop}
theorem wpList_mapF_store (hg : o.guard = none) (m x v : Operand) (t : TypeId) (hop : o.op = Op.mapUpdate t m x v)
    (k e : TypeId) (K : Keyed P k) (ht : P.underlying t = some (.map k e)) (b n : Nat) (f : Lit → Option Value)
    (hm : a.eval m = .map (some b)) (hown : MapF P k w b f n) (hn : n < maxLen) (key val : Value) (kl : Lit) (hx : a.eval x = key) (hv : a.eval v = val) (hkey : keyOf P k key = some kl)
    (hK : ∀ w', MapF P k w' b (updF f kl (some val)) (grow (f kl) n) → w.mapTurned w' b → wpList P ops Q rest (a.put o.dst undef) w') :
    wpList P ops Q (o :: rest) a w := by
  refine wpList_plain hg fun K' hK' => ?_
  obtain ⟨w', hrun, r1, r2⟩ := hown.store K ht hn hkey (val := val)
  unfold Oper.wp
  simp [execOp, hop, hm, hx, hv, hrun, Result.andThen]
  exact hK' _ _ (hK w' r1 r2)
theorem wpList_mapF_delete (hg : o.guard = none) (m x : Operand) (t k : TypeId) (hop : o.op = Op.call { callee := Callee.builtin Builtin.delete, args := #[m, x], argTypes := #[t, k] })
    (e : TypeId) (K : Keyed P k) (ht : P.underlying t = some (.map k e)) (b n : Nat) (f : Lit → Option Value)
    (hm : a.eval m = .map (some b)) (hown : MapF P k w b f n) (key : Value) (kl : Lit) (hx : a.eval x = key) (hkey : keyOf P k key = some kl)
    (hK : ∀ w', MapF P k w' b (updF f kl none) (less (f kl) n) → w.mapTurned w' b → wpList P ops Q rest (a.put o.dst (.tuple #[])) w') :
    wpList P ops Q (o :: rest) a w := by
  refine wpList_plain hg fun K' hK' => ?_
  obtain ⟨w', hrun, r1, r2⟩ := hown.drop K ht hkey o.type
  unfold Oper.wp
  simp [execOp, hop, resolve, invoke, builtin, hm, hx, hrun, Result.andThen]
  exact hK' _ _ (hK w' r1 r2)
theorem wp_mapF_delete (m x : Operand) (t k : TypeId) (hop : o.op = Op.call { callee := Callee.builtin Builtin.delete, args := #[m, x], argTypes := #[t, k] })
    (e : TypeId) (K : Keyed P k) (ht : P.underlying t = some (.map k e)) (b n : Nat) (f : Lit → Option Value)
    (hm : a.eval m = .map (some b)) (hown : MapF P k w b f n) (key : Value) (kl : Lit) (hx : a.eval x = key) (hkey : keyOf P k key = some kl) {K' : Act → World → Prop}
    (hK : ∀ w', MapF P k w' b (updF f kl none) (less (f kl) n) → w.mapTurned w' b → K' (a.put o.dst (.tuple #[])) w') :
    o.wp P a w K' Q := by
  obtain ⟨w', hrun, r1, r2⟩ := hown.drop K ht hkey o.type
  unfold Oper.wp
  simp [execOp, hop, resolve, invoke, builtin, hm, hx, hrun, Result.andThen]
  exact hK w' r1 r2
theorem wpList_mapF_clear (hg : o.guard = none) (m : Operand) (t : TypeId) (hop : o.op = Op.call { callee := Callee.builtin Builtin.clear, args := #[m], argTypes := #[t] })
    (k e : TypeId) (ht : P.underlying t = some (.map k e)) (b n : Nat) (f : Lit → Option Value) (hm : a.eval m = .map (some b)) (hown : MapF P k w b f n)
    (hK : ∀ w', MapF P k w' b (fun _ => none) 0 → w.mapTurned w' b → wpList P ops Q rest (a.put o.dst (.tuple #[])) w') :
    wpList P ops Q (o :: rest) a w := by
  refine wpList_plain hg fun K' hK' => ?_
  obtain ⟨w', hrun, r1, r2⟩ := hown.clear ht o.type
  unfold Oper.wp
  simp [execOp, hop, resolve, invoke, builtin, hm, hrun, Result.andThen]
  exact hK' _ _ (hK w' r1 r2)
end

/-- v is a slice that reads as us (one cell each); its block (if there is anything in it) is one of B -/
def SlIn (w : World) (v : Value) (us : List Value) (B : Nat → Prop) : Prop :=
  ∃ A cap, v = .slice A us.length cap ∧ us.length ≤ cap ∧ (0 < us.length → ∃ b o, A = some ⟨b, o, none⟩ ∧ b < w.heap.size ∧ B b ∧ ∀ i (h : i < us.length), w.cell? ⟨b, o + i, none⟩ = some us[i])
section
variable {w w' : World} {v : Value} {us : List Value} {B B' fp fp' : Nat → Prop}
theorem SlIn.mono (h : SlIn w v us B) (hB : ∀ b, b < w.heap.size → B b → B' b) : SlIn w v us B' := by
  obtain ⟨A, cap, rfl, hc, h⟩ := h
  exact ⟨A, cap, rfl, hc, fun hp => by obtain ⟨b, o, h1, h2, h3, h4⟩ := h hp; exact ⟨b, o, h1, h2, hB b h2 h3, h4⟩⟩
theorem SlIn.keep (h : SlIn w v us B) (hs : w.heap.size ≤ w'.heap.size) (hk : ∀ b, b < w.heap.size → B b → w'.heap[b]? = w.heap[b]?) : SlIn w' v us B := by
  obtain ⟨A, cap, rfl, hc, h⟩ := h
  refine ⟨A, cap, rfl, hc, fun hp => ?_⟩
  obtain ⟨b, o, h1, h2, h3, h4⟩ := h hp
  exact ⟨b, o, h1, by omega, h3, fun i hi => (World.cell?_of_block (w := w) (hk b h2 h3)).trans (h4 i hi)⟩
theorem SlIn.below (h : SlIn w v us B) (hb : Below w.heap.size w w') : SlIn w' v us B := h.keep hb.size fun b hb' _ => hb.block b hb'
theorem SlIn.turn (h : SlIn w v us fun b => ¬ fp b) (ht : Turn fp w w') (hf : ∀ b, fp' b → fp b ∨ w.heap.size ≤ b) : SlIn w' v us fun b => ¬ fp' b :=
  ((h.mono (B' := fun b => ¬ fp b ∧ b < w.heap.size) fun b hb h => ⟨h, hb⟩).keep ht.size fun b hb h => ht.block b hb h.1).mono fun b _ h hf' => (hf b hf').elim h.1 (fun h2 => by omega)
theorem SlIn.of_own {e n base : Nat} (h : w.ownsRow base e 1 v n us) : SlIn w v us (base ≤ ·) := by
  have hl : us.length = n := by have := h.1; omega
  rcases h.2 with ⟨rfl, h0⟩ | ⟨g, cap, cur, rfl, hB, hg, hn, hm, hs, ht⟩
  · exact ⟨none, 0, by rw [hl, h0], by omega, fun h => by omega⟩
  · refine ⟨some ⟨g, 0, none⟩, cap, by rw [hl], by omega, fun _ => ⟨g, 0, rfl, block_lt hg, hB, fun i hi => ?_⟩⟩
    have := World.ownsRow.cells (g := g) h rfl i us[i] (by simp [hi])
    rw [Addr.add_lit] at this
    exact this
theorem SlIn.nil (B : Nat → Prop) : SlIn w (.slice none 0 0) [] B := ⟨none, 0, rfl, Nat.le_refl _, fun h => by simp at h⟩
theorem SlIn.drewN (h : SlIn w v us B) (k : Nat) : SlIn (w.drewN k) v us B := h
/-- the first m of them -/
theorem SlIn.take (h : SlIn w v us B) {A : Option Addr} {cap n : Nat} (hv : v = .slice A n cap) {m : Nat} (hm : m ≤ us.length) : SlIn w (.slice A m cap) (us.take m) B := by
  obtain ⟨A', cap', rfl, hc, h⟩ := h
  injection hv with e1 e2 e3
  subst e1 e3
  have hl : (us.take m).length = m := by rw [List.length_take]; omega
  refine ⟨A', cap', by rw [hl], by omega, fun hp => ?_⟩
  obtain ⟨b, o, h1, h2, h3, h4⟩ := h (by omega)
  refine ⟨b, o, h1, h2, h3, fun i hi => ?_⟩
  rw [h4 i (by omega), List.getElem_take]
end

/-- v is nil, or a list of cells from the beginning of a block on, one of F -/
def Row (e : TypeId) (w : World) (v : Value) (us : List Value) (F : Nat → Prop) : Prop :=
  (v = .slice none 0 0 ∧ us = []) ∨ ∃ g cap cur, v = .slice (some ⟨g, 0, none⟩) us.length cap ∧ F g ∧ w.heap[g]? = some (.cells cur e (0, 0)) ∧ us.length ≤ cap ∧ cap ≤ maxLen ∧ cur.size = cap ∧ cur.toList.take us.length = us
section
variable {P : Program} {e t : TypeId} {w w' : World} {v : Value} {us news : List Value} {F G : Nat → Prop}
theorem Row.nil : Row e w (.slice none 0 0) [] F := .inl ⟨rfl, rfl⟩
theorem Row.of_own {B n : Nat} (h : w.ownsRow B e 1 v n us) : Row e w v us (fun b => B ≤ b ∧ b < w.heap.size) := by
  have hl : us.length = n := by have := h.1; omega
  rcases h.2 with ⟨rfl, h0⟩ | ⟨g, cap, cur, rfl, hB, hg, hn, hm, hs, ht⟩
  · exact .inl ⟨rfl, List.eq_nil_of_length_eq_zero (by omega)⟩
  · exact .inr ⟨g, cap, cur, by rw [hl], ⟨hB, block_lt hg⟩, hg, by omega, hm, by omega, by rw [Nat.mul_one] at ht; rw [hl]; exact ht⟩
theorem Row.mono (h : Row e w v us F) (hF : ∀ b, b < w.heap.size → F b → G b) : Row e w v us G := by
  rcases h with h | ⟨g, cap, cur, h1, h2, h3, h4⟩
  · exact .inl h
  · exact .inr ⟨g, cap, cur, h1, hF g (block_lt h3) h2, h3, h4⟩
theorem Row.keep (h : Row e w v us F) (hk : ∀ b, b < w.heap.size → F b → w'.heap[b]? = w.heap[b]?) : Row e w' v us F := by
  rcases h with h | ⟨g, cap, cur, h1, h2, h3, h4⟩
  · exact .inl h
  · exact .inr ⟨g, cap, cur, h1, h2, (hk g (block_lt h3) h2).trans h3, h4⟩
theorem Row.here (h : Row e w v us F) : Row e w v us (fun b => F b ∧ b < w.heap.size) := by
  rcases h with h | ⟨g, cap, cur, h1, h2, h3, h4⟩
  · exact .inl h
  · exact .inr ⟨g, cap, cur, h1, ⟨h2, block_lt h3⟩, h3, h4⟩
theorem Row.turn (h : Row e w v us F) (ht : Turn G w w') (hd : ∀ b, F b → ¬ G b) : Row e w' v us F := h.keep fun b hb hF => ht.block b hb (hd b hF)
theorem Row.slin (h : Row e w v us F) : SlIn w v us F := by
  rcases h with ⟨rfl, rfl⟩ | ⟨g, cap, cur, rfl, h2, h3, h4, h5, h6, h7⟩
  · exact SlIn.nil _
  · refine ⟨some ⟨g, 0, none⟩, cap, rfl, h4, fun _ => ⟨g, 0, rfl, block_lt h3, h2, fun i hi => ?_⟩⟩
    rw [Nat.zero_add, cell_of_block h3 (by omega)]
    congr 1
    have h8 : us[i]? = cur.toList[i]? := by
      conv => lhs; rw [← h7]
      rw [List.getElem?_take, if_pos hi]
    rw [List.getElem?_eq_getElem hi, List.getElem?_eq_getElem (by simp; omega)] at h8
    injection h8 with h8
    rw [h8]; simp
/-- a place of a list that is written: what is there, and what is left behind -/
theorem Row.place (h : Row e w v us F) {i : Nat} (hi : i < us.length) : ∃ g cap, v = .slice (some ⟨g, 0, none⟩) us.length cap ∧ F g ∧ g < w.heap.size ∧ w.cell? ⟨g, i, none⟩ = some us[i] ∧ w.frozen? ⟨g, i, none⟩ = false ∧
    ∀ u, Row e (w.setCell ⟨g, i, none⟩ u) v (us.set i u) F ∧ Turn (fun b => b = g) w (w.setCell ⟨g, i, none⟩ u) := by
  have hs := h.slin
  rcases h with ⟨rfl, rfl⟩ | ⟨g, cap, cur, rfl, h2, h3, h4, h5, h6, h7⟩
  · simp at hi
  · refine ⟨g, cap, rfl, h2, block_lt h3, ?_, frozen_of_block h3, fun u => ⟨.inr ⟨g, cap, cur.setIfInBounds i u, by rw [List.length_set], h2, block_setCell h3 u, by rw [List.length_set]; exact h4, h5, by simpa using h6, ?_⟩, (Turn.refl (fun b => b = g) w).setCell (p := ⟨g, i, none⟩) (.inl rfl) u⟩⟩
    · obtain ⟨A, c, e1, _, e3⟩ := hs
      obtain ⟨b, o, e4, _, _, e6⟩ := e3 (by omega)
      injection e1 with e1 _ _
      rw [e4] at e1
      injection e1 with e1
      injection e1 with e1 e2
      have := e6 i hi
      rw [← e1, ← e2, Nat.zero_add] at this
      exact this
    · rw [Array.toList_setIfInBounds, List.length_set, List.take_set, h7]
theorem setCells_block (b : Nat) : ∀ (vs : List Value) (o : Nat) (w : World) (cur : Array Value), w.heap[b]? = some (.cells cur e (0, 0)) → o + vs.length ≤ cur.size →
    ∃ cur', (w.setCells b o vs).heap[b]? = some (.cells cur' e (0, 0)) ∧ cur'.size = cur.size ∧ cur'.toList.take (o + vs.length) = cur.toList.take o ++ vs
  | [], o, w, cur, h, _ => ⟨cur, h, rfl, by simp⟩
  | v :: r, o, w, cur, h, hs => by
    rw [List.length_cons] at hs
    obtain ⟨cur', h1, h2, h3⟩ := setCells_block b r (o + 1) (w.setCell ⟨b, o, none⟩ v) (cur.setIfInBounds o v) (block_setCell h v) (by simp; omega)
    refine ⟨cur', h1, by simpa using h2, ?_⟩
    rw [List.length_cons, show o + (r.length + 1) = o + 1 + r.length by omega, h3, Array.toList_setIfInBounds]
    rw [List.take_succ_eq_append_getElem (by simp; omega), List.getElem_set_self, List.take_set_of_le (Nat.le_refl _)]
    simp
theorem setCells_turn (b : Nat) : ∀ (vs : List Value) (o : Nat) (w : World), Turn (fun k => k = b) w (w.setCells b o vs)
  | [], _, w => Turn.refl _ _
  | v :: r, o, w => ((Turn.refl (fun k => k = b) w).setCell (p := ⟨b, o, none⟩) (.inl rfl) v).trans (setCells_turn b r (o + 1) _)
/-- append: the new list, the old one, and what has turned -/
theorem run_append_row (ty : TypeId) (i : TypeInfo) (z : Value) (bytes : Nat) (ht : P.underlying t = some (.slice e)) (hi : P.info? e = some i) (hz : i.zero = some z) (hsize : i.size = 1) (hby : i.bytes = bytes) (hzs : z.cells.size = 1)
    (H : Row e w v us F) (ad : Addr) (m c : Nat) (hl : news.length = m) (hnews : ∀ j u, news[j]? = some u → w.cell? (ad.add j) = some u) (h1 : ∀ u ∈ news, u.oneCell' = true)
    (hm : 0 < m) (h63 : us.length + m ≤ maxLen) (hbytes : (us.length + m) * bytes ≤ 140737488355328) :
    ∃ v' w', (Builtin.append_ #[t, t] ty #[v, .slice (some ad) m c]).run P w = .ok v' w' ∧ Row e w' v' (us ++ news) (fun b => F b ∨ w.heap.size ≤ b) ∧ Turn F w w' ∧ (∀ b o, b < w.heap.size → (F b → o < us.length) → w'.cell? ⟨b, o, none⟩ = w.cell? ⟨b, o, none⟩) := by
  have hS := H.slin
  rcases H with ⟨rfl, rfl⟩ | ⟨g, cap, cur, rfl, h2, h3, h4, h5, h6, h7⟩
  · obtain ⟨v', w', hrun, r1, r2, _⟩ := run_append_own (P := P) w w.heap.size t ty e i z 1 bytes ht hi hz hsize hby hzs (by decide) (.slice none 0 0) 0 [] (World.ownsRow_nil w _ e 1) ad m c news (by omega) hnews h1 (by simpa using h63) (by simpa using hbytes) (Nat.le_refl _)
    have ht2 : Turn (fun _ => False) w w' := (Turn.refl _ w).grown r2 (fun k hk => by cases hk)
    exact ⟨v', w', hrun, (Row.of_own r1).mono fun b _ hb => .inr hb.1, ht2.mono (fun i hi => hi.elim), fun b o hb _ => ht2.cell (p := ⟨b, o, none⟩) hb (fun h => h)⟩
  · by_cases hr : us.length + m ≤ cap
    · have hrun := run_append_room_cells (P := P) w t ty e i ht hi g 0 us.length cap ad m c news (by rw [hsize]; omega) hnews h1 hr
        (fun j hj => by rw [hsize, cell_of_block h3 (by omega)]; rfl) (fun j hj => frozen_of_block h3)
      rw [hsize, Nat.mul_one, Nat.zero_add] at hrun
      obtain ⟨cur', q1, q2, q3⟩ := setCells_block g news us.length w cur h3 (by omega)
      have ht2 := setCells_turn g news us.length w
      refine ⟨_, _, hrun, .inr ⟨g, cap, cur', by rw [List.length_append, hl], .inl h2, q1, by rw [List.length_append, hl]; exact hr, h5, by omega, by rw [List.length_append, q3, h7]⟩, ht2.mono fun i hi => .inl (by rw [hi]; exact h2), fun b o hb hF => ?_⟩
      refine World.cell?_setCells_out g news us.length w ⟨b, o, none⟩ (fun e1 _ => .inl (hF (by rw [show b = g from e1]; exact h2)))
    · have holds : ∀ j u, us[j]? = some u → w.cell? ((⟨g, 0, none⟩ : Addr).add j) = some u := fun j u hu => by
        obtain ⟨hj, e1⟩ := List.getElem?_eq_some_iff.1 hu
        obtain ⟨A, c, e1', _, e3⟩ := hS
        obtain ⟨b, o, e4, _, _, e6⟩ := e3 (by omega)
        injection e1' with e1' _ _
        rw [e4] at e1'
        injection e1' with e1'
        injection e1' with e5 e7
        rw [Addr.add_lit, e5, e7, e6 j hj, e1]
      obtain ⟨v', w', hrun, r1, r2⟩ := run_append_arg_grows (P := P) w t ty e i z 1 bytes ht hi hz hsize hby hzs (by decide) ⟨g, 0, none⟩ us.length cap us (by omega) holds ad m c news (by omega) hnews (by omega) h63 hbytes
      have ht2 : Turn (fun _ => False) w w' := (Turn.refl _ w).grown r2 (fun k hk => by cases hk)
      exact ⟨v', w', hrun, (Row.of_own r1).mono fun b _ hb => .inr hb.1, ht2.mono (fun i hi => hi.elim), fun b o hb _ => ht2.cell (p := ⟨b, o, none⟩) hb (fun h => h)⟩
theorem wp_append_row {o : Oper} {a : Act} {K : Act → World → Prop} {Q : Exit → Act → World → Prop} (s x : Operand)
    (ho : o.op = .call { callee := .builtin .append, args := #[s, x], argTypes := #[t, t] })
    (i : TypeInfo) (z : Value) (bytes : Nat) (ht : P.underlying t = some (.slice e)) (hi : P.info? e = some i) (hz : i.zero = some z) (hsize : i.size = 1) (hby : i.bytes = bytes) (hzs : z.cells.size = 1)
    (hs : a.eval s = v) (H : Row e w v us F) (ad : Addr) (m c : Nat) (hx : a.eval x = .slice (some ad) m c) (hl : news.length = m) (hnews : ∀ j u, news[j]? = some u → w.cell? (ad.add j) = some u) (h1 : ∀ u ∈ news, u.oneCell' = true)
    (hm : 0 < m) (h63 : us.length + m ≤ maxLen) (hbytes : (us.length + m) * bytes ≤ 140737488355328)
    (h : ∀ v' w', Row e w' v' (us ++ news) (fun b => F b ∨ w.heap.size ≤ b) → Turn F w w' → (∀ b o, b < w.heap.size → (F b → o < us.length) → w'.cell? ⟨b, o, none⟩ = w.cell? ⟨b, o, none⟩) → K (a.put o.dst v') w') : o.wp P a w K Q := by
  obtain ⟨v', w', hr, h2, h3, h4⟩ := run_append_row (P := P) (F := F) o.type i z bytes ht hi hz hsize hby hzs H ad m c hl hnews h1 hm h63 hbytes
  unfold Oper.wp execOp
  simp only [ho, resolve, invoke, builtin, Sem.run_bind, Sem.run_pure, Result.andThen_ok, List.map_toArray, List.map_cons, List.map_nil, hs, hx, hr]
  exact h v' w' h2 h3 h4
theorem wpList_append_row {ops : Array Oper} {rest : List Oper} {o : Oper} {a : Act} {Q : Exit → Act → World → Prop} (hgd : o.guard = none) (s x : Operand)
    (ho : o.op = .call { callee := .builtin .append, args := #[s, x], argTypes := #[t, t] })
    (i : TypeInfo) (z : Value) (bytes : Nat) (ht : P.underlying t = some (.slice e)) (hi : P.info? e = some i) (hz : i.zero = some z) (hsize : i.size = 1) (hby : i.bytes = bytes) (hzs : z.cells.size = 1)
    (hs : a.eval s = v) (H : Row e w v us F) (ad : Addr) (m c : Nat) (hx : a.eval x = .slice (some ad) m c) (hl : news.length = m) (hnews : ∀ j u, news[j]? = some u → w.cell? (ad.add j) = some u) (h1 : ∀ u ∈ news, u.oneCell' = true)
    (hm : 0 < m) (h63 : us.length + m ≤ maxLen) (hbytes : (us.length + m) * bytes ≤ 140737488355328)
    (h : ∀ v' w', Row e w' v' (us ++ news) (fun b => F b ∨ w.heap.size ≤ b) → Turn F w w' → (∀ b o, b < w.heap.size → (F b → o < us.length) → w'.cell? ⟨b, o, none⟩ = w.cell? ⟨b, o, none⟩) → wpList P ops Q rest (a.put o.dst v') w') : wpList P ops Q (o :: rest) a w :=
  wpList_plain hgd fun _ hK => wp_append_row s x ho i z bytes ht hi hz hsize hby hzs hs H ad m c hx hl hnews h1 hm h63 hbytes fun v' w' h2 h3 h4 => hK _ _ (h v' w' h2 h3 h4)
end
end Go.Proofs.YtblkehdpenfhjaaGreatDoor
/-
  Numbers in bytes, and bits: nums.PutBE, PutVar, Zeros, Bits; what bytes make a text. No conditions but the numbers' bounds.
-/
set_option linter.unusedVariables false
set_option linter.unusedSimpArgs false
namespace Go.Proofs.YtblkehdpenfhjaaGreatDoor
open Go.RowKit

def mk (l : List UInt8) : ByteArray := ⟨l.toArray⟩
theorem bytes_ext {a b : ByteArray} (h : a.data.toList = b.data.toList) : a = b := by
  cases a; cases b
  simp only [ByteArray.mk.injEq]
  exact Array.toList_inj.1 h
theorem mk_list (l : List UInt8) : (mk l).data.toList = l := by simp [mk]
theorem mk_data (a : ByteArray) : mk a.data.toList = a := bytes_ext (by simp [mk])
theorem mk_app (a b : List UInt8) : mk a ++ mk b = mk (a ++ b) := bytes_ext (by simp [mk, ByteArray.data_append])
theorem mk_size (l : List UInt8) : (mk l).size = l.length := by simp [mk, ByteArray.size]
def bv (c : UInt8) : Value := .int .u8 (c.toNat : Int)
theorem Row.own {e : TypeId} {w : World} {v : Value} {us : List Value} {F : Nat → Prop} (h : Row e w v us F) : w.ownsRow 0 e 1 v us.length us := by
  rcases h with ⟨rfl, rfl⟩ | ⟨g, cap, cur, rfl, h2, h3, h4, h5, h6, h7⟩
  · exact World.ownsRow_nil _ _ _ _
  · exact ⟨by omega, .inr ⟨g, cap, cur, rfl, Nat.zero_le _, h3, h4, h5, by omega, by rw [Nat.mul_one]; exact h7⟩⟩
set_option maxRecDepth 100000 in
theorem row_string {w : World} {v : Value} {xs : List UInt8} {F : Nat → Prop} (h : Row 5 w v (xs.map bv) F) :
    (convert 108 9 v).run Tryz.prog w = .ok (.string (mk xs)) w := by
  have hs := h.slin
  rcases h with ⟨rfl, h0⟩ | ⟨g, cap, cur, rfl, h2, h3, h4, h5, h6, h7⟩
  · have : xs = [] := by simpa using h0
    subst this
    exact run_convert_bytes_nil w 108 5 Tryz.underlying108 Tryz.underlying5 0 0 9 Tryz.underlying9
  · have hl : (xs.map bv).length = xs.length := List.length_map _
    rw [hl] at h4
    have hr := run_convert_bytes_arg (P := Tryz.prog) w 108 5 Tryz.underlying108 Tryz.underlying5 g 0 xs.length cap (xs.map fun c => (c.toNat : Int)) (by simp) (fun i hi => by
      have hi : i < xs.length := by simpa using hi
      obtain ⟨A, c, e1, _, e3⟩ := hs
      obtain ⟨b, o, e4, _, _, e6⟩ := e3 (by rw [hl]; omega)
      injection e1 with e1 _ _
      rw [e4] at e1
      injection e1 with e1
      injection e1 with e1 e2
      have := e6 i (by rw [hl]; exact hi)
      rw [e1, e2, this]
      simp [bv, List.getD, hi]) 9 Tryz.underlying9
    rw [hl, hr]
    congr 2
    have e : strOfNums (xs.map fun c => (c.toNat : Int)) = ⟨xs.toArray⟩ := by
      unfold strOfNums
      congr 2
      rw [List.map_map]
      conv => rhs; rw [← List.map_id xs]
      apply List.map_congr_left
      intro c _
      simp
    rw [e]
    rfl
theorem infoU8 : (Tryz.prog.info? 5).map (fun i => (i.zero, i.size, i.bytes)) = some (some (.int .u8 0), 1, 1) := by kernel_rfl
theorem infoS : (Tryz.prog.info? 9).map (fun i => (i.zero, i.size, i.bytes)) = some (some (.string ⟨#[]⟩), 1, 16) := by kernel_rfl
/-- how many binary digits -/
def bitsN : Nat → Nat → Nat
  | 0, _ => 0
  | f + 1, n => if n = 0 then 0 else bitsN f (n / 2) + 1
theorem bitsN_le : ∀ f n, bitsN f n ≤ f
  | 0, _ => Nat.le_refl _
  | f + 1, n => by unfold bitsN; split; omega; have := bitsN_le f (n / 2); omega
theorem bits_calls (n : Nat) (hn : n < 9223372036854775808) (w : World) :
    Calls Tryz.prog 209 #[.int .i64 n] w fun r w' => r = .returned (.int .i64 (bitsN 63 n)) ∧ w = w' := by
  have HN := Lib.hid hn
  have H0 := Lib.hid (show n < 2 ^ 63 from hn)
  clear hn
  go_enter Tryz.func209, Tryz.ntmps209
  go_wp2
  go_loopg [0, 3] 64 (fun g nv kv wr => ∃ (m k : Nat), nv = .int .i64 m ∧ kv = .int .i64 k ∧ Hid (1 ≤ g ∧ m < 2 ^ (g - 1) ∧ k + (g - 1) ≤ 63 ∧ bitsN 63 n = k + bitsN (g - 1) m) ∧ w = wr)
  case atStart => exact ⟨n, 0, rfl, rfl, Lib.hid ⟨by decide, H0.out, by decide, by rw [Nat.zero_add]⟩, rfl⟩
  case round =>
    obtain ⟨m, k, rfl, rfl, HI, rfl⟩ := hrel
    obtain ⟨g, rfl⟩ : ∃ g, gk = g + 1 := ⟨gk - 1, by have := HI.out.1; omega⟩
    have hk : k ≤ 63 := by have := HI.out.2.2.1; omega
    by_cases h0 : m = 0
    · subst h0
      have HE := Lib.hid (show bitsN 63 n = k by have := HI.out.2.2.2; rw [this]; cases g <;> simp [bitsN])
      go_wp2
      go_ret
      exact ⟨by rw [HE.out]; rfl, rfl⟩
    · have hpos : decide (0 < m) = true := decide_eq_true (by omega)
      obtain ⟨g, rfl⟩ : ∃ g', g = g' + 1 := ⟨g - 1, by
        have h1 := HI.out.2.1
        cases g with
        | zero => simp at h1; omega
        | succ g => omega⟩
      have HN2 := Lib.hid (show m / 2 < 2 ^ g ∧ k + 1 + g ≤ 63 ∧ bitsN 63 n = k + 1 + bitsN g (m / 2) by
        obtain ⟨i1, i2, i3, i4⟩ := HI.out
        refine ⟨?_, by omega, ?_⟩
        · have : m < 2 ^ (g + 1) := by simpa using i2
          rw [Nat.pow_succ] at this; omega
        · rw [i4, show g + 1 + 1 - 1 = g + 1 from rfl]
          conv => lhs; rw [bitsN]
          rw [if_neg h0]; omega)
      obtain ⟨q, hq⟩ : ∃ q, q = m / 2 := ⟨_, rfl⟩
      rw [← hq] at HN2
      have hsh : ((m : Int)) / 2 = (q : Int) := by omega
      clear h0 hq
      go_wp2
      go_roundg (g + 1)
      case measure => omega
      case rel => exact ⟨q, k + 1, rfl, by go_num, Lib.hid ⟨by omega, by have := HN2.out.1; simpa using this, by have := HN2.out.2.1; omega, HN2.out.2.2⟩, rfl⟩
theorem i64_and1 (x : Nat) (h : x < 9223372036854775808) : bits .and .i64 (x : Int) 1 = ((x % 2 : Nat) : Int) := by
  have := bits_mask .i64 63 (by decide) (fun n h0 h1 => by rw [IntKind.wrap_i64]; omega) 1 (by decide) (x : Int) (by omega) (by omega)
  rw [show ((x % 2 : Nat) : Int) = (x : Int) % 2 by omega]
  exact this
/-- how many noughts at the end -/
def zerosN : Nat → Nat → Nat
  | 0, _ => 0
  | f + 1, n => if n % 2 = 0 then zerosN f (n / 2) + 1 else 0
theorem zerosN_le : ∀ f n, zerosN f n ≤ f
  | 0, _ => Nat.le_refl _
  | f + 1, n => by unfold zerosN; split; have := zerosN_le f (n / 2); omega; omega
def zeros (n : Nat) : Nat := if n = 0 then 63 else zerosN 63 n
theorem zeros_calls (n : Nat) (hn : n < 9223372036854775808) (w : World) :
    Calls Tryz.prog 208 #[.int .i64 n] w fun r w' => r = .returned (.int .i64 (zeros n)) ∧ w = w' := by
  have HN := Lib.hid hn
  have H0 := Lib.hid (show n < 2 ^ 63 from hn)
  by_cases hz : n = 0
  · subst hz
    clear hn
    go_enter Tryz.func208, Tryz.ntmps208
    go_wp2
    go_ret
    exact ⟨rfl, rfl⟩
  · have HP := Lib.hid hz
    have HZ := Lib.hid (show zeros n = zerosN 63 n by unfold zeros; rw [if_neg hz])
    have t0 : decide ((n : Int) ≤ 0) = false := decide_eq_false (by omega)
    clear hn hz
    go_enter Tryz.func208, Tryz.ntmps208
    go_wp2
    go_loopg [0, 3] 64 (fun g nv kv wr => ∃ (m k : Nat), nv = .int .i64 m ∧ kv = .int .i64 k ∧ Hid (1 ≤ g ∧ 0 < m ∧ m < 2 ^ (g - 1) ∧ k + (g - 1) ≤ 63 ∧ zerosN 63 n = k + zerosN (g - 1) m) ∧ w = wr)
    case atStart => exact ⟨n, 0, rfl, rfl, Lib.hid ⟨by decide, by have := HP.out; omega, H0.out, by decide, by rw [Nat.zero_add]⟩, rfl⟩
    case round =>
      obtain ⟨m, k, rfl, rfl, HI, rfl⟩ := hrel
      obtain ⟨g, rfl⟩ : ∃ g, gk = g + 1 + 1 := ⟨gk - 2, by
        obtain ⟨i1, i2, i3, _⟩ := HI.out
        rcases Nat.lt_or_ge gk 2 with h | h
        · obtain rfl : gk = 1 := by omega
          simp at i3; omega
        · omega⟩
      have hk : k ≤ 63 := by have := HI.out.2.2.2.1; omega
      have hand := i64_and1 m (by
        obtain ⟨_, _, i3, i4, _⟩ := HI.out
        have : 2 ^ (g + 1 + 1 - 1) ≤ 2 ^ 63 := Nat.pow_le_pow_right (by decide) (by omega)
        omega)
      have HX := Lib.hid (show zerosN (g + 1) m = if m % 2 = 0 then zerosN g (m / 2) + 1 else 0 by conv => lhs; rw [zerosN])
      obtain ⟨x, hx⟩ : ∃ x, x = m % 2 := ⟨_, rfl⟩
      rw [← hx] at hand HX
      by_cases h0 : x = 0
      · have HN2 := Lib.hid (show 0 < m / 2 ∧ m / 2 < 2 ^ g ∧ k + 1 + g ≤ 63 ∧ zerosN 63 n = k + 1 + zerosN g (m / 2) by
          obtain ⟨i1, i2, i3, i4, i5⟩ := HI.out
          refine ⟨by omega, ?_, by omega, ?_⟩
          · have : m < 2 ^ (g + 1) := by simpa using i3
            rw [Nat.pow_succ] at this; omega
          · rw [i5, show g + 1 + 1 - 1 = g + 1 from rfl, HX.out, if_pos h0]; omega)
        obtain ⟨q, hq⟩ : ∃ q, q = m / 2 := ⟨_, rfl⟩
        rw [← hq] at HN2
        have hsh : ((m : Int)) / 2 = (q : Int) := by omega
        have t1 : ((x : Int) == 0) = true := by rw [beq_iff_eq]; omega
        clear hq hx h0
        go_wp2
        go_roundg (g + 1)
        case measure => omega
        case rel => exact ⟨q, k + 1, rfl, by go_num, Lib.hid ⟨by omega, HN2.out.1, by have := HN2.out.2.1; simpa using this, by have := HN2.out.2.2.1; omega, HN2.out.2.2.2⟩, rfl⟩
      · have HE := Lib.hid (show zerosN 63 n = k by rw [HI.out.2.2.2.2, show g + 1 + 1 - 1 = g + 1 from rfl, HX.out, if_neg h0]; rfl)
        have t1 : ((x : Int) == 0) = false := by rw [beq_eq_false_iff_ne]; omega
        clear hx h0
        go_wp2
        go_ret
        exact ⟨by rw [HZ.out, HE.out]; rfl, rfl⟩

end Go.Proofs.YtblkehdpenfhjaaGreatDoor
/-
  nums.PutBE: a number as eight or four bytes, the highest first.
-/
set_option linter.unusedVariables false
set_option linter.unusedSimpArgs false
namespace Go.Proofs.YtblkehdpenfhjaaGreatDoor
open Go.RowKit

/-- the lowest i bytes of a number, the highest first -/
def beL : Nat → Nat → List UInt8
  | 0, _ => []
  | i + 1, v => UInt8.ofNat (v / 256 ^ i) :: beL i v
theorem beL_len : ∀ i v, (beL i v).length = i
  | 0, _ => rfl
  | i + 1, v => by unfold beL; rw [List.length_cons, beL_len]
theorem make_bytes (n : Nat) (hn : n ≤ 16777216) (w : World) :
    (Instr.makeSlice 108 (.int .i64 (n : Int)) (.int .i64 (n : Int))).run Tryz.prog w = .ok (.slice (some ⟨w.heap.size, 0, none⟩) n n) (w.alloc (.cells (madeCells #[Value.int .u8 0] n) 5)) := by
  obtain ⟨i, hi, hz0, hz1, hz2⟩ := info_parts infoU8
  have h := run_makeSlice w (P := Tryz.prog) 108 5 i (.int .u8 0) Tryz.underlying108 hi hz0 .i64 .i64 n n (by omega) (by omega) (by rw [hz1]; simp; omega) (by rw [hz2]; simp; omega) (by omega)
  rw [h, hz1]
  simp [Value.cells]
theorem bv_ofNat (n : Nat) : bv (UInt8.ofNat n) = .int .u8 ((n % 256 : Nat) : Int) := by unfold bv; rw [UInt8.toNat_ofNat']
theorem rep_put (n i v : Nat) (h : i < n) (x : UInt8) (hx : x = UInt8.ofNat (v / 256 ^ i)) : (((List.replicate (n - i) (0 : UInt8) ++ beL i v).map bv).set (n - 1 - i) (bv x)) = (List.replicate (n - (i + 1)) 0 ++ beL (i + 1) v).map bv := by
  rw [← List.map_set]
  congr 1
  have e : n - i = (n - (i + 1)) + 1 := by omega
  rw [e, List.replicate_succ', List.append_assoc, show n - 1 - i = n - (i + 1) by omega, List.set_append_right _ _ (by simp)]
  simp [beL, hx]
theorem row_made (w : World) (n : Nat) (hn : n ≤ 8) : Row 5 (w.alloc (.cells (madeCells #[Value.int .u8 0] n) 5)) (.slice (some ⟨w.heap.size, 0, none⟩) n n) ((List.replicate n (0 : UInt8)).map bv) (w.heap.size ≤ ·) := by
  have hl : ((List.replicate n (0 : UInt8)).map bv).length = n := by simp
  have hc : (madeCells #[Value.int .u8 0] n).toList = (List.replicate n (0 : UInt8)).map bv := by
    rw [List.map_replicate]
    apply List.ext_getElem
    · simp [madeCells]
    · intro i h1 h2
      simp [madeCells, bv, Nat.mod_one]
  refine .inr ⟨w.heap.size, n, madeCells #[Value.int .u8 0] n, by rw [hl], Nat.le_refl _, (MapKept.heap_alloc w _).1, by omega, by unfold maxLen; omega, size_madeCells _ _, ?_⟩
  rw [hl, hc]
  exact List.take_of_length_le (by rw [hl]; exact Nat.le_refl _)
set_option maxHeartbeats 4000000 in
set_option maxRecDepth 100000 in
theorem putBE8_calls (v : Nat) (hv : v < 18446744073709551616) (w : World) :
    Calls Tryz.prog 212 #[.int .u64 v, .int .i64 8] w fun r w' => r = .returned (.tuple #[.string (mk (beL 8 v)), .int .i64 0]) ∧ Below w.heap.size w w' := by
  have HV := Lib.hid hv
  have hmk : (Instr.makeSlice 108 (.int .i64 8) (.int .i64 8)).run Tryz.prog w = _ := make_bytes 8 (by decide) w
  obtain ⟨w1, hw1⟩ : ∃ w1, w1 = w.alloc (.cells (madeCells #[Value.int .u8 0] 8) 5) := ⟨_, rfl⟩
  have HR1 := Lib.hid (show Row 5 w1 (.slice (some ⟨w.heap.size, 0, none⟩) 8 8) ((List.replicate 8 (0 : UInt8)).map bv) (w.heap.size ≤ ·) by rw [hw1]; exact row_made w 8 (by decide))
  have HB1 := Lib.hid (show Below w.heap.size w w1 by rw [hw1]; exact (Below.refl _ _).alloc (Nat.le_refl _) _)
  rw [← hw1] at hmk
  skip
  skip
  clear hv hw1
  go_enter Tryz.func212, Tryz.ntmps212
  go_wp2
  clear hmk
  go_loopw [28] (fun iv wr => ∃ i : Nat, iv = .int .i64 i ∧ i ≤ 8 ∧ Hid (Row 5 wr (.slice (some ⟨w.heap.size, 0, none⟩) 8 8) ((List.replicate (8 - i) (0 : UInt8) ++ beL i v).map bv) (w.heap.size ≤ ·)) ∧ Hid (Below w.heap.size w wr)) (fun iv _ => 8 - (intOf iv).toNat)
  case atStart => exact ⟨0, rfl, by omega, Lib.hid (by simpa [beL] using HR1.out), HB1⟩
  case round =>
    clear HR1 HB1
    obtain ⟨i, rfl, hi, HR, HB⟩ := hrel
    by_cases hlt : i < 8
    · have hlen : ((List.replicate (8 - i) (0 : UInt8) ++ beL i v).map bv).length = 8 := by simp [beL_len]; omega
      obtain ⟨g, cap, q1, q2, q3, q4, q5, q6⟩ := HR.out.place (i := 8 - 1 - i) (by rw [hlen]; omega)
      injection q1 with q1 q0 q1'
      injection q1 with q1
      injection q1 with q1
      clear q0 q1'
      subst q1
      have HQ6 := Lib.hid (fun x hx => (rep_put 8 i v hlt x hx) ▸ (q6 (bv x)).1)
      have HT6 := Lib.hid (fun u => HB.out.trans (((q6 u).2.below (B := w.heap.size) (fun k e => by rw [e]; exact Nat.le_refl _) HB.out.size).mono (Nat.le_refl _)))
      obtain ⟨u0, hu0⟩ : ∃ u, u = ((List.replicate (8 - i) (0 : UInt8) ++ beL i v).map bv)[8 - 1 - i]'(by rw [hlen]; omega) := ⟨_, rfl⟩
      rw [← hu0] at q4
      clear hlen q2 q3 q6 hu0
      obtain rfl | rfl | rfl | rfl | rfl | rfl | rfl | rfl : i = 0 ∨ i = 1 ∨ i = 2 ∨ i = 3 ∨ i = 4 ∨ i = 5 ∨ i = 6 ∨ i = 7 := by omega
      · go_wp2
        have h6 := HQ6.out _ rfl
        rw [bv_ofNat] at h6
        exact ⟨⟨1, rfl, by omega, Lib.hid (by simpa using h6), Lib.hid (HT6.out _)⟩, by simp [intOf]⟩
      · go_wp2
        have h6 := HQ6.out _ rfl
        rw [bv_ofNat] at h6
        exact ⟨⟨2, rfl, by omega, Lib.hid (by simpa using h6), Lib.hid (HT6.out _)⟩, by simp [intOf]⟩
      · go_wp2
        have h6 := HQ6.out _ rfl
        rw [bv_ofNat] at h6
        exact ⟨⟨3, rfl, by omega, Lib.hid (by simpa using h6), Lib.hid (HT6.out _)⟩, by simp [intOf]⟩
      · go_wp2
        have h6 := HQ6.out _ rfl
        rw [bv_ofNat] at h6
        exact ⟨⟨4, rfl, by omega, Lib.hid (by simpa using h6), Lib.hid (HT6.out _)⟩, by simp [intOf]⟩
      · go_wp2
        have h6 := HQ6.out _ rfl
        rw [bv_ofNat] at h6
        exact ⟨⟨5, rfl, by omega, Lib.hid (by simpa using h6), Lib.hid (HT6.out _)⟩, by simp [intOf]⟩
      · go_wp2
        have h6 := HQ6.out _ rfl
        rw [bv_ofNat] at h6
        exact ⟨⟨6, rfl, by omega, Lib.hid (by simpa using h6), Lib.hid (HT6.out _)⟩, by simp [intOf]⟩
      · go_wp2
        have h6 := HQ6.out _ rfl
        rw [bv_ofNat] at h6
        exact ⟨⟨7, rfl, by omega, Lib.hid (by simpa using h6), Lib.hid (HT6.out _)⟩, by simp [intOf]⟩
      · go_wp2
        have h6 := HQ6.out _ rfl
        rw [bv_ofNat] at h6
        exact ⟨⟨8, rfl, by omega, Lib.hid (by simpa using h6), Lib.hid (HT6.out _)⟩, by simp [intOf]⟩
    · obtain rfl : i = 8 := by omega
      have hconv := row_string (show Row 5 wr (.slice (some ⟨w.heap.size, 0, none⟩) 8 8) ((beL 8 v).map bv) (w.heap.size ≤ ·) from by simpa using HR.out)
      go_wp2
      go_ret2
      exact ⟨rfl, HB.out⟩
set_option maxHeartbeats 4000000 in
set_option maxRecDepth 100000 in
theorem putBE4_calls (v : Nat) (hv : v < 4294967296) (w : World) :
    Calls Tryz.prog 212 #[.int .u64 v, .int .i64 4] w fun r w' => r = .returned (.tuple #[.string (mk (beL 4 v)), .int .i64 0]) ∧ Below w.heap.size w w' := by
  have HV := Lib.hid hv
  have hmk : (Instr.makeSlice 108 (.int .i64 4) (.int .i64 4)).run Tryz.prog w = _ := make_bytes 4 (by decide) w
  obtain ⟨w1, hw1⟩ : ∃ w1, w1 = w.alloc (.cells (madeCells #[Value.int .u8 0] 4) 5) := ⟨_, rfl⟩
  have HR1 := Lib.hid (show Row 5 w1 (.slice (some ⟨w.heap.size, 0, none⟩) 4 4) ((List.replicate 4 (0 : UInt8)).map bv) (w.heap.size ≤ ·) by rw [hw1]; exact row_made w 4 (by decide))
  have HB1 := Lib.hid (show Below w.heap.size w w1 by rw [hw1]; exact (Below.refl _ _).alloc (Nat.le_refl _) _)
  rw [← hw1] at hmk
  have k1 : decide ((v : Int) ≤ 4294967295) = true := decide_eq_true (by omega)
  have k2 : decide (v ≤ 4294967295) = true := decide_eq_true (by omega)
  clear hv hw1
  go_enter Tryz.func212, Tryz.ntmps212
  go_wp2
  clear hmk
  go_loopw [28] (fun iv wr => ∃ i : Nat, iv = .int .i64 i ∧ i ≤ 4 ∧ Hid (Row 5 wr (.slice (some ⟨w.heap.size, 0, none⟩) 4 4) ((List.replicate (4 - i) (0 : UInt8) ++ beL i v).map bv) (w.heap.size ≤ ·)) ∧ Hid (Below w.heap.size w wr)) (fun iv _ => 4 - (intOf iv).toNat)
  case atStart => exact ⟨0, rfl, by omega, Lib.hid (by simpa [beL] using HR1.out), HB1⟩
  case round =>
    clear HR1 HB1
    obtain ⟨i, rfl, hi, HR, HB⟩ := hrel
    by_cases hlt : i < 4
    · have hlen : ((List.replicate (4 - i) (0 : UInt8) ++ beL i v).map bv).length = 4 := by simp [beL_len]; omega
      obtain ⟨g, cap, q1, q2, q3, q4, q5, q6⟩ := HR.out.place (i := 4 - 1 - i) (by rw [hlen]; omega)
      injection q1 with q1 q0 q1'
      injection q1 with q1
      injection q1 with q1
      clear q0 q1'
      subst q1
      have HQ6 := Lib.hid (fun x hx => (rep_put 4 i v hlt x hx) ▸ (q6 (bv x)).1)
      have HT6 := Lib.hid (fun u => HB.out.trans (((q6 u).2.below (B := w.heap.size) (fun k e => by rw [e]; exact Nat.le_refl _) HB.out.size).mono (Nat.le_refl _)))
      obtain ⟨u0, hu0⟩ : ∃ u, u = ((List.replicate (4 - i) (0 : UInt8) ++ beL i v).map bv)[4 - 1 - i]'(by rw [hlen]; omega) := ⟨_, rfl⟩
      rw [← hu0] at q4
      clear hlen q2 q3 q6 hu0
      obtain rfl | rfl | rfl | rfl : i = 0 ∨ i = 1 ∨ i = 2 ∨ i = 3 := by omega
      · go_wp2
        have h6 := HQ6.out _ rfl
        rw [bv_ofNat] at h6
        exact ⟨⟨1, rfl, by omega, Lib.hid (by simpa using h6), Lib.hid (HT6.out _)⟩, by simp [intOf]⟩
      · go_wp2
        have h6 := HQ6.out _ rfl
        rw [bv_ofNat] at h6
        exact ⟨⟨2, rfl, by omega, Lib.hid (by simpa using h6), Lib.hid (HT6.out _)⟩, by simp [intOf]⟩
      · go_wp2
        have h6 := HQ6.out _ rfl
        rw [bv_ofNat] at h6
        exact ⟨⟨3, rfl, by omega, Lib.hid (by simpa using h6), Lib.hid (HT6.out _)⟩, by simp [intOf]⟩
      · go_wp2
        have h6 := HQ6.out _ rfl
        rw [bv_ofNat] at h6
        exact ⟨⟨4, rfl, by omega, Lib.hid (by simpa using h6), Lib.hid (HT6.out _)⟩, by simp [intOf]⟩
    · obtain rfl : i = 4 := by omega
      have hconv := row_string (show Row 5 wr (.slice (some ⟨w.heap.size, 0, none⟩) 4 4) ((beL 4 v).map bv) (w.heap.size ≤ ·) from by simpa using HR.out)
      go_wp2
      go_ret2
      exact ⟨rfl, HB.out⟩
end Go.Proofs.YtblkehdpenfhjaaGreatDoor
/-
  nums.PutVar, wire.number: a number in bytes of seven bits.
-/
set_option linter.unusedVariables false
set_option linter.unusedSimpArgs false
namespace Go.Proofs.YtblkehdpenfhjaaGreatDoor
open Go.RowKit

def varL : Nat → Nat → List UInt8
  | 0, _ => []
  | f + 1, v => if v ≤ 127 then [UInt8.ofNat v] else UInt8.ofNat (v % 128 + 128) :: varL f (v / 128)
theorem varL_len : ∀ f v, (varL f v).length ≤ f
  | 0, _ => Nat.le_refl _
  | f + 1, v => by unfold varL; split; simp; have := varL_len f (v / 128); simp; omega
set_option maxRecDepth 100000 in
theorem or128 (m : Nat) : bits .or .u8 ((m : Int) % 256) 128 = ((m % 128 + 128 : Nat) : Int) := by
  have h := u8_or_nat (m % 256) 128 (by omega) (by decide)
  have h2 : ∀ a : Fin 256, a.val ||| 128 = a.val % 128 + 128 := by decide +kernel
  have h3 := h2 ⟨m % 256, by omega⟩
  rw [show ((m : Int) % 256) = ((m % 256 : Nat) : Int) by omega]
  have h4 : bits .or .u8 ((m % 256 : Nat) : Int) ((128 : Nat) : Int) = _ := h
  rw [show ((128 : Int)) = ((128 : Nat) : Int) from rfl, h4, h3]
  have : m % 256 % 128 = m % 128 := by omega
  simp only [this]
theorem bv_nat (n : Nat) (h : n < 256) : bv (UInt8.ofNat n) = .int .u8 (n : Int) := by rw [bv_ofNat, Nat.mod_eq_of_lt h]
set_option maxHeartbeats 4000000 in
set_option maxRecDepth 100000 in
theorem putVar_calls (v : Nat) (hv : v < 18446744073709551616) (w : World) :
    Calls Tryz.prog 152 #[.int .u64 v] w fun r w' => r = .returned (.string (mk (varL 10 v))) ∧ Below w.heap.size w w' := by
  obtain ⟨i8, hi8, hz0, hz1, hz2⟩ := info_parts infoU8
  have HV := Lib.hid (show v < 2 ^ 64 from hv)
  clear hv
  go_enter Tryz.func152, Tryz.ntmps152
  go_wp2
  go_loopg [0, 3] 10 (fun g uv lv wr => ∃ (m : Nat) (xs : List UInt8), uv = .int .u64 m ∧ Hid (1 ≤ g ∧ m < 2 ^ (7 * g - 6) ∧ m < 2 ^ 64 ∧ xs.length + g ≤ 10 ∧ varL 10 v = xs ++ varL g m) ∧ Hid (Row 5 wr lv (xs.map bv) (w.heap.size ≤ ·)) ∧ Hid (Below w.heap.size w wr))
  case atStart => exact ⟨v, [], rfl, Lib.hid ⟨by decide, HV.out, HV.out, by decide, rfl⟩, Lib.hid Row.nil, Lib.hid (Below.refl _ _)⟩
  case round =>
    obtain ⟨m, xs, rfl, HI, HR, HB⟩ := hrel
    obtain ⟨g, rfl⟩ : ∃ g, gk = g + 1 := ⟨gk - 1, by have := HI.out.1; omega⟩
    have HX := Lib.hid (show varL (g + 1) m = if m ≤ 127 then [UInt8.ofNat m] else UInt8.ofNat (m % 128 + 128) :: varL g (m / 128) by conv => lhs; rw [varL])
    have HLX := Lib.hid (show (xs.map bv).length ≤ 10 by have := HI.out.2.2.2.1; rw [List.length_map]; omega)
    by_cases hle : m ≤ 127
    · have k1 : decide ((m : Int) ≤ 127) = true := decide_eq_true (by omega)
      have k2 : decide (m ≤ 127) = true := decide_eq_true hle
      have hm256 : (m : Int) % 256 = m := by omega
      have HE := Lib.hid (show varL 10 v = xs ++ [UInt8.ofNat m] by rw [HI.out.2.2.2.2, HX.out, if_pos hle])
      have HBV := Lib.hid (bv_nat m (by omega))
      clear hle
      go_wp2_with (first | (at_builtin; go_must (refine wpList_append_row (F := (w.heap.size ≤ ·)) (news := [Value.int .u8 (m : Int)]) rfl (.tmp 15) (.tmp 18) rfl i8 (.int .u8 0) 1 Tryz.underlying108 hi8 hz0 hz1 hz2 rfl rfl (HR.out.keep fun b hb _ => Below.heap_alloc _ _ b hb) ⟨wr.heap.size, 0, none⟩ 1 1 rfl rfl (World.news_of_block (MapKept.heap_alloc _ _).1) (by intro u hu; simp at hu; subst hu; rfl) (by decide) (by have := HLX.out; unfold maxLen; omega) (by have := HLX.out; omega) ?_)) | go_in)
      intro v2 w3 hrow2 htu2 hcell2
      have HR2 := Lib.hid (show Row 5 w3 v2 ((xs ++ [UInt8.ofNat m]).map bv) (w.heap.size ≤ ·) from by
        rw [List.map_append, show [UInt8.ofNat m].map bv = [Value.int .u8 (m : Int)] by rw [List.map_cons, HBV.out]; rfl]
        exact hrow2.mono fun b _ h => h.elim id (fun h => by have := HB.out.size; (try simp at h); omega))
      have HB2 := Lib.hid (HB.out.trans (((Turn.below (B := w.heap.size) (((Turn.refl (fun b => w.heap.size ≤ b) wr).alloc _).trans htu2) (fun k h => h) HB.out.size)).mono (Nat.le_refl _)))
      have hconv := row_string HR2.out
      clear hrow2 htu2 hcell2
      go_wp2
      go_ret
      exact ⟨by rw [HE.out]; rfl, HB2.out⟩
    · have k1 : decide ((m : Int) ≤ 127) = false := decide_eq_false (by omega)
      have k2 : decide (m ≤ 127) = false := decide_eq_false hle
      have hor := or128 m
      have HE := Lib.hid (show varL 10 v = (xs ++ [UInt8.ofNat (m % 128 + 128)]) ++ varL g (m / 128) by rw [HI.out.2.2.2.2, HX.out, if_neg hle, List.append_assoc]; rfl)
      have HBV := Lib.hid (bv_nat (m % 128 + 128) (by omega))
      obtain ⟨z, hz⟩ : ∃ z, z = m % 128 + 128 := ⟨_, rfl⟩
      obtain ⟨q, hq⟩ : ∃ q, q = m / 128 := ⟨_, rfl⟩
      have hqq : (m : Int) / 128 = (q : Int) := by omega
      rw [← hz] at hor HE HBV
      rw [← hq] at HE
      have HQ := Lib.hid hq
      have HG := Lib.hid hle
      clear hz hq hle
      go_wp2_with (first | (at_builtin; go_must (refine wpList_append_row (F := (w.heap.size ≤ ·)) (news := [Value.int .u8 (z : Int)]) rfl (.tmp 7) (.tmp 11) rfl i8 (.int .u8 0) 1 Tryz.underlying108 hi8 hz0 hz1 hz2 rfl rfl (HR.out.keep fun b hb _ => Below.heap_alloc _ _ b hb) ⟨wr.heap.size, 0, none⟩ 1 1 rfl rfl (World.news_of_block (MapKept.heap_alloc _ _).1) (by intro u hu; simp at hu; subst hu; rfl) (by decide) (by have := HLX.out; unfold maxLen; omega) (by have := HLX.out; omega) ?_)) | go_in)
      intro v2 w3 hrow2 htu2 hcell2
      have HR2 := Lib.hid (show Row 5 w3 v2 ((xs ++ [UInt8.ofNat z]).map bv) (w.heap.size ≤ ·) from by
        rw [List.map_append, show [UInt8.ofNat z].map bv = [Value.int .u8 (z : Int)] by rw [List.map_cons, HBV.out]; rfl]
        exact hrow2.mono fun b _ h => h.elim id (fun h => by have := HB.out.size; (try simp at h); omega))
      have HB2 := Lib.hid (HB.out.trans (((Turn.below (B := w.heap.size) (((Turn.refl (fun b => w.heap.size ≤ b) wr).alloc _).trans htu2) (fun k h => h) HB.out.size)).mono (Nat.le_refl _)))
      clear hrow2 htu2 hcell2
      go_wp2
      go_roundg g
      case measure => omega
      case rel =>
        refine ⟨q, xs ++ [UInt8.ofNat z], rfl, Lib.hid ?_, HR2, HB2⟩
        obtain ⟨i1, i2, i3, i4, i5⟩ := HI.out
        have hg1 : 1 ≤ g := by
          rcases Nat.eq_zero_or_pos g with h | h
          · subst h; have := HG.out; simp at i2; omega
          · exact h
        have e : 7 * (g + 1) - 6 = (7 * g - 6) + 7 := by omega
        rw [e, Nat.pow_add] at i2
        have hq := HQ.out
        exact ⟨hg1, by omega, by omega, by rw [List.length_append]; simp; omega, HE.out⟩
theorem number_calls (n : Nat) (hn : n < 9223372036854775808) (w : World) :
    Calls Tryz.prog 137 #[.int .i64 n] w fun r w' => r = .returned (.string (mk (varL 10 n))) ∧ Below w.heap.size w w' := by
  have hw : IntKind.u64.wrap (n : Int) = (n : Int) := by simp [IntKind.wrap, IntKind.signed, IntKind.bits]; omega
  have HN := Lib.hid hn
  clear hn
  go_enter Tryz.func137, Tryz.ntmps137
  go_wp2_with fail
  refine (putVar_calls n (by have := HN.out; omega) w).mono ?_
  rintro r w1 ⟨rfl, hb⟩
  have HB := Lib.hid hb
  clear hb
  go_wp2
  go_ret
  exact ⟨rfl, HB.out⟩
end Go.Proofs.YtblkehdpenfhjaaGreatDoor
