/-
  A region that draws its order, walked in ONE order: operations that yield their value in every world that meets S ('held'), and operations that act, each the only one that may come up at its turn. Behind an acting operation S is asked only where a held one need not have come up before it. No conditions.
-/
import Derived.OrdersHeld
import Derived.WalkKit
set_option linter.unusedVariables false
set_option linter.unusedSimpArgs false
namespace Go.Proofs.Ytaghjiffmondjaa
open Go.RowKit
section
variable {P : Program} {ops : Array Oper} {Q : Exit → Act → World → Prop} {md : Region.Mode} {S : World → Prop}

/-- Must i have come up before j? (through n edges at most) -/
def reachB (md : Region.Mode) (ops : Array Oper) : Nat → Nat → Nat → Bool
  | 0, _, _ => false
  | n + 1, j, i => match ops[j]? with
    | none => false
    | some oj => oj.after.any fun e => Region.binds md e && (e.on == i || reachB md ops n e.on i)

def closedB (md : Region.Mode) (ops : Array Oper) (listed : Array Bool) : Prop :=
  ∀ k ok, ops[k]? = some ok → listed.getD k false = true → ∀ e ∈ ok.after, Region.binds md e = true → listed.getD e.on false = true

theorem reach_listed {listed : Array Bool} (hc : closedB md ops listed) : ∀ (n j i : Nat), (∀ oj, ops[j]? = some oj → ∀ e ∈ oj.after, Region.binds md e = true → listed.getD e.on false = true) → reachB md ops n j i = true → listed.getD i false = true
  | 0, _, _, _, h => by simp [reachB] at h
  | n + 1, j, i, hj, h => by
    unfold reachB at h
    cases ho : ops[j]? with
    | none => simp [ho] at h
    | some oj =>
      simp only [ho] at h
      obtain ⟨e, he, hb⟩ := Array.any_eq_true'.1 h
      simp only [Bool.and_eq_true, Bool.or_eq_true, beq_iff_eq] at hb
      have hl := hj oj ho e he hb.1
      rcases hb.2 with rfl | h2
      · exact hl
      · exact reach_listed hc n e.on i (fun ok hk e' he' hb' => hc e.on ok hk hl e' he' hb') h2

theorem closed_set {listed : Array Bool} {j : Nat} (hc : closedB md ops listed) (hr : j ∈ Region.ready md ops listed) : closedB md ops (listed.setIfInBounds j true) := by
  intro k ok hk hl e he hb
  obtain ⟨_, oj, hoj, hall⟩ := mem_ready.1 hr
  by_cases hjk : j = k
  · subst hjk
    obtain rfl : ok = oj := Option.some.inj (hk.symm.trans hoj)
    exact getD_set_true (hall e he hb)
  · rw [getD_set_ne false hjk] at hl
    exact getD_set_true (hc k ok hk hl e he hb)

theorem listed_conv {listed : Array Bool} {i : Nat} (h1 : listed.getD i true = false) (h2 : listed.getD i false = true) : False := by
  rcases Nat.lt_or_ge i listed.size with h' | h'
  · simp [h'] at h1 h2; rw [h1] at h2; cases h2
  · simp [Array.getElem?_eq_none h'] at h2

/-- Need S hold behind j? : is there a held operation that need not come up before it? -/
def needB (md : Region.Mode) (ops : Array Oper) (held : List Nat) (j : Nat) : Bool := held.any fun i => !reachB md ops ops.size j i

/-- Whatever order is picked: S holds behind each operation behind which it is needed. -/
def wpAnyN (P : Program) (md : Region.Mode) (ops : Array Oper) (Q : Exit → Act → World → Prop) (S : World → Prop) (held : List Nat) : Nat → Array Bool → Act → World → Prop
  | 0, listed, a, w => Region.ready md ops listed = [] ∧ Q .normal a w
  | fuel + 1, listed, a, w =>
    (Region.ready md ops listed = [] → Q .normal a w) ∧
    ∀ i ∈ Region.ready md ops listed, wpOp P ops Q i (fun a' w' => (needB md ops held i = true → S w') ∧ wpAnyN P md ops Q S held fuel (listed.setIfInBounds i true) a' w') a w

theorem wpAny_of_N {held : List Nat} : ∀ (fuel : Nat) (listed : Array Bool) (a : Act) (w : World), wpAnyN P md ops Q S held fuel listed a w → wpAny P md ops Q fuel listed a w
  | 0, _, _, _, h => h
  | fuel + 1, _, _, _, h => ⟨h.1, fun i hi => wpOp_mono (fun a' w' h' => wpAny_of_N fuel _ a' w' h'.2) (h.2 i hi)⟩

theorem wpAnyN_first {held : List Nat} {i : Nat} {oi : Oper} {v : Value} (hi : ops[i]? = some oi) (hh : i ∈ held) (hsel : ∀ (j : Nat) (o : Oper) cs b, ops[j]? = some o → o.op ≠ .select cs b)
    (hQ : ∀ c a w, Q (.panic c) (a.put oi.dst v) w → Q (.panic c) a w) :
    ∀ (fuel : Nat) (listed : Array Bool) (a : Act) (w : World), closedB md ops listed →
      (∀ j oj, ops[j]? = some oj → j ≠ i → listed.getD j true = false → (∀ e ∈ oj.after, Region.binds md e = true → e.on ≠ i) → oi.apart ops oj = true) →
      i ∈ Region.ready md ops listed → YieldsIf P ops S oi v a → S w →
      wpAnyN P md ops Q S held fuel (listed.setIfInBounds i true) (a.put oi.dst v) w → wpAnyN P md ops Q S held (fuel + 1) listed a w := by
  intro fuel
  induction fuel with
  | zero =>
    intro listed a w _ _ hr hy hS H
    refine ⟨fun h => (by rw [h] at hr; cases hr), fun j hj => ?_⟩
    by_cases hji : j = i
    · subst hji; exact hy.wpOp hi hS ⟨fun _ => hS, H⟩
    · have := ready_mono hj hji
      rw [H.1] at this
      cases this
  | succ fuel ih =>
    intro listed a w hcl hfree hr hy hS H
    refine ⟨fun h => (by rw [h] at hr; cases hr), fun j hj => ?_⟩
    by_cases hji : j = i
    · subst hji; exact hy.wpOp hi hS ⟨fun _ => hS, H⟩
    · have h1 := H.2 j (ready_mono hj hji)
      obtain ⟨hjun, oj, hoj, hall⟩ := mem_ready.1 hj
      have hnot : ∀ e ∈ oj.after, Region.binds md e = true → e.on ≠ i := fun e he hb heq => by
        have h1 := hall e he hb
        rw [heq] at h1
        exact listed_conv (mem_ready.1 hr).1 h1
      have hneed : needB md ops held j = true := by
        unfold needB
        refine List.any_eq_true.2 ⟨i, hh, ?_⟩
        cases hre : reachB md ops ops.size j i
        · rfl
        · exact (listed_conv (mem_ready.1 hr).1 (reach_listed hcl _ _ _ (fun o ho e he hb => by
            obtain rfl : o = oj := Option.some.inj (ho.symm.trans hoj)
            exact hall e he hb) hre)).elim
      have h2 := wpOp_putIf hoj (hfree j oj hoj hji hjun hnot) (fun cs b => hsel i oi cs b hi) (fun cs b => hsel j oj cs b hoj) hQ hy h1
      have hfree' : ∀ k ok, ops[k]? = some ok → k ≠ i → (listed.setIfInBounds j true).getD k true = false →
          (∀ e ∈ ok.after, Region.binds md e = true → e.on ≠ i) → oi.apart ops ok = true := fun k ok hk hki hun hno => by
        refine hfree k ok hk hki ?_ hno
        by_cases hjk : j = k
        · subst hjk; exact hjun
        · rw [getD_set_ne true hjk] at hun; exact hun
      refine wpOp_mono (fun a' w' h3 => ⟨h3.2.1, ih (listed.setIfInBounds j true) a' w' (closed_set hcl hj) hfree' (ready_mono hr (Ne.symm hji)) h3.1 (h3.2.1 hneed) ?_⟩) h2
      rw [Array.setIfInBounds_comm _ _ hji]
      exact h3.2.2

/-- The walk in the given order: (i, false): operation i is held; (i, true): it acts. -/
def seqH (P : Program) (md : Region.Mode) (ops : Array Oper) (Q : Exit → Act → World → Prop) (S : World → Prop) (held : List Nat) : List (Nat × Bool) → Act → World → Prop
  | [], a, w => Q .normal a w
  | (i, false) :: rest, a, w => match ops[i]? with
    | none => False
    | some o => ∃ v, YieldsIf P ops S o v a ∧ seqH P md ops Q S held rest (a.put o.dst v) w
  | (i, true) :: rest, a, w => match ops[i]? with
    | none => False
    | some o => if Region.wanted o (yielded ops a.tmps) then o.wp P a w (fun a' w' => (needB md ops held i = true → S w') ∧ ((rest.any fun x => !x.2) = true → S w') ∧ seqH P md ops Q S held rest a' w') Q else (needB md ops held i = true → S w) ∧ seqH P md ops Q S held rest (a.put o.dst undef) w

/-- May the region be walked in this order? -/
def seqOk (md : Region.Mode) (ops : Array Oper) (held : List Nat) : List (Nat × Bool) → Array Bool → Bool
  | [], listed => (Region.ready md ops listed).isEmpty
  | (i, false) :: rest, listed => held.contains i && Region.free md ops listed i && (Region.ready md ops listed).contains i && seqOk md ops held rest (listed.setIfInBounds i true)
  | (i, true) :: rest, listed => (Region.ready md ops listed == [i]) && seqOk md ops held rest (listed.setIfInBounds i true)

theorem wpAnyN_done {held : List Nat} {listed : Array Bool} {a : Act} {w : World} (hr : Region.ready md ops listed = []) (h : Q .normal a w) : ∀ fuel, wpAnyN P md ops Q S held fuel listed a w
  | 0 => ⟨hr, h⟩
  | _ + 1 => ⟨fun _ => h, by rw [hr]; simp⟩

theorem wpAnyN_of_seq {held : List Nat} (hs : Region.noSelect ops = true) (hQ : ∀ c a d v w, Q (.panic c) (Act.put a d v) w → Q (.panic c) a w) :
    ∀ (ord : List (Nat × Bool)) (fuel : Nat) (listed : Array Bool) (a : Act) (w : World), closedB md ops listed → seqOk md ops held ord listed = true → ord.length ≤ fuel → ((ord.any fun x => !x.2) = true → S w) → seqH P md ops Q S held ord a w → wpAnyN P md ops Q S held fuel listed a w
  | [], fuel, listed, a, w, _, hok, _, _, h => by
    exact wpAnyN_done (by simpa [seqOk, List.isEmpty_iff] using hok) h fuel
  | (i, false) :: rest, 0, listed, a, w, _, _, hl, _, _ => by simp at hl
  | (i, true) :: rest, 0, listed, a, w, _, _, hl, _, _ => by simp at hl
  | (i, false) :: rest, fuel + 1, listed, a, w, hcl, hok, hl, hS, h => by
    simp only [seqOk, Bool.and_eq_true] at hok
    simp only [seqH] at h
    have hS' : S w := hS (by simp)
    have hri : i ∈ Region.ready md ops listed := by simpa using hok.1.2
    cases ho : ops[i]? with
    | none => simp only [ho] at h
    | some o =>
      simp only [ho] at h
      obtain ⟨v, hy, hrest⟩ := h
      exact wpAnyN_first ho (by simpa using hok.1.1.1) (Region.noSelect_spec hs) (fun c a w hh => hQ c a _ _ w hh) fuel listed a w hcl (Region.free_spec ho hok.1.1.2) hri hy hS'
        (wpAnyN_of_seq hs hQ rest fuel _ _ _ (closed_set hcl hri) hok.2 (by simpa using hl) (fun _ => hS') hrest)
  | (i, true) :: rest, fuel + 1, listed, a, w, hcl, hok, hl, hS, h => by
    simp only [seqOk, Bool.and_eq_true, beq_iff_eq] at hok
    simp only [seqH] at h
    have hri : i ∈ Region.ready md ops listed := by rw [hok.1]; simp
    refine ⟨fun h0 => (by rw [hok.1] at h0; cases h0), fun j hj => ?_⟩
    obtain rfl : j = i := by rw [hok.1] at hj; simpa using hj
    cases ho : ops[j]? with
    | none => simp only [ho] at h
    | some o =>
      simp only [ho] at h
      unfold wpOp
      simp only [ho]
      split
      · rename_i hw
        rw [if_pos hw] at h
        exact .inl (Oper.wp_mono (fun a' w' ⟨hn, hS', h'⟩ => ⟨hn, wpAnyN_of_seq hs hQ rest fuel _ _ _ (closed_set hcl hri) hok.2 (by simpa using hl) hS' h'⟩) h)
      · rename_i hw
        rw [if_neg hw] at h
        exact ⟨h.1, wpAnyN_of_seq hs hQ rest fuel _ _ _ (closed_set hcl hri) hok.2 (by simpa using hl) (fun h0 => hS (by simpa using h0)) h.2⟩

theorem closed_none : closedB md ops (Array.replicate ops.size false) := by
  intro k ok hk hl
  rcases Nat.lt_or_ge k ops.size with h | h
  · simp [h] at hl
  · simp [Array.getElem?_eq_none h] at hk

/-- The region, in the order 'ord'. -/
theorem wp_region_seq {id : Nat} {l : List Oper} {a : Act} {w : World} (S : World → Prop) (ord : List (Nat × Bool)) (hm : P.follows .mixedOrders = true)
    (hok : (Region.noSelect l.toArray && seqOk .any l.toArray ((ord.filter fun x => !x.2).map (·.1)) ord (Array.replicate l.toArray.size false) && decide (ord.length ≤ l.toArray.size)) = true)
    (hQ : ∀ c a d v w, Q (.panic c) (Act.put a d v) w → Q (.panic c) a w) (hS : S w.drew) (h : seqH P .any l.toArray Q S ((ord.filter fun x => !x.2).map (·.1)) ord a w.drew) : (Code.region id l.toArray true).wp P Q a w := by
  simp only [Bool.and_eq_true, decide_eq_true_eq] at hok
  exact wp_region_any hm (wpAny_of_N _ _ _ _ (wpAnyN_of_seq hok.1.1 hQ ord _ _ _ _ closed_none hok.1.2 hok.2 (fun _ => hS) h))

section
variable {held : List Nat} {l : List Oper} {i : Nat} {o : Oper} {rest : List (Nat × Bool)} {a : Act} {w : World}
theorem seqH_held (v : Value) (ho : l.toArray[i]? = some o) (hw : Region.wanted o (yielded l.toArray a.tmps) = true)
    (hy : ∀ w', S w' → (execOp a.eval o).run P w' = .ok (.value v) w') (h : seqH P md l.toArray Q S held rest (a.put o.dst v) w) : seqH P md l.toArray Q S held ((i, false) :: rest) a w := by
  simp only [seqH, ho]
  exact ⟨v, .inl ⟨hw, hy⟩, h⟩
theorem seqH_skip (ho : l.toArray[i]? = some o) (hw : Region.wanted o (yielded l.toArray a.tmps) = false)
    (h : seqH P md l.toArray Q S held rest (a.put o.dst undef) w) : seqH P md l.toArray Q S held ((i, false) :: rest) a w := by
  simp only [seqH, ho]
  exact ⟨undef, .inr ⟨hw, rfl⟩, h⟩
/-- It acts, and S must hold behind it. -/
theorem seqH_actS (ho : l.toArray[i]? = some o) (hw : Region.wanted o (yielded l.toArray a.tmps) = true)
    (h : ∀ K : Act → World → Prop, (∀ a' w', S w' → seqH P md l.toArray Q S held rest a' w' → K a' w') → o.wp P a w K Q) : seqH P md l.toArray Q S held ((i, true) :: rest) a w := by
  simp only [seqH, ho, hw, if_true]
  exact h _ (fun a' w' hS' h' => ⟨fun _ => hS', fun _ => hS', h'⟩)
/-- It acts, and all that is held has come up before it. -/
theorem seqH_act (hneed : (needB md l.toArray held i || rest.any fun x => !x.2) = false) (ho : l.toArray[i]? = some o) (hw : Region.wanted o (yielded l.toArray a.tmps) = true)
    (h : ∀ K : Act → World → Prop, (∀ a' w', seqH P md l.toArray Q S held rest a' w' → K a' w') → o.wp P a w K Q) : seqH P md l.toArray Q S held ((i, true) :: rest) a w := by
  simp only [Bool.or_eq_false_iff] at hneed
  simp only [seqH, ho, hw, if_true]
  exact h _ (fun a' w' h' => ⟨fun hn => (by rw [hneed.1] at hn; cases hn), fun hn => (by rw [hneed.2] at hn; cases hn), h'⟩)
theorem seqH_nil (h : Q .normal a w) : seqH P md ops Q S held [] a w := h
end
end
end Go.Proofs.Ytaghjiffmondjaa
