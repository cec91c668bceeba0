/-
  Rings of nodes: each node a block of its own. No program, no conditions.
-/
import Derived.Test.YtfkdmbiejledoaaG1
set_option linter.unusedVariables false
set_option linter.unusedSimpArgs false
namespace Go.Proofs.Ytfkdmbiejledoaa
open Go.RowKit

/-- a block of n cells of type t -/
def Node (t n : Nat) (w : World) (b : Nat) : Prop := ∃ c, w.heap[b]? = some (.cells c t (0, 0)) ∧ c.size = n
structure Ring (t n p q : Nat) (w : World) (h : Nat) (bs : List Nat) : Prop where
  nodup : (h :: bs).Nodup
  node : ∀ b ∈ h :: bs, Node t n w b
  chain : Chain p q w h bs h
/-- only cells p and q of the blocks of F have turned -/
structure RTurn (t n p q : Nat) (F : Nat → Prop) (w w' : World) : Prop where
  turn : Turn F w w'
  size : w'.heap.size = w.heap.size
  cell : ∀ b o, o ≠ p → o ≠ q → w'.cell? ⟨b, o, none⟩ = w.cell? ⟨b, o, none⟩
  node : ∀ b, Node t n w b → Node t n w' b
variable {t n p q : Nat} {w w' : World} {h e : Nat} {bs xs ys : List Nat}
theorem Node.cell {b o : Nat} (hn : Node t n w b) (ho : o < n) : ∃ v, w.cell? ⟨b, o, none⟩ = some v := by
  obtain ⟨c, hc, hs⟩ := hn
  exact ⟨_, cell_of_block hc (by omega)⟩
theorem Node.free {b o : Nat} (hn : Node t n w b) : w.frozen? ⟨b, o, none⟩ = false := by
  obtain ⟨c, hc, hs⟩ := hn
  exact frozen_of_block hc
theorem Node.lt {b : Nat} (hn : Node t n w b) : b < w.heap.size := by
  obtain ⟨c, hc, hs⟩ := hn
  exact block_lt hc
theorem Node.keep {b : Nat} (hn : Node t n w b) (he : w'.heap[b]? = w.heap[b]?) : Node t n w' b := by
  obtain ⟨c, hc, hs⟩ := hn
  exact ⟨c, he.trans hc, hs⟩
theorem Node.setCell {b : Nat} (hn : Node t n w b) (b' o : Nat) (v : Value) : Node t n (w.setCell ⟨b', o, none⟩ v) b := by
  obtain ⟨c, hc, hs⟩ := hn
  by_cases hb : b' = b
  · subst hb; exact ⟨_, block_setCell hc v, by simpa using hs⟩
  · exact ⟨c, (block_other hb v).trans hc, hs⟩
theorem Node.drewN {b k : Nat} (hn : Node t n w b) : Node t n (w.drewN k) b := hn
theorem cell_set_same {b o : Nat} (hn : Node t n w b) (ho : o < n) (v : Value) : (w.setCell ⟨b, o, none⟩ v).cell? ⟨b, o, none⟩ = some v := by
  obtain ⟨c, hc, hs⟩ := hn
  rw [cell_of_block (block_setCell hc v) (by simp; omega)]
  simp
theorem cell_set_off {b o b' o' : Nat} (v : Value) (hne : b' ≠ b ∨ o' ≠ o) : (w.setCell ⟨b, o, none⟩ v).cell? ⟨b', o', none⟩ = w.cell? ⟨b', o', none⟩ := by
  by_cases hb : b' = b
  · subst hb
    have ho : o' ≠ o := hne.resolve_left (fun h => h rfl)
    unfold World.cell? World.setCell
    simp only [Array.getElem?_modify, if_true]
    cases hh : w.heap[b']? with
    | none => rfl
    | some ob =>
      cases ob <;> simp [Array.getElem?_setIfInBounds, Ne.symm ho]
  · exact World.cell?_of_block (w := w) (block_other (Ne.symm hb) v)
theorem RTurn.refl (F : Nat → Prop) (w : World) : RTurn t n p q F w w := ⟨Turn.refl _ _, rfl, fun _ _ _ _ => rfl, fun _ h => h⟩
theorem RTurn.trans {F : Nat → Prop} {a b c : World} (h : RTurn t n p q F a b) (k : RTurn t n p q F b c) : RTurn t n p q F a c :=
  ⟨h.turn.trans k.turn, k.size.trans h.size, fun b o h1 h2 => (k.cell b o h1 h2).trans (h.cell b o h1 h2), fun b hb => k.node b (h.node b hb)⟩
theorem RTurn.mono {F G : Nat → Prop} {a b : World} (h : RTurn t n p q F a b) (hG : ∀ i, F i → G i) : RTurn t n p q G a b :=
  ⟨h.turn.mono fun i hi => .inl (hG i hi), h.size, h.cell, h.node⟩
theorem RTurn.set {F : Nat → Prop} {a : World} (h : RTurn t n p q F a w) {b o : Nat} (ho : o = p ∨ o = q) (hb : F b) (v : Value) : RTurn t n p q F a (w.setCell ⟨b, o, none⟩ v) :=
  ⟨h.turn.setCell (.inl hb) v, by simp [World.setCell, h.size], fun b' o' h1 h2 => (cell_set_off v (.inr (by rcases ho with rfl | rfl <;> assumption))).trans (h.cell b' o' h1 h2), fun b' hb' => (h.node b' hb').setCell _ _ _⟩
theorem RTurn.drewN {F : Nat → Prop} {a : World} (h : RTurn t n p q F a w) (k : Nat) : RTurn t n p q F a (w.drewN k) :=
  ⟨h.turn.drewN k, h.size, h.cell, h.node⟩
/-- what the walk of unlink wants, and what it leaves -/
theorem Ring.unlinked (hp : p < n) (hq : q < n) (hpq : p ≠ q) (hr : Ring t n p q w h (xs ++ e :: ys)) :
    Link p q w (lastOf h xs) e ∧ Link p q w e (firstOf ys h) ∧ Node t n w (lastOf h xs) ∧ Node t n w (firstOf ys h) ∧ Node t n w e ∧ e ≠ lastOf h xs ∧ e ≠ firstOf ys h ∧
    ∀ k, Ring t n p q (((w.setCell ⟨lastOf h xs, q, none⟩ (ptr (firstOf ys h))).setCell ⟨firstOf ys h, p, none⟩ (ptr (lastOf h xs))).drewN k) h (xs ++ ys) ∧
      RTurn t n p q (fun b => b ∈ h :: (xs ++ ys)) w (((w.setCell ⟨lastOf h xs, q, none⟩ (ptr (firstOf ys h))).setCell ⟨firstOf ys h, p, none⟩ (ptr (lastOf h xs))).drewN k) := by
  obtain ⟨hn, hnode, hc⟩ := hr
  obtain ⟨c1, c2⟩ := Chain.app.1 hc
  have m1 := lastOf_mem h xs
  have m2 := firstOf_mem ys h
  have hn2 : (h :: (xs ++ ys)).Nodup ∧ e ∉ h :: (xs ++ ys) ∧ h ∉ xs ++ ys := by
    have h1 : (e :: (h :: (xs ++ ys))).Perm (h :: (xs ++ e :: ys)) := by
      refine (List.Perm.swap h e (xs ++ ys)).trans (List.Perm.cons h ?_)
      exact (List.perm_middle).symm
    have h2 := h1.nodup_iff.2 hn
    rw [List.nodup_cons] at h2
    exact ⟨h2.2, h2.1, (List.nodup_cons.1 h2.2).1⟩
  have in1 : lastOf h xs ∈ h :: (xs ++ ys) := by
    rcases List.mem_cons.1 m1 with h1 | h1
    · rw [h1]; simp
    · exact List.mem_cons_of_mem _ (List.mem_append_left _ h1)
  have in2 : firstOf ys h ∈ h :: (xs ++ ys) := by
    rcases List.mem_append.1 m2 with h1 | h1
    · exact List.mem_cons_of_mem _ (List.mem_append_right _ h1)
    · rw [List.mem_singleton.1 h1]; simp
  have sub : ∀ b ∈ h :: (xs ++ ys), b ∈ h :: (xs ++ e :: ys) := by
    intro b hb
    simp at hb ⊢
    rcases hb with h1 | h1 | h1
    · exact .inl h1
    · exact .inr (.inl h1)
    · exact .inr (.inr (.inr h1))
  have n1 : Node t n w (lastOf h xs) := hnode _ (sub _ in1)
  have n2 : Node t n w (firstOf ys h) := hnode _ (sub _ in2)
  refine ⟨c1.last, c2.first, n1, n2, hnode e (by simp), (fun h1 => hn2.2.1 (h1 ▸ in1)), (fun h1 => hn2.2.1 (h1 ▸ in2)), fun k => ⟨⟨hn2.1, fun b hb => ((hnode b (sub b hb)).setCell _ _ _).setCell _ _ _, ?_⟩, ?_⟩⟩
  · refine Chain.unlink c1 c2 ⟨?_, ?_⟩ (fun x hx hne => ?_) (fun x hx hne => ?_) hn2.1 hn2.2.2
    · show ((w.setCell _ _).setCell _ _).cell? _ = _
      rw [cell_set_off _ (.inr (Ne.symm hpq)), cell_set_same n1 hq]
    · show ((w.setCell _ _).setCell _ _).cell? _ = _
      rw [cell_set_same (n2.setCell _ _ _) hp]
    · show ((w.setCell _ _).setCell _ _).cell? _ = _
      rw [cell_set_off _ (.inr (Ne.symm hpq)), cell_set_off _ (.inl hne)]
    · show ((w.setCell _ _).setCell _ _).cell? _ = _
      rw [cell_set_off _ (.inl hne), cell_set_off _ (.inr hpq)]
  · exact (((RTurn.refl _ w).set (.inr rfl) in1 _).set (.inl rfl) in2 _).drewN k
/-- what the walk of link wants, and what it leaves -/
theorem Ring.linked (hp : p < n) (hq : q < n) (hpq : p ≠ q) (hr : Ring t n p q w h bs) (he : Node t n w e) (hne : e ∉ h :: bs) :
    Link p q w h (firstOf bs h) ∧ Node t n w (firstOf bs h) ∧ Node t n w h ∧ e ≠ h ∧ e ≠ firstOf bs h ∧
    Ring t n p q ((((w.setCell ⟨e, p, none⟩ (ptr h)).setCell ⟨e, q, none⟩ (ptr (firstOf bs h))).setCell ⟨firstOf bs h, p, none⟩ (ptr e)).setCell ⟨h, q, none⟩ (ptr e)) h (e :: bs) ∧
    RTurn t n p q (fun b => b ∈ e :: h :: bs) w ((((w.setCell ⟨e, p, none⟩ (ptr h)).setCell ⟨e, q, none⟩ (ptr (firstOf bs h))).setCell ⟨firstOf bs h, p, none⟩ (ptr e)).setCell ⟨h, q, none⟩ (ptr e)) := by
  obtain ⟨hn, hnode, hc⟩ := hr
  have m2 := firstOf_mem bs h
  have in2 : firstOf bs h ∈ h :: bs := by
    rcases List.mem_append.1 m2 with h1 | h1
    · exact List.mem_cons_of_mem _ h1
    · rw [List.mem_singleton.1 h1]; simp
  have eh : e ≠ h := fun h1 => hne (by rw [h1]; simp)
  have ef : e ≠ firstOf bs h := fun h1 => hne (h1 ▸ in2)
  have nh : Node t n w h := hnode h (by simp)
  have nf : Node t n w (firstOf bs h) := hnode _ in2
  have hn2 := List.nodup_cons.1 hn
  refine ⟨hc.first, nf, nh, eh, ef, ⟨?_, ?_, ?_⟩, ?_⟩
  · refine (List.Perm.swap e h bs).nodup_iff.2 (List.nodup_cons.2 ⟨hne, hn⟩)
  · intro b hb
    have hb' : Node t n w b := by
      simp only [List.mem_cons] at hb
      rcases hb with h1 | h1 | h1
      · rw [h1]; exact nh
      · rw [h1]; exact he
      · exact hnode b (List.mem_cons_of_mem _ h1)
    exact (((hb'.setCell _ _ _).setCell _ _ _).setCell _ _ _).setCell _ _ _
  · refine Chain.link hc ⟨?_, ?_⟩ ⟨?_, ?_⟩ (fun x hx => ?_) (fun x hx hx2 => ?_) hn2.2 hn2.1
    · rw [cell_set_same (((nh.setCell _ _ _).setCell _ _ _).setCell _ _ _) hq]
    · rw [cell_set_off _ (.inr hpq), cell_set_off _ (.inl ef), cell_set_off _ (.inr hpq), cell_set_same he hp]
    · rw [cell_set_off _ (.inl eh), cell_set_off _ (.inl ef), cell_set_same (he.setCell _ _ _) hq]
    · rw [cell_set_off _ (.inr hpq), cell_set_same ((nf.setCell _ _ _).setCell _ _ _) hp]
    · have xh : x ≠ h := fun h1 => hn2.1 (h1 ▸ hx)
      have xe : x ≠ e := fun h1 => hne (by rw [← h1]; exact List.mem_cons_of_mem _ hx)
      rw [cell_set_off _ (.inl xh), cell_set_off _ (.inr (Ne.symm hpq)), cell_set_off _ (.inl xe), cell_set_off _ (.inl xe)]
    · have xe : x ≠ e := by
        rintro rfl
        rcases List.mem_append.1 hx with h1 | h1
        · exact hne (List.mem_cons_of_mem _ h1)
        · exact eh (List.mem_singleton.1 h1)
      rw [cell_set_off _ (.inr hpq), cell_set_off _ (.inl hx2), cell_set_off _ (.inr hpq), cell_set_off _ (.inl xe)]
  · have in3 : firstOf bs h ∈ e :: h :: bs := List.mem_cons_of_mem _ in2
    exact ((((RTurn.refl _ w).set (.inl rfl) (by simp) _).set (.inr rfl) (by simp) _).set (.inl rfl) in3 _).set (.inr rfl) (by simp) _
end Go.Proofs.Ytfkdmbiejledoaa
