/-
  Rings of linked blocks: cell p of a block leads to the one ahead of it, cell q to the one behind it. No program, no conditions.
-/
import Derived.Test.YtfkdmbiejledoaaG0
set_option linter.unusedVariables false
set_option linter.unusedSimpArgs false
namespace Go.Proofs.Ytfkdmbiejledoaa
open Go.RowKit

abbrev ptr (b : Nat) : Value := .pointer (some ⟨b, 0, none⟩)
/-- b stands right behind a -/
def Link (p q : Nat) (w : World) (a b : Nat) : Prop := w.cell? ⟨a, q, none⟩ = some (ptr b) ∧ w.cell? ⟨b, p, none⟩ = some (ptr a)
def Chain (p q : Nat) (w : World) : Nat → List Nat → Nat → Prop
  | a, [], b => Link p q w a b
  | a, e :: es, b => Link p q w a e ∧ Chain p q w e es b
def lastOf : Nat → List Nat → Nat
  | a, [] => a
  | _, e :: es => lastOf e es
def firstOf : List Nat → Nat → Nat
  | [], b => b
  | e :: _, _ => e
variable {p q : Nat} {w w' : World}
theorem lastOf_mem (a : Nat) (l : List Nat) : lastOf a l ∈ a :: l := by
  induction l generalizing a with
  | nil => simp [lastOf]
  | cons e es ih => exact List.mem_cons_of_mem _ (ih e)
theorem firstOf_mem (l : List Nat) (b : Nat) : firstOf l b ∈ l ++ [b] := by
  cases l <;> simp [firstOf]
theorem lastOf_snoc (a : Nat) (l : List Nat) (e : Nat) : lastOf a (l ++ [e]) = e := by
  induction l generalizing a with
  | nil => rfl
  | cons x xs ih => exact ih x
theorem Chain.first {a b : Nat} {es : List Nat} (h : Chain p q w a es b) : Link p q w a (firstOf es b) := by
  cases es with
  | nil => exact h
  | cons e es => exact h.1
theorem Chain.last {a b : Nat} {es : List Nat} (h : Chain p q w a es b) : Link p q w (lastOf a es) b := by
  induction es generalizing a with
  | nil => exact h
  | cons e es ih => exact ih h.2
theorem Chain.app {a b e : Nat} {xs ys : List Nat} : Chain p q w a (xs ++ e :: ys) b ↔ Chain p q w a xs e ∧ Chain p q w e ys b := by
  induction xs generalizing a with
  | nil => exact Iff.rfl
  | cons x xs ih => simp only [List.cons_append, Chain, ih, and_assoc]
theorem Chain.congr {a b : Nat} {es : List Nat} (h : Chain p q w a es b) (hq : ∀ x ∈ a :: es, w'.cell? ⟨x, q, none⟩ = w.cell? ⟨x, q, none⟩) (hp : ∀ x ∈ es ++ [b], w'.cell? ⟨x, p, none⟩ = w.cell? ⟨x, p, none⟩) : Chain p q w' a es b := by
  induction es generalizing a with
  | nil => exact ⟨(hq a (by simp)).trans h.1, (hp b (by simp)).trans h.2⟩
  | cons e es ih =>
    exact ⟨⟨(hq a (by simp)).trans h.1.1, (hp e (by simp)).trans h.1.2⟩, ih h.2 (fun x hx => hq x (List.mem_cons_of_mem _ hx)) (fun x hx => hp x (by simp at hx ⊢; exact .inr hx))⟩
/-- e is taken out: the one ahead of it and the one behind it are linked -/
theorem Chain.unlink {a b e : Nat} {xs ys : List Nat} (h1 : Chain p q w a xs e) (h2 : Chain p q w e ys b) (hl : Link p q w' (lastOf a xs) (firstOf ys b))
    (hq : ∀ x ∈ a :: (xs ++ ys), x ≠ lastOf a xs → w'.cell? ⟨x, q, none⟩ = w.cell? ⟨x, q, none⟩) (hp : ∀ x ∈ xs ++ (ys ++ [b]), x ≠ firstOf ys b → w'.cell? ⟨x, p, none⟩ = w.cell? ⟨x, p, none⟩)
    (hn : (a :: (xs ++ ys)).Nodup) (hb : b ∉ xs ++ ys) : Chain p q w' a (xs ++ ys) b := by
  induction xs generalizing a with
  | nil =>
    cases ys with
    | nil => exact hl
    | cons y ys =>
      simp only [List.nil_append, List.nodup_cons, List.mem_cons, not_or] at hn
      refine ⟨hl, h2.2.congr (fun x hx => hq x (List.mem_cons_of_mem _ hx) ?_) (fun x hx => hp x (List.mem_cons_of_mem _ hx) ?_)⟩
      · intro he
        have hx' : a ∈ y :: ys := by rw [← show x = a from he]; exact hx
        rcases List.mem_cons.1 hx' with h | h
        · exact hn.1.1 h
        · exact hn.1.2 h
      · intro he
        have he' : x = y := he
        subst he'
        rcases List.mem_append.1 hx with h | h
        · exact hn.2.1 h
        · exact hb (by rw [← List.mem_singleton.1 h]; simp)
  | cons x xs ih =>
    have hn' := hn
    simp only [List.cons_append, List.nodup_cons, List.mem_cons, not_or] at hn
    have hla : lastOf a (x :: xs) = lastOf x xs := rfl
    have hlm := lastOf_mem x xs
    refine ⟨⟨(hq a (by simp) ?_).trans h1.1.1, (hp x (by simp) ?_).trans h1.1.2⟩, ih h1.2 hl (fun z hz => hq z (List.mem_cons_of_mem _ hz)) (fun z hz => hp z (by simp at hz ⊢; exact .inr hz)) (List.nodup_cons.2 hn.2) (fun h => hb (by simp at h ⊢; exact .inr h))⟩
    · rw [hla]; rintro rfl; rcases List.mem_cons.1 hlm with h | h
      · exact hn.1.1 h
      · exact hn.1.2 (List.mem_append_left _ h)
    · intro he
      have := firstOf_mem ys b
      rw [← he] at this
      rcases List.mem_append.1 this with h | h
      · exact hn.2.1 (List.mem_append_right _ h)
      · simp at h; subst h; exact hb (by simp)
/-- e is put right behind a -/
theorem Chain.link {a b e : Nat} {es : List Nat} (h : Chain p q w a es b) (h1 : Link p q w' a e) (h2 : Link p q w' e (firstOf es b))
    (hq : ∀ x ∈ es, w'.cell? ⟨x, q, none⟩ = w.cell? ⟨x, q, none⟩) (hp : ∀ x ∈ es ++ [b], x ≠ firstOf es b → w'.cell? ⟨x, p, none⟩ = w.cell? ⟨x, p, none⟩)
    (hn : es.Nodup) (hb : b ∉ es) : Chain p q w' a (e :: es) b := by
  refine ⟨h1, ?_⟩
  cases es with
  | nil => exact h2
  | cons y ys =>
    simp only [List.nodup_cons] at hn
    refine ⟨h2, h.2.congr (fun x hx => hq x hx) (fun x hx => hp x (List.mem_cons_of_mem _ hx) ?_)⟩
    intro he
    have he' : x = y := he
    subst he'
    rcases List.mem_append.1 hx with h | h
    · exact hn.1 h
    · exact hb (by rw [← List.mem_singleton.1 h]; simp)
theorem Chain.at {a b : Nat} {es : List Nat} (h : Chain p q w a es b) (i : Nat) (hi : i < es.length) : w.cell? ⟨es[i], q, none⟩ = some (ptr (firstOf (es.drop (i + 1)) b)) := by
  have e : es = es.take i ++ es[i] :: es.drop (i + 1) := by rw [← List.drop_eq_getElem_cons hi, List.take_append_drop]
  rw [e] at h
  exact (Chain.app.1 h).2.first.1
theorem firstOf_drop {es : List Nat} {b i : Nat} (hi : i < es.length) : firstOf (es.drop i) b = es[i] := by
  rw [List.drop_eq_getElem_cons hi]; rfl
theorem firstOf_end {es : List Nat} {b i : Nat} (hi : es.length ≤ i) : firstOf (es.drop i) b = b := by
  rw [List.drop_eq_nil_of_le hi]; rfl
end Go.Proofs.Ytfkdmbiejledoaa
