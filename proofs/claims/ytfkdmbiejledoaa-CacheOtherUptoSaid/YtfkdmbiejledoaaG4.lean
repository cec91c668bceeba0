/-
  What a cache answers, told by a list of keys and values, the newest first; a cache as an object with the blocks that are its own. No conditions.
-/
import Derived.Test.YtfkdmbiejledoaaG3
set_option linter.unusedVariables false
set_option linter.unusedSimpArgs false
namespace Go.Proofs.Ytfkdmbiejledoaa
open Go.RowKit

section
variable {κ ν : Type} [DecidableEq κ]
def findV (es : List (κ × ν)) (k : κ) : Option ν := (es.find? fun x => decide (x.1 = k)).map (·.2)
def rem (es : List (κ × ν)) (k : κ) : List (κ × ν) := es.filter fun x => !decide (x.1 = k)
theorem findV_none {es : List (κ × ν)} {k : κ} (h : findV es k = none) : k ∉ es.map (·.1) := by
  unfold findV at h
  intro hk
  obtain ⟨x, hx, rfl⟩ := List.mem_map.1 hk
  rw [Option.map_eq_none_iff, List.find?_eq_none] at h
  exact h x hx (by simp)
theorem findV_notin {es : List (κ × ν)} {k : κ} (h : k ∉ es.map (·.1)) : findV es k = none := by
  unfold findV
  rw [Option.map_eq_none_iff, List.find?_eq_none]
  intro x hx
  simp only [decide_eq_true_eq]
  rintro rfl
  exact h (List.mem_map_of_mem hx)
theorem findV_some {es : List (κ × ν)} {k : κ} {v : ν} (h : findV es k = some v) : ∃ xs ys, es = xs ++ (k, v) :: ys ∧ k ∉ xs.map (·.1) := by
  induction es with
  | nil => cases h
  | cons x es ih =>
    unfold findV at h
    rw [List.find?_cons] at h
    by_cases hx : x.1 = k
    · simp only [hx, decide_true] at h
      obtain ⟨a, b⟩ := x
      simp only at hx
      subst hx
      simp only [Option.map_some, Option.some.injEq] at h
      exact ⟨[], es, by rw [h]; rfl, by simp⟩
    · simp only [hx, decide_false] at h
      obtain ⟨xs, ys, h1, h2⟩ := ih h
      refine ⟨x :: xs, ys, by rw [h1]; rfl, ?_⟩
      simp only [List.map_cons, List.mem_cons, not_or]
      exact ⟨fun e => hx e.symm, h2⟩
theorem rem_notin {es : List (κ × ν)} {k : κ} (h : k ∉ es.map (·.1)) : rem es k = es := by
  unfold rem
  rw [List.filter_eq_self]
  intro x hx
  simp only [Bool.not_eq_true', decide_eq_false_iff_not]
  rintro rfl
  exact h (List.mem_map_of_mem hx)
theorem rem_mid {xs ys : List (κ × ν)} {k : κ} {v : ν} (h : ((xs ++ (k, v) :: ys).map (·.1)).Nodup) : rem (xs ++ (k, v) :: ys) k = xs ++ ys := by
  rw [List.map_append, List.map_cons] at h
  have h2 := (List.perm_middle.nodup_iff).1 h
  rw [List.nodup_cons, List.mem_append, not_or] at h2
  have e1 : rem (xs ++ (k, v) :: ys) k = rem xs k ++ rem ys k := by
    unfold rem
    rw [List.filter_append, List.filter_cons]
    simp
  rw [e1, rem_notin h2.1.1, rem_notin h2.1.2]
end
/-- a cache, and the blocks that are its own -/
def CObj {κ ν : Type} (I : CK κ ν) (w : World) (c : Nat) (most : Int) (es : List (κ × ν)) (hits misses gone : Int) (fp : Nat → Prop) : Prop :=
  ∃ m h L, CRep I w c m h most L hits misses gone ∧ L.map (·.2) = es ∧ ∀ b, fp b ↔ CFp c m h L b
section
variable {κ ν : Type} {I : CK κ ν} {w w' : World} {c : Nat} {most : Int} {es : List (κ × ν)} {hits misses gone : Int} {fp : Nat → Prop}
theorem CObj.keep (H : CObj I w c most es hits misses gone fp) (hk : ∀ b, fp b → w'.heap[b]? = w.heap[b]?) : CObj I w' c most es hits misses gone fp := by
  obtain ⟨m, h, L, h1, h2, h3⟩ := H
  exact ⟨m, h, L, h1.keep fun b hb => hk b ((h3 b).2 hb), h2, h3⟩
theorem CObj.lt (H : CObj I w c most es hits misses gone fp) {b : Nat} (hb : fp b) : b < w.heap.size := by
  obtain ⟨m, h, L, h1, h2, h3⟩ := H
  exact h1.lt ((h3 b).1 hb)
theorem CObj.nodup (H : CObj I w c most es hits misses gone fp) : (es.map (·.1)).Nodup := by
  obtain ⟨m, h, L, h1, h2, h3⟩ := H
  have := h1.keys
  rw [← h2, List.map_map]
  exact this
theorem CObj.mk' {m h : Nat} {L : List (Nat × κ × ν)} (H : CRep I w c m h most L hits misses gone) : CObj I w c most (L.map (·.2)) hits misses gone (CFp c m h L) := ⟨m, h, L, H, rfl, fun _ => Iff.rfl⟩
/-- an entry, and the blocks, taken apart -/
theorem split_mid {L : List (Nat × κ × ν)} {xs ys : List (κ × ν)} {x : κ × ν} (h : L.map (·.2) = xs ++ x :: ys) : ∃ b xs' ys', L = xs' ++ (b, x) :: ys' ∧ xs'.map (·.2) = xs ∧ ys'.map (·.2) = ys := by
  obtain ⟨l1, l2, h1, h2, h3⟩ := List.map_eq_append_iff.1 h
  obtain ⟨y, l3, h4, h5, h6⟩ := List.map_eq_cons_iff.1 h3
  subst h4
  obtain ⟨b, x'⟩ := y
  simp only at h5
  subst h5
  exact ⟨b, l1, l3, h1, h2, h6⟩
theorem keys_es {L : List (Nat × κ × ν)} : (L.map (·.2)).map (·.1) = L.map (·.2.1) := by rw [List.map_map]; rfl
end
end Go.Proofs.Ytfkdmbiejledoaa
