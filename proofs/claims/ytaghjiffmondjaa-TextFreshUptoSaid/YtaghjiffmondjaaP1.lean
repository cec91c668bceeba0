/-
  Plain laws: lists of lines joined and parted.
-/
import Derived.Test.YtaghjiffmondjaaB16
set_option linter.unusedVariables false
set_option linter.unusedSimpArgs false
namespace Go.Proofs.Ytaghjiffmondjaa
open Go.RowKit

theorem partL_sep (c : UInt8) (p l : List UInt8) (h : ∀ x ∈ p, x ≠ c) : partL c (p ++ c :: l) = p :: partL c l := by
  induction p with
  | nil => simp [partL]
  | cons x p ih =>
    simp only [List.cons_append, partL]
    rw [if_neg (h x (by simp)), ih (fun y hy => h y (by simp [hy]))]
theorem noNl_ne {l : ByteArray} (h : noNl l = true) : ∀ x ∈ l.data.toList, x ≠ 10 := by
  intro x hx
  have := List.all_eq_true.1 h x hx
  simpa using this
theorem part_join (ls : List ByteArray) (h : ∀ l ∈ ls, noNl l = true) : partL 10 (joinL ls) = ls.map (fun l => l.data.toList) ++ [[]] := by
  unfold joinL
  induction ls with
  | nil => rfl
  | cons l ls ih =>
    rw [List.flatMap_cons, List.append_assoc, List.singleton_append, partL_sep 10 _ _ (noNl_ne (h l (by simp))), ih (fun k hk => h k (by simp [hk]))]
    rfl
/-- of a text that ends with the byte: its parts but the last, which is empty -/
theorem partL_end (c : UInt8) (l : List UInt8) : partL c (l ++ [c]) = partL c l ++ [[]] := partL_snoc c l [] (by simp)
theorem part_drop (c : UInt8) (l : List UInt8) (h : l.getLast? = some c) : partL c l = partL c l.dropLast ++ [[]] := by
  have hne : l ≠ [] := by intro h2; rw [h2] at h; cases h
  have e : l = l.dropLast ++ [c] := by
    have h3 := List.dropLast_concat_getLast hne
    rw [List.getLast?_eq_some_getLast hne] at h
    rw [Option.some.inj h] at h3
    exact h3.symm
  conv => lhs; rw [e]
  exact partL_end c _
theorem joinL_last (ls : List ByteArray) (h : ls ≠ []) : (joinL ls).getLast? = some 10 := by
  unfold joinL
  induction ls with
  | nil => exact absurd rfl h
  | cons l ls ih =>
    rw [List.flatMap_cons]
    by_cases h2 : ls = []
    · subst h2; simp
    · rw [List.getLast?_append, ih h2]; rfl
/-- lines without newlines, joined and parted -/
theorem lines_join (ls : List ByteArray) (h : ls.all noNl = true) : linesOf (mk (joinL ls)) = (ls, 0) := by
  by_cases h0 : ls = []
  · subst h0; rfl
  · have hl := joinL_last ls h0
    unfold linesOf
    rw [mk_list, mk_size, if_neg (by intro h2; rw [List.length_eq_zero_iff.1 h2] at hl; cases hl), if_pos hl]
    have h1 := part_join ls (fun l hl => List.all_eq_true.1 h l hl)
    rw [part_drop 10 _ hl] at h1
    rw [List.append_cancel_right h1, List.map_map]
    have : (mk ∘ fun l : ByteArray => l.data.toList) = id := by funext l; exact mk_data l
    rw [this, List.map_id]
theorem joinL_part (l : List UInt8) : joinL ((partL 10 l).map mk) = l ++ [10] := by
  unfold joinL
  induction l with
  | nil => rfl
  | cons x l ih =>
    unfold partL
    split
    · rename_i hx
      subst hx
      rw [List.map_cons, List.flatMap_cons, ih]; rfl
    · have hn := partL_ne 10 l
      cases hp : partL 10 l with
      | nil => exact absurd hp hn
      | cons q qs =>
        rw [hp] at ih
        simp only [List.map_cons, List.flatMap_cons, mk_list] at ih ⊢
        simp only [List.cons_append, ih]
theorem partL_no (l : List UInt8) : ∀ p ∈ partL 10 l, ∀ x ∈ p, x ≠ 10 := by
  induction l with
  | nil => intro p hp; simp [partL] at hp; subst hp; simp
  | cons x l ih =>
    unfold partL
    split
    · intro p hp
      rcases List.mem_cons.1 hp with rfl | hp
      · simp
      · exact ih p hp
    · rename_i hx
      have hn := partL_ne 10 l
      cases hp : partL 10 l with
      | nil => exact absurd hp hn
      | cons q qs =>
        rw [hp] at ih
        intro p hp2
        rcases List.mem_cons.1 hp2 with rfl | hp2
        · intro y hy
          rcases List.mem_cons.1 hy with rfl | hy
          · exact hx
          · exact ih q (by simp) y hy
        · exact ih p (by simp [hp2])
/-- a text that ends with a newline, parted and joined -/
theorem join_lines (s : ByteArray) (l : List UInt8) (hs : s = mk (l ++ [10])) : (linesOf s).2 = 0 ∧ joinOf (linesOf s).1 = (s, 0) ∧ sumL (linesOf s).1 = s.size := by
  have e : linesOf s = ((partL 10 l).map mk, 0) := by
    unfold linesOf
    rw [if_neg (by rw [hs, mk_size]; simp), hs, mk_list, if_pos (by simp)]
    simp
  rw [e]
  refine ⟨rfl, ?_, ?_⟩
  · unfold joinOf
    rw [if_pos (List.all_eq_true.2 fun p hp => by
      obtain ⟨q, hq, rfl⟩ := List.mem_map.1 hp
      unfold noNl
      rw [mk_list]
      exact List.all_eq_true.2 fun x hx => by simpa using partL_no l q hq x hx), joinL_part, hs]
  · show sumL ((partL 10 l).map mk) = _
    rw [← joinL_len, joinL_part, hs, mk_size]
end Go.Proofs.Ytaghjiffmondjaa
