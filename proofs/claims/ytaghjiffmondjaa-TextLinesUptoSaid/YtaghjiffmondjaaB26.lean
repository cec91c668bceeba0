/-
  the law TextLines, walked: it answers true.
-/
import Derived.Test.YtaghjiffmondjaaB25
import Derived.Deep.DeepCutAuto
set_option linter.unusedVariables false
set_option linter.unusedSimpArgs false
namespace Go.Proofs.Ytaghjiffmondjaa
open Go.RowKit

theorem run_append_zero {P : Program} {w : World} (base : Nat) (t ty e : TypeId) (i : TypeInfo) (size : Nat) (ht : P.underlying t = some (.slice e)) (hi : P.info? e = some i)
    (v : Value) (n : Nat) (xs : List Value) (hown : w.ownsRow base e size v n xs) (A : Option Addr) (c : Nat) :
    (Builtin.append_ #[t, t] ty #[v, .slice A 0 c]).run P w = .ok v w := by
  rcases hown.2 with ⟨rfl, rfl⟩ | ⟨g, cap, cur, rfl, _, _, hnc, _⟩
  · cases A <;> simp [Builtin.append_, run_underlying ht, sizeOf, typeInfo, hi, Builtin.lenOf, Builtin.firstCells, loadCells, loadCellsFrom]
  · cases A <;> simp [Builtin.append_, run_underlying ht, sizeOf, typeInfo, hi, Builtin.lenOf, Builtin.firstCells, hnc, storeCells, loadCells, loadCellsFrom]
theorem wpList_append_zero {P : Program} {w : World} {ops : Array Oper} {rest : List Oper} {o : Oper} {a : Act} {Q : Exit → Act → World → Prop} (hgd : o.guard = none) (s x : Operand) (t : TypeId)
    (ho : o.op = .call { callee := .builtin .append, args := #[s, x], argTypes := #[t, t] })
    (base : Nat) (e : TypeId) (i : TypeInfo) (size : Nat) (ht : P.underlying t = some (.slice e)) (hi : P.info? e = some i)
    (v : Value) (n : Nat) (xs : List Value) (hs : a.eval s = v) (hown : w.ownsRow base e size v n xs) (A : Option Addr) (c : Nat) (hx : a.eval x = .slice A 0 c)
    (h : wpList P ops Q rest (a.put o.dst v) w) : wpList P ops Q (o :: rest) a w := by
  refine wpList_plain hgd fun K hK => ?_
  have hrun := run_append_zero (P := P) (w := w) base t o.type e i size ht hi v n xs hown A c
  unfold Oper.wp
  simp [execOp, ho, resolve, invoke, builtin, hs, hx, hrun, Result.andThen]
  exact hK _ _ h

def OTHER : ByteArray := ⟨#[111, 116, 104, 101, 114]⟩
def BEHIND : ByteArray := ⟨#[98, 101, 104, 105, 110, 100]⟩
/-- the list that is longer by one: its first n places hold xs -/
def FullW (g cap n : Nat) (w : World) (xs : List ByteArray) : Prop :=
  ∃ C : Array Value, w.heap[g]? = some (.cells C 9 (0, 0)) ∧ n < C.size ∧ C.size = cap ∧ xs.length = n ∧ C.toList.take n = xs.map Value.string ∧ C[n]? = some (.string BEHIND)
theorem FullW.cell {g cap n : Nat} {w : World} {xs : List ByteArray} (h : FullW g cap n w xs) (i : Nat) (hi : i < n) (h2 : i < xs.length) : w.cell? ⟨g, i, none⟩ = some (.string xs[i]) := by
  obtain ⟨C, hC, _, _, hx, ht, _⟩ := h
  have h1 : (C.toList.take n)[i]? = (xs.map Value.string)[i]? := by rw [ht]
  rw [List.getElem?_take, if_pos hi, List.getElem?_map, List.getElem?_eq_getElem h2] at h1
  simp only [World.cell?, hC]
  simpa using h1
theorem FullW.behind {g cap n : Nat} {w : World} {xs : List ByteArray} (h : FullW g cap n w xs) : w.cell? ⟨g, n, none⟩ = some (.string BEHIND) := by
  obtain ⟨C, hC, _, _, hx, ht, hb⟩ := h
  simp only [World.cell?, hC]
  simpa using hb
theorem FullW.strs {g cap n : Nat} {w : World} {xs : List ByteArray} (h : FullW g cap n w xs) (c : Nat) : StrsIn w (.slice (some ⟨g, 0, none⟩) n c) xs := by
  have hx : xs.length = n := by obtain ⟨C, _, _, _, hx, _⟩ := h; exact hx
  refine ⟨_, c, by rw [hx], fun hp => ⟨g, 0, rfl, ?_, fun i hi => ?_⟩⟩
  · obtain ⟨C, hC, _⟩ := h
    exact (Array.getElem?_eq_some_iff.1 hC).1
  · rw [Nat.zero_add]
    exact h.cell i (by omega) hi
theorem FullW.set {g cap n : Nat} {w : World} {xs : List ByteArray} (h : FullW g cap n w xs) (i : Nat) (hi : i < n) (y : ByteArray) : FullW g cap n (w.setCell ⟨g, i, none⟩ (.string y)) (xs.set i y) := by
  obtain ⟨C, hC, hn, hs, hx, ht, hb⟩ := h
  refine ⟨_, block_setCell hC _, by simpa using hn, by simpa using hs, by simpa using hx, ?_, ?_⟩
  · rw [Array.toList_setIfInBounds, List.take_set, ht, List.map_set]
  · rw [Array.getElem?_setIfInBounds_ne (by omega)]; exact hb
theorem FullW.keep {g cap n : Nat} {w w' : World} {xs : List ByteArray} (h : FullW g cap n w xs) (hb : w'.heap[g]? = w.heap[g]?) : FullW g cap n w' xs := by
  obtain ⟨C, hC, r⟩ := h
  exact ⟨C, by rw [hb, hC], r⟩
theorem FullW.frozen {g cap n : Nat} {w : World} {xs : List ByteArray} (h : FullW g cap n w xs) (i : Nat) : w.frozen? ⟨g, i, none⟩ = false := by
  obtain ⟨C, hC, _⟩ := h
  exact frozen_of_block (off := i) hC
theorem set_other (ls : List ByteArray) (y : ByteArray) (i : Nat) (hi : i < ls.length) : (List.replicate i y ++ ls.drop i).set i y = List.replicate (i + 1) y ++ ls.drop (i + 1) := by
  rw [List.set_append_right _ _ (by simp), List.length_replicate, Nat.sub_self, List.drop_eq_getElem_cons hi, List.set_cons_zero, List.replicate_succ', List.append_assoc]; rfl
theorem set_back (ls : List ByteArray) (y : ByteArray) (i : Nat) (hi : i < ls.length) : (ls.take i ++ List.replicate (ls.length - i) y).set i ls[i] = ls.take (i + 1) ++ List.replicate (ls.length - (i + 1)) y := by
  rw [List.set_append_right _ _ (by simp; omega), List.take_succ_eq_append_getElem hi, List.append_assoc]
  congr 1
  have h1 : (ls.take i).length = i := by simp; omega
  rw [h1, Nat.sub_self, show ls.length - i = (ls.length - (i + 1)) + 1 by omega, List.replicate_succ, List.set_cons_zero]
  rfl
theorem sumL_other (n : Nat) : sumL (List.replicate n OTHER) = 6 * n := by
  unfold sumL
  induction n with
  | zero => rfl
  | succ n ih => rw [List.replicate_succ, List.map_cons, List.sum_cons, ih]; show 5 + 1 + _ = _; omega
end Go.Proofs.Ytaghjiffmondjaa
