/-
  Lists in memory, of cells, that are only read; where they lie. No conditions.
-/
import Derived.Test.YtfkdmbiejledoaaG4
set_option linter.unusedVariables false
set_option linter.unusedSimpArgs false
namespace Go.Proofs.Ytfkdmbiejledoaa
open Go.RowKit

/-- v is a slice that reads as us (one cell each); its block (if there is anything in it) is one of B -/
def SlIn (w : World) (v : Value) (us : List Value) (B : Nat → Prop) : Prop :=
  ∃ A cap, v = .slice A us.length cap ∧ us.length ≤ cap ∧ (0 < us.length → ∃ b o, A = some ⟨b, o, none⟩ ∧ b < w.heap.size ∧ B b ∧ ∀ i (h : i < us.length), w.cell? ⟨b, o + i, none⟩ = some us[i])
section
variable {w w' : World} {v : Value} {us : List Value} {B B' fp fp' : Nat → Prop}
theorem SlIn.mono (h : SlIn w v us B) (hB : ∀ b, b < w.heap.size → B b → B' b) : SlIn w v us B' := by
  obtain ⟨A, cap, rfl, hc, h⟩ := h
  exact ⟨A, cap, rfl, hc, fun hp => by obtain ⟨b, o, h1, h2, h3, h4⟩ := h hp; exact ⟨b, o, h1, h2, hB b h2 h3, h4⟩⟩
theorem SlIn.keep (h : SlIn w v us B) (hs : w.heap.size ≤ w'.heap.size) (hk : ∀ b, b < w.heap.size → B b → w'.heap[b]? = w.heap[b]?) : SlIn w' v us B := by
  obtain ⟨A, cap, rfl, hc, h⟩ := h
  refine ⟨A, cap, rfl, hc, fun hp => ?_⟩
  obtain ⟨b, o, h1, h2, h3, h4⟩ := h hp
  exact ⟨b, o, h1, by omega, h3, fun i hi => (World.cell?_of_block (w := w) (hk b h2 h3)).trans (h4 i hi)⟩
theorem SlIn.below (h : SlIn w v us B) (hb : Below w.heap.size w w') : SlIn w' v us B := h.keep hb.size fun b hb' _ => hb.block b hb'
theorem SlIn.turn (h : SlIn w v us fun b => ¬ fp b) (ht : Turn fp w w') (hf : ∀ b, fp' b → fp b ∨ w.heap.size ≤ b) : SlIn w' v us fun b => ¬ fp' b :=
  ((h.mono (B' := fun b => ¬ fp b ∧ b < w.heap.size) fun b hb h => ⟨h, hb⟩).keep ht.size fun b hb h => ht.block b hb h.1).mono fun b _ h hf' => (hf b hf').elim h.1 (fun h2 => by omega)
theorem SlIn.of_own {e n base : Nat} (h : w.ownsRow base e 1 v n us) : SlIn w v us (base ≤ ·) := by
  have hl : us.length = n := by have := h.1; omega
  rcases h.2 with ⟨rfl, h0⟩ | ⟨g, cap, cur, rfl, hB, hg, hn, hm, hs, ht⟩
  · exact ⟨none, 0, by rw [hl, h0], by omega, fun h => by omega⟩
  · refine ⟨some ⟨g, 0, none⟩, cap, by rw [hl], by omega, fun _ => ⟨g, 0, rfl, block_lt hg, hB, fun i hi => ?_⟩⟩
    have := World.ownsRow.cells (g := g) h rfl i us[i] (by simp [hi])
    rw [Addr.add_lit] at this
    exact this
theorem SlIn.nil (B : Nat → Prop) : SlIn w (.slice none 0 0) [] B := ⟨none, 0, rfl, Nat.le_refl _, fun h => by simp at h⟩
theorem SlIn.drewN (h : SlIn w v us B) (k : Nat) : SlIn (w.drewN k) v us B := h
/-- the first m of them -/
theorem SlIn.take (h : SlIn w v us B) {A : Option Addr} {cap n : Nat} (hv : v = .slice A n cap) {m : Nat} (hm : m ≤ us.length) : SlIn w (.slice A m cap) (us.take m) B := by
  obtain ⟨A', cap', rfl, hc, h⟩ := h
  injection hv with e1 e2 e3
  subst e1 e3
  have hl : (us.take m).length = m := by rw [List.length_take]; omega
  refine ⟨A', cap', by rw [hl], by omega, fun hp => ?_⟩
  obtain ⟨b, o, h1, h2, h3, h4⟩ := h (by omega)
  refine ⟨b, o, h1, h2, h3, fun i hi => ?_⟩
  rw [h4 i (by omega), List.getElem_take]
end
/-- a row whose block is known -/
theorem ownsRow_at {w w' : World} {B e size n m g cap : Nat} {xs : List Value} (h : w.ownsRow B e size (.slice (some ⟨g, 0, none⟩) m cap) n xs) (hk : w'.heap[g]? = w.heap[g]?) : w'.ownsRow g e size (.slice (some ⟨g, 0, none⟩) m cap) n xs := by
  refine ⟨h.1, ?_⟩
  rcases h.2 with ⟨hv, _⟩ | ⟨g', cap', cur, hv, hb, hg, rest⟩
  · cases hv
  · injection hv with e1 e2 e3
    injection e1 with e1
    injection e1 with e1
    subst e1
    exact .inr ⟨g, cap', cur, by rw [e2, e3], Nat.le_refl _, hk.trans hg, rest⟩
/-- one cell of an owned row is written -/
theorem ownsRow_set {w : World} {B e n g cap i : Nat} {xs : List Value} (h : w.ownsRow B e 1 (.slice (some ⟨g, 0, none⟩) n cap) n xs) (hi : i < n) {v : Value} : (w.setCell ⟨g, i, none⟩ v).ownsRow g e 1 (.slice (some ⟨g, 0, none⟩) n cap) n (xs.set i v) := by
  have hl := h.1
  refine ⟨by rw [List.length_set]; exact hl, ?_⟩
  rcases h.2 with ⟨hv, _⟩ | ⟨g', cap', cur, hv, hb, hg, hn, hc, hs, ht⟩
  · cases hv
  · injection hv with e1 e2 e3
    injection e1 with e1
    injection e1 with e1
    subst e1 e3
    refine .inr ⟨g, cap, cur.setIfInBounds i v, rfl, Nat.le_refl _, block_setCell hg v, hn, hc, by simpa using hs, ?_⟩
    rw [Array.toList_setIfInBounds, List.take_set, ht]
theorem ownsRow_cell {w : World} {B e n g cap i : Nat} {xs : List Value} (h : w.ownsRow B e 1 (.slice (some ⟨g, 0, none⟩) n cap) n xs) (hi : i < n) : (∃ u, w.cell? ⟨g, i, none⟩ = some u) ∧ w.frozen? ⟨g, i, none⟩ = false := by
  rcases h.2 with ⟨hv, _⟩ | ⟨g', cap', cur, hv, hb, hg, hn, hc, hs, ht⟩
  · cases hv
  · injection hv with e1 e2 e3
    injection e1 with e1
    injection e1 with e1
    subst e1 e3
    exact ⟨⟨_, cell_of_block hg (by omega)⟩, frozen_of_block hg⟩
def pickZ (k n : Int) : Int := if k.tmod n < 0 then k.tmod n + n else k.tmod n
theorem pickZ_in (k n : Int) (h : 0 < n) : 0 ≤ pickZ k n ∧ pickZ k n < n := by
  have h1 := Int.tmod_lt_of_pos k h
  have h2 : -n < k.tmod n := by
    have := Int.lt_tmod_of_pos k h
    exact this
  unfold pickZ
  split <;> omega
/-- the digits of a number, at most f of them -/
def dN : Nat → Nat → List UInt8
  | 0, _ => []
  | f + 1, u => if u ≤ 9 then [UInt8.ofNat (48 + u)] else dN f (u / 10) ++ [UInt8.ofNat (48 + u % 10)]
theorem dN_len : ∀ f u, (dN f u).length ≤ f
  | 0, _ => by simp [dN]
  | f + 1, u => by
    unfold dN
    split
    · simp
    · have := dN_len f (u / 10); simp; omega
end Go.Proofs.Ytfkdmbiejledoaa
