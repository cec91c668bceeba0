/-
  Lists of structs of three cells that are only read; an append of nothing. No conditions.
-/
import Derived.Test.YtfkdmbiejledoaaG5
set_option linter.unusedVariables false
set_option linter.unusedSimpArgs false
namespace Go.Proofs.Ytfkdmbiejledoaa
open Go.RowKit

theorem run_append_zero {P : Program} {w : World} (base : Nat) (t ty e : TypeId) (i : TypeInfo) (size : Nat) (ht : P.underlying t = some (.slice e)) (hi : P.info? e = some i)
    (v : Value) (n : Nat) (xs : List Value) (hown : w.ownsRow base e size v n xs) (A : Option Addr) (c : Nat) :
    (Builtin.append_ #[t, t] ty #[v, .slice A 0 c]).run P w = .ok v w := by
  rcases hown.2 with ⟨rfl, rfl⟩ | ⟨g, cap, cur, rfl, _, _, hnc, _⟩
  · cases A <;> simp [Builtin.append_, run_underlying ht, sizeOf, typeInfo, hi, Builtin.lenOf, Builtin.firstCells, loadCells, loadCellsFrom]
  · cases A <;> simp [Builtin.append_, run_underlying ht, sizeOf, typeInfo, hi, Builtin.lenOf, Builtin.firstCells, hnc, storeCells, loadCells, loadCellsFrom]
theorem wpList_append_zero {P : Program} {w : World} {ops : Array Oper} {rest : List Oper} {o : Oper} {a : Act} {Q : Exit → Act → World → Prop} (hgd : o.guard = none) (s x : Operand) (t : TypeId)
    (ho : o.op = .call { callee := .builtin .append, args := #[s, x], argTypes := #[t, t] })
    (base : Nat) (e : TypeId) (i : TypeInfo) (size : Nat) (ht : P.underlying t = some (.slice e)) (hi : P.info? e = some i)
    (v : Value) (n : Nat) (xs : List Value) (hs : a.eval s = v) (hown : w.ownsRow base e size v n xs) (A : Option Addr) (c : Nat) (hx : a.eval x = .slice A 0 c)
    (h : wpList P ops Q rest (a.put o.dst v) w) : wpList P ops Q (o :: rest) a w := by
  refine wpList_plain hgd fun K hK => ?_
  have hrun := run_append_zero (P := P) (w := w) base t o.type e i size ht hi v n xs hown A c
  unfold Oper.wp
  simp [execOp, ho, resolve, invoke, builtin, hs, hx, hrun, Result.andThen]
  exact hK _ _ h
structure OpV where
  kind : Int
  k : Int
  val : ByteArray
def OpV.cells (x : OpV) : List Value := [.int .i64 x.kind, .int .i64 x.k, .string x.val]
/-- v is a slice that reads as these structs; its block is one of B -/
def OpsIn (w : World) (v : Value) (os : List OpV) (B : Nat → Prop) : Prop :=
  ∃ A cap, v = .slice A os.length cap ∧ os.length ≤ cap ∧ (0 < os.length → ∃ b o, A = some ⟨b, o, none⟩ ∧ b < w.heap.size ∧ B b ∧ ∀ i (h : i < os.length) (j : Nat) u, (os[i]).cells[j]? = some u → w.cell? ⟨b, o + i * 3 + j, none⟩ = some u)
section
variable {w w' : World} {v : Value} {os : List OpV} {B B' fp fp' : Nat → Prop}
theorem OpsIn.mono (h : OpsIn w v os B) (hB : ∀ b, b < w.heap.size → B b → B' b) : OpsIn w v os B' := by
  obtain ⟨A, cap, rfl, hc, h⟩ := h
  exact ⟨A, cap, rfl, hc, fun hp => by obtain ⟨b, o, h1, h2, h3, h4⟩ := h hp; exact ⟨b, o, h1, h2, hB b h2 h3, h4⟩⟩
theorem OpsIn.keep (h : OpsIn w v os B) (hs : w.heap.size ≤ w'.heap.size) (hk : ∀ b, b < w.heap.size → B b → w'.heap[b]? = w.heap[b]?) : OpsIn w' v os B := by
  obtain ⟨A, cap, rfl, hc, h⟩ := h
  refine ⟨A, cap, rfl, hc, fun hp => ?_⟩
  obtain ⟨b, o, h1, h2, h3, h4⟩ := h hp
  exact ⟨b, o, h1, by omega, h3, fun i hi j u hu => (World.cell?_of_block (w := w) (hk b h2 h3)).trans (h4 i hi j u hu)⟩
theorem OpsIn.below (h : OpsIn w v os B) (hb : Below w.heap.size w w') : OpsIn w' v os B := h.keep hb.size fun b hb' _ => hb.block b hb'
theorem OpsIn.turn (h : OpsIn w v os fun b => ¬ fp b) (ht : Turn fp w w') (hf : ∀ b, fp' b → fp b ∨ w.heap.size ≤ b) : OpsIn w' v os fun b => ¬ fp' b :=
  ((h.mono (B' := fun b => ¬ fp b ∧ b < w.heap.size) fun b hb h => ⟨h, hb⟩).keep ht.size fun b hb h => ht.block b hb h.1).mono fun b _ h hf' => (hf b hf').elim h.1 (fun h2 => by omega)
theorem cells_len (x : OpV) : x.cells.length = 3 := rfl
theorem flat_len (os : List OpV) : (os.flatMap OpV.cells).length = os.length * 3 := by
  induction os with
  | nil => rfl
  | cons x os ih => rw [List.flatMap_cons, List.length_append, ih, cells_len, List.length_cons]; omega
theorem flat_at (os : List OpV) (i : Nat) (h : i < os.length) (j : Nat) (hj : j < 3) : (os.flatMap OpV.cells)[i * 3 + j]? = (os[i]).cells[j]? := by
  induction os generalizing i with
  | nil => simp at h
  | cons x os ih =>
    rw [List.flatMap_cons]
    cases i with
    | zero => rw [Nat.zero_mul, Nat.zero_add, List.getElem?_append_left (by rw [cells_len]; exact hj)]; rfl
    | succ i =>
      rw [List.getElem?_append_right (by rw [cells_len]; omega), cells_len, show (i + 1) * 3 + j - 3 = i * 3 + j by omega]
      exact ih i (by simpa using h)
theorem OpsIn.of_own {e n base : Nat} (h : w.ownsRow base e 3 v n (os.flatMap OpV.cells)) (hn : n = os.length) : OpsIn w v os (base ≤ ·) := by
  subst hn
  rcases h.2 with ⟨rfl, h0⟩ | ⟨g, cap, cur, rfl, hB, hg, hn, hm, hs, ht⟩
  · exact ⟨none, 0, by rw [h0], by omega, fun h => by omega⟩
  · refine ⟨some ⟨g, 0, none⟩, cap, rfl, hn, fun _ => ⟨g, 0, rfl, block_lt hg, hB, fun i hi j u hu => ?_⟩⟩
    have hj : j < 3 := by
      rcases Nat.lt_or_ge j 3 with h | h
      · exact h
      · rw [List.getElem?_eq_none (by rw [cells_len]; exact h)] at hu; cases hu
    have := World.ownsRow.cells (g := g) h rfl (i * 3 + j) u ((flat_at os i hi j hj).trans hu)
    rw [Addr.add_lit] at this
    rw [show (0 : Nat) + i * 3 + j = 0 + (i * 3 + j) by omega]
    exact this
/-- all the cells, one behind the other, as an append reads them -/
theorem OpsIn.news (h : OpsIn w v os B) (hp : 0 < os.length) : ∃ b o cap, v = .slice (some ⟨b, o, none⟩) os.length cap ∧ ∀ (j : Nat) u, (os.flatMap OpV.cells)[j]? = some u → w.cell? ((⟨b, o, none⟩ : Addr).add j) = some u := by
  obtain ⟨A, cap, rfl, hc, h⟩ := h
  obtain ⟨b, o, rfl, _, _, h4⟩ := h hp
  refine ⟨b, o, cap, rfl, fun j u hu => ?_⟩
  have hj : j < os.length * 3 := by
    rcases Nat.lt_or_ge j (os.length * 3) with h | h
    · exact h
    · rw [List.getElem?_eq_none (by rw [flat_len]; exact h)] at hu; cases hu
  have e : j = j / 3 * 3 + j % 3 := by omega
  have hi : j / 3 < os.length := by omega
  rw [e, flat_at os (j / 3) hi (j % 3) (by omega)] at hu
  have := h4 (j / 3) hi (j % 3) u hu
  rw [show (⟨b, o, none⟩ : Addr).add j = ⟨b, o + j, none⟩ by simp [Addr.add]]
  rw [show o + j = o + j / 3 * 3 + j % 3 by omega]
  exact this
end
end Go.Proofs.Ytfkdmbiejledoaa
