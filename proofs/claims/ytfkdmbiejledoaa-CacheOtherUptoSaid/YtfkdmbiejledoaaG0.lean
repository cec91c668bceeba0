/-
  Shared words, of no program: what a call may have turned (Turn), a map as a function (MapF), blocks and cells. No conditions.
-/
import Derived.WalkKit
import Derived.WalkSpells
import Derived.WalkLawsBesides
import Derived.Deep.LoopGhost
import Derived.Deep.QuietTactic
import Derived.BigQuiet
import Derived.Lib.Hide
import Derived.Deep.OwnRows
import Derived.RegionTactic
import Derived.Maps.Own
import Derived.Maps.OwnSet
import Derived.LaidEqlPtr
import Derived.Deep.AppendLies
import Derived.Deep.DeepCutAuto
import Derived.Deep.Cut
import Derived.Deep.CutBlock
import Derived.Deep.DeepMust
import Derived.Laws.BytesArg
import Derived.Laws.CopyOwn
import Derived.Laws.Rows
import Derived.StillTailTactics
import Derived.Lib.ConvBytes
set_option linter.unusedVariables false
set_option linter.unusedSimpArgs false
namespace Go.Proofs.Ytfkdmbiejledoaa
open Go.RowKit Go.Maps Go.ChangeMaps Go.MapKept

/-- w' is w but for the blocks of F, and new ones -/
structure Turn (F : Nat → Prop) (w w' : World) : Prop where
  os : w'.os = w.os
  tape : w'.tape = w.tape
  output : w'.output = w.output
  size : w.heap.size ≤ w'.heap.size
  block : ∀ k, k < w.heap.size → ¬ F k → w'.heap[k]? = w.heap[k]?
theorem Turn.refl (F : Nat → Prop) (w : World) : Turn F w w := ⟨rfl, rfl, rfl, Nat.le_refl _, fun _ _ _ => rfl⟩
theorem Turn.trans' {F G : Nat → Prop} {a b c : World} (h : Turn F a b) (k : Turn G b c) (hG : ∀ i, G i → F i ∨ a.heap.size ≤ i) : Turn F a c :=
  ⟨k.os.trans h.os, k.tape.trans h.tape, k.output.trans h.output, Nat.le_trans h.size k.size, fun i hi hF => (k.block i (Nat.lt_of_lt_of_le hi h.size) (fun hg => (hG i hg).elim hF (fun h => by omega))).trans (h.block i hi hF)⟩
theorem Turn.mono {F G : Nat → Prop} {a b : World} (h : Turn F a b) (hG : ∀ i, F i → G i ∨ a.heap.size ≤ i) : Turn G a b :=
  ⟨h.os, h.tape, h.output, h.size, fun i hi hg => h.block i hi (fun hf => (hG i hf).elim hg (fun h => by omega))⟩
theorem Turn.trans {F : Nat → Prop} {a b c : World} (h : Turn F a b) (k : Turn F b c) : Turn F a c := h.trans' k fun _ => .inl
theorem Turn.of_below {F : Nat → Prop} {w w' : World} (h : Below w.heap.size w w') : Turn F w w' := ⟨h.os, h.tape, h.output, h.size, fun k hk _ => h.block k hk⟩
theorem Turn.below {B : Nat} {F : Nat → Prop} {w w' : World} (h : Turn F w w') (hB : ∀ k, F k → B ≤ k) (hw : B ≤ w.heap.size) : Below B w w' :=
  ⟨h.os, h.tape, h.output, h.size, fun k hk => h.block k (by omega) (fun hf => by have := hB k hf; omega)⟩
theorem Turn.drew {F : Nat → Prop} {a w : World} (h : Turn F a w) : Turn F a w.drew := ⟨h.os, h.tape, h.output, h.size, h.block⟩
theorem Turn.drewN {F : Nat → Prop} {a w : World} (h : Turn F a w) (n : Nat) : Turn F a (w.drewN n) := ⟨h.os, h.tape, h.output, h.size, h.block⟩
theorem Turn.alloc {F : Nat → Prop} {a w : World} (h : Turn F a w) (o : Obj) : Turn F a (w.alloc o) :=
  ⟨h.os, h.tape, h.output, by have := h.size; simp; omega, fun k hk hF => (Below.heap_alloc w o k (by have := h.size; omega)).trans (h.block k hk hF)⟩
theorem Turn.setCell {F : Nat → Prop} {a w : World} (h : Turn F a w) {p : Addr} (hp : F p.block ∨ a.heap.size ≤ p.block) (u : Value) : Turn F a (w.setCell p u) :=
  ⟨h.os, h.tape, h.output, by have := h.size; simp [World.setCell]; omega, fun k hk hF => (Below.heap_setCell w p u k (by rintro rfl; rcases hp with hp | hp; exact hF hp; omega)).trans (h.block k hk hF)⟩
theorem Turn.grown {F : Nat → Prop} {a w w' : World} {row : Option Nat} (h : Turn F a w) (hg : w.grownBy w' row) (hr : ∀ k, row = some k → F k ∨ a.heap.size ≤ k) : Turn F a w' :=
  ⟨hg.os.trans h.os, hg.tape.trans h.tape, hg.output.trans h.output, Nat.le_trans h.size hg.size, fun k hk hF => (hg.block k (Nat.lt_of_lt_of_le hk h.size) (fun e => (hr k e.symm).elim hF (fun h => by omega))).trans (h.block k hk hF)⟩
theorem Turn.cell {F : Nat → Prop} {w w' : World} (h : Turn F w w') {p : Addr} (hp : p.block < w.heap.size) (hF : ¬ F p.block) : w'.cell? p = w.cell? p := World.cell?_of_block (w := w) (h.block p.block hp hF)
theorem Turn.frozen {F : Nat → Prop} {w w' : World} (h : Turn F w w') {p : Addr} (hp : p.block < w.heap.size) (hF : ¬ F p.block) : w'.frozen? p = w.frozen? p := World.frozen?_of_block (w := w) (h.block p.block hp hF)

/-- blocks and cells -/
theorem block_lt {w : World} {b : Nat} {o : Obj} (h : w.heap[b]? = some o) : b < w.heap.size := (Array.getElem?_eq_some_iff.1 h).1
theorem block_setCell {w : World} {b off : Nat} {c : Array Value} {t : TypeId} (h : w.heap[b]? = some (.cells c t (0, 0))) (v : Value) :
    (w.setCell ⟨b, off, none⟩ v).heap[b]? = some (.cells (c.setIfInBounds off v) t (0, 0)) := by
  unfold World.setCell
  simp [Array.getElem?_modify, h]
theorem block_other {w : World} {b b' off : Nat} (hne : b' ≠ b) (v : Value) : (w.setCell ⟨b', off, none⟩ v).heap[b]? = w.heap[b]? := by
  unfold World.setCell
  simp [Array.getElem?_modify, hne]
theorem cell_of_block {w : World} {b off : Nat} {c : Array Value} {t : TypeId} (h : w.heap[b]? = some (.cells c t (0, 0))) (ho : off < c.size) : w.cell? ⟨b, off, none⟩ = some c[off] := by
  simp [World.cell?, h, ho]
theorem frozen_of_block {w : World} {b off : Nat} {c : Array Value} {t : TypeId} (h : w.heap[b]? = some (.cells c t (0, 0))) : w.frozen? ⟨b, off, none⟩ = false := by
  simp [World.frozen?, h]
theorem heap_alloc_keep {w : World} {b : Nat} {o : Obj} (h : w.heap[b]? = some o) (o' : Obj) : (w.alloc o').heap[b]? = some o := by
  rw [Below.heap_alloc w o' b (block_lt h)]; exact h

/-- two pointers compared -/
theorem run_neq_ptr_same {P : Program} (w : World) {tp te : TypeId} {j : TypeInfo} (a : Addr) (hp : P.underlying tp = some (.pointer te)) (hte : P.info? te = some j) :
    (binOp .neq tp (.pointer (some a)) (.pointer (some a))).run P w = .ok (.bool false) w := by
  have h : ∀ d : Nat, (Op.equalIn (d + 1) tp (.pointer (some a)) (.pointer (some a))).run P w = .ok true w := fun d => by
    simp [Op.equalIn, run_underlying hp, sizeOf, typeInfo, hte, run_sameAddr_same]
  simp only [binOp]
  simp [Op.equal, Op.maxDepth, h 9999]
theorem run_neq_ptr_other {P : Program} (w : World) {tp te : TypeId} {j : TypeInfo} {a b : Addr} {ca cb : Array Value} {ta tb : TypeId} (hp : P.underlying tp = some (.pointer te)) (hte : P.info? te = some j) (hsz : j.size ≠ 0)
    (hne : a ≠ b) (ha : w.heap[a.block]? = some (.cells ca ta (0, 0))) (hb : w.heap[b.block]? = some (.cells cb tb (0, 0))) :
    (binOp .neq tp (.pointer (some a)) (.pointer (some b))).run P w = .ok (.bool true) w := by
  have h : ∀ d : Nat, (Op.equalIn (d + 1) tp (.pointer (some a)) (.pointer (some b))).run P w = .ok false w := fun d => by
    simp [Op.equalIn, run_underlying hp, sizeOf, typeInfo, hte, hsz, run_sameAddr_other w hne ha hb]
  simp only [binOp]
  simp [Op.equal, Op.maxDepth, h 9999]
/-- a map's element reads as itself -/
def tok (v : Value) : Option (DataW Value × List MemPlace) := some (.held v, [])
/-- block b is a map with keys of type k; f: what stands under a key; n: how many -/
def MapF (P : Program) (k : TypeId) (w : World) (b : Nat) (f : Lit → Option Value) (n : Nat) : Prop :=
  ∃ D : DataW Value, w.ownsMap P k tok b n D ∧ Maps.size D = n ∧ (∀ l, Maps.has D l = (f l).isSome) ∧ ∀ l v, f l = some v → ∀ z, D.atKey l z = .held v
variable {P : Program} {k e t : TypeId} {w w' : World} {b n : Nat} {f : Lit → Option Value}
theorem MapF.lt (h : MapF P k w b f n) : b < w.heap.size := by obtain ⟨D, h1, _⟩ := h; exact h1.lt
theorem MapF.keep (h : MapF P k w b f n) (he : w'.heap[b]? = w.heap[b]?) : MapF P k w' b f n := by
  obtain ⟨D, ⟨es, clock, hb, rest⟩, h2⟩ := h
  exact ⟨D, ⟨es, clock, he.trans hb, rest⟩, h2⟩
theorem MapF.ext (h : MapF P k w b f n) {g : Lit → Option Value} (hg : ∀ l, f l = g l) : MapF P k w b g n := by
  obtain rfl : f = g := funext hg
  exact h
theorem MapF.made (P : Program) (k : TypeId) (w : World) : MapF P k (w.alloc (.map #[] 0)) w.heap.size (fun _ => none) 0 :=
  ⟨.map [], World.ownsMap_made w P k tok, rfl, fun _ => rfl, fun _ _ h => by cases h⟩
theorem MapF.look (h : MapF P k w b f n) (K : Keyed P k) (ht : P.underlying t = some (.map k e)) {z : Value} (hz : (zeroValue e).run P w = .ok z w) {key : Value} {kl : Lit} (hkey : keyOf P k key = some kl) :
    (Instr.lookup t (.map (some b)) key true).run P w = .ok (.tuple #[(f kl).getD z, .bool (f kl).isSome]) w := by
  obtain ⟨D, h1, _, h3, h4⟩ := h
  obtain ⟨v, ps, hrun, hR⟩ := h1.look_ok K ht hz (zd := .held z) (zp := []) rfl hkey
  rw [hrun, h3 kl]
  have e1 : DataW.held v = D.atKey kl (.held z) := by
    simp only [tok, Option.some.injEq, Prod.mk.injEq] at hR; exact hR.1
  cases hf : f kl with
  | some u =>
    rw [h4 kl u hf] at e1
    injection e1 with e1
    rw [e1]; rfl
  | none =>
    have h5 := h3 kl
    rw [hf] at h5
    rw [Maps.atKey_of_not_has h5] at e1
    injection e1 with e1
    rw [e1]; rfl
theorem MapF.look1 (h : MapF P k w b f n) (K : Keyed P k) (ht : P.underlying t = some (.map k e)) {z : Value} (hz : (zeroValue e).run P w = .ok z w) {key : Value} {kl : Lit} (hkey : keyOf P k key = some kl) :
    (Instr.lookup t (.map (some b)) key false).run P w = .ok ((f kl).getD z) w := by
  obtain ⟨D, h1, _, h3, h4⟩ := h
  obtain ⟨v, ps, hrun, hR⟩ := h1.lookup K ht hz (zd := .held z) (zp := []) rfl hkey
  rw [hrun]
  have e1 : DataW.held v = D.atKey kl (.held z) := by
    simp only [tok, Option.some.injEq, Prod.mk.injEq] at hR; exact hR.1
  cases hf : f kl with
  | some u =>
    rw [h4 kl u hf] at e1
    injection e1 with e1
    rw [e1]; rfl
  | none =>
    have h5 := h3 kl
    rw [hf] at h5
    rw [Maps.atKey_of_not_has h5] at e1
    injection e1 with e1
    rw [e1]; rfl
open Classical in
noncomputable def updF (f : Lit → Option Value) (kl : Lit) (v : Option Value) : Lit → Option Value := fun l => if l = kl then v else f l
theorem updF_same (f : Lit → Option Value) (kl : Lit) (v : Option Value) : updF f kl v kl = v := if_pos rfl
theorem updF_other (f : Lit → Option Value) {kl l : Lit} (v : Option Value) (h : l ≠ kl) : updF f kl v l = f l := if_neg h
/-- how many there are behind a store, behind a delete -/
def grow (o : Option Value) (n : Nat) : Nat := if o.isSome then n else n + 1
def less (o : Option Value) (n : Nat) : Nat := if o.isSome then n - 1 else n
theorem MapF.shrink {D : DataW Value} {m : Nat} (h : w.ownsMap P k tok b m D) : w.ownsMap P k tok b (Maps.size D) D := by
  obtain ⟨es, clock, hb, F, hs, rfl⟩ := h
  exact ⟨es, clock, hb, F, by simp [Maps.size, length_sorted], rfl⟩
theorem MapF.store (h : MapF P k w b f n) (K : Keyed P k) (ht : P.underlying t = some (.map k e)) (hn : n < maxLen) {key val : Value} {kl : Lit} (hkey : keyOf P k key = some kl) :
    ∃ w', (Instr.mapUpdate t (.map (some b)) key val).run P w = .ok () w' ∧ MapF P k w' b (updF f kl (some val)) (grow (f kl) n) ∧ w.mapTurned w' b := by
  obtain ⟨D, h1, h2, h3, h4⟩ := h
  obtain ⟨w', hrun, ho, hturn⟩ := h1.store K ht hn hkey (val := val) (d := .held val) (ps := []) rfl
  have hT := h1.tidy K
  have hM := h1.isMap
  have hk := K.key hkey
  refine ⟨w', hrun, ⟨D.put kl (.held val), ?_, ?_, fun l => ?_, fun l v hl z => ?_⟩, hturn⟩
  · have := MapF.shrink ho
    rwa [Maps.size_put hT, h3 kl, h2] at this
  · rw [Maps.size_put hT, h3 kl, h2]; rfl
  · by_cases hl : l = kl
    · subst hl; rw [updF_same, Maps.has_put_same hM hk]; rfl
    · rw [updF_other _ _ hl, Maps.has_put_other hl, h3]
  · by_cases hl' : l = kl
    · subst hl'; rw [updF_same] at hl; injection hl with hl; subst hl; exact Maps.atKey_put_same hM hk _ z
    · rw [updF_other _ _ hl'] at hl; rw [Maps.atKey_put_other hl']; exact h4 l v hl z
theorem MapF.len (h : MapF P k w b f n) (ht : P.underlying t = some (.map k e)) (ty : TypeId) : (Builtin.len_ #[t] ty #[.map (some b)]).run P w = .ok (.int .i64 n) w := by
  obtain ⟨D, h1, h2, _⟩ := h
  rw [h1.len ht ty, h2]
theorem MapF.drop (h : MapF P k w b f n) (K : Keyed P k) (ht : P.underlying t = some (.map k e)) {key : Value} {kl : Lit} (hkey : keyOf P k key = some kl) (ty : TypeId) :
    ∃ w', (Builtin.delete_ #[t, k] ty #[.map (some b), key]).run P w = .ok (.tuple #[]) w' ∧ MapF P k w' b (updF f kl none) (less (f kl) n) ∧ w.mapTurned w' b := by
  obtain ⟨D, h1, h2, h3, h4⟩ := h
  obtain ⟨w', hrun, ho, hturn⟩ := h1.drop K ht hkey ty
  have hT := h1.tidy K
  have hs := Maps.size_del (k := kl) hT
  rw [h3 kl, h2] at hs
  have hs2 : Maps.size (D.del kl) = less (f kl) n := by
    unfold less
    split <;> rename_i hh <;> simp [hh] at hs <;> omega
  refine ⟨w', hrun, ⟨D.del kl, ?_, hs2, fun l => ?_, fun l v hl z => ?_⟩, hturn⟩
  · have := MapF.shrink ho
    rwa [hs2] at this
  · by_cases hl : l = kl
    · subst hl; rw [updF_same, Maps.has_del_same]; rfl
    · rw [updF_other _ _ hl, Maps.has_del_other hl, h3]
  · by_cases hl' : l = kl
    · subst hl'; rw [updF_same] at hl; cases hl
    · rw [updF_other _ _ hl'] at hl; rw [Maps.atKey_del_other hl']; exact h4 l v hl z
theorem mapTurned_other (h : w.mapTurned w' b) {i : Nat} (hi : i ≠ b) : w'.heap[i]? = w.heap[i]? := by
  obtain ⟨es, clock, es', clock', hb, rfl⟩ := h
  exact heap_setBlock_other hb _ hi
theorem mapTurned_size (h : w.mapTurned w' b) : w'.heap.size = w.heap.size := by
  obtain ⟨es, clock, es', clock', hb, rfl⟩ := h
  simp [setBlock]
theorem Turn.map {F : Nat → Prop} {a : World} (h : Turn F a w) (hm : w.mapTurned w' b) (hb : F b ∨ a.heap.size ≤ b) : Turn F a w' :=
  h.grown hm.grown fun k hk => by injection hk with hk; subst hk; exact hb
theorem MapF.clear (h : MapF P k w b f n) (ht : P.underlying t = some (.map k e)) (ty : TypeId) :
    ∃ w', (Builtin.clear_ #[t] ty #[.map (some b)]).run P w = .ok (.tuple #[]) w' ∧ MapF P k w' b (fun _ => none) 0 ∧ w.mapTurned w' b := by
  obtain ⟨D, ⟨es, clock, hb, F, hs, hD⟩, _⟩ := h
  refine ⟨setBlock w b (.map #[] clock), ?_, ⟨.map [], ⟨#[], clock, heap_setBlock_same hb _, ⟨by simp, stamped_empty clock, by simp⟩, Nat.le_refl _, rfl⟩, rfl, fun _ => rfl, fun _ _ h => by cases h⟩, ⟨es, clock, #[], clock, hb, rfl⟩⟩
  simp [Builtin.clear_, run_underlying ht, MapKept.run_getObj_map hb, MapKept.run_setObj_map _ hb, Result.andThen, setBlock]
section
variable {ops : Array Oper} {rest : List Oper} {o : Oper} {a : Act} {Q : Exit → Act → World → Prop}
theorem wpList_mapF_store (hg : o.guard = none) (m x v : Operand) (t : TypeId) (hop : o.op = Op.mapUpdate t m x v)
    (k e : TypeId) (K : Keyed P k) (ht : P.underlying t = some (.map k e)) (b n : Nat) (f : Lit → Option Value)
    (hm : a.eval m = .map (some b)) (hown : MapF P k w b f n) (hn : n < maxLen) (key val : Value) (kl : Lit) (hx : a.eval x = key) (hv : a.eval v = val) (hkey : keyOf P k key = some kl)
    (hK : ∀ w', MapF P k w' b (updF f kl (some val)) (grow (f kl) n) → w.mapTurned w' b → wpList P ops Q rest (a.put o.dst undef) w') :
    wpList P ops Q (o :: rest) a w := by
  refine wpList_plain hg fun K' hK' => ?_
  obtain ⟨w', hrun, r1, r2⟩ := hown.store K ht hn hkey (val := val)
  unfold Oper.wp
  simp [execOp, hop, hm, hx, hv, hrun, Result.andThen]
  exact hK' _ _ (hK w' r1 r2)
theorem wpList_mapF_delete (hg : o.guard = none) (m x : Operand) (t k : TypeId) (hop : o.op = Op.call { callee := Callee.builtin Builtin.delete, args := #[m, x], argTypes := #[t, k] })
    (e : TypeId) (K : Keyed P k) (ht : P.underlying t = some (.map k e)) (b n : Nat) (f : Lit → Option Value)
    (hm : a.eval m = .map (some b)) (hown : MapF P k w b f n) (key : Value) (kl : Lit) (hx : a.eval x = key) (hkey : keyOf P k key = some kl)
    (hK : ∀ w', MapF P k w' b (updF f kl none) (less (f kl) n) → w.mapTurned w' b → wpList P ops Q rest (a.put o.dst (.tuple #[])) w') :
    wpList P ops Q (o :: rest) a w := by
  refine wpList_plain hg fun K' hK' => ?_
  obtain ⟨w', hrun, r1, r2⟩ := hown.drop K ht hkey o.type
  unfold Oper.wp
  simp [execOp, hop, resolve, invoke, builtin, hm, hx, hrun, Result.andThen]
  exact hK' _ _ (hK w' r1 r2)
theorem wp_mapF_delete (m x : Operand) (t k : TypeId) (hop : o.op = Op.call { callee := Callee.builtin Builtin.delete, args := #[m, x], argTypes := #[t, k] })
    (e : TypeId) (K : Keyed P k) (ht : P.underlying t = some (.map k e)) (b n : Nat) (f : Lit → Option Value)
    (hm : a.eval m = .map (some b)) (hown : MapF P k w b f n) (key : Value) (kl : Lit) (hx : a.eval x = key) (hkey : keyOf P k key = some kl) {K' : Act → World → Prop}
    (hK : ∀ w', MapF P k w' b (updF f kl none) (less (f kl) n) → w.mapTurned w' b → K' (a.put o.dst (.tuple #[])) w') :
    o.wp P a w K' Q := by
  obtain ⟨w', hrun, r1, r2⟩ := hown.drop K ht hkey o.type
  unfold Oper.wp
  simp [execOp, hop, resolve, invoke, builtin, hm, hx, hrun, Result.andThen]
  exact hK w' r1 r2
theorem wpList_mapF_clear (hg : o.guard = none) (m : Operand) (t : TypeId) (hop : o.op = Op.call { callee := Callee.builtin Builtin.clear, args := #[m], argTypes := #[t] })
    (k e : TypeId) (ht : P.underlying t = some (.map k e)) (b n : Nat) (f : Lit → Option Value) (hm : a.eval m = .map (some b)) (hown : MapF P k w b f n)
    (hK : ∀ w', MapF P k w' b (fun _ => none) 0 → w.mapTurned w' b → wpList P ops Q rest (a.put o.dst (.tuple #[])) w') :
    wpList P ops Q (o :: rest) a w := by
  refine wpList_plain hg fun K' hK' => ?_
  obtain ⟨w', hrun, r1, r2⟩ := hown.clear ht o.type
  unfold Oper.wp
  simp [execOp, hop, resolve, invoke, builtin, hm, hrun, Result.andThen]
  exact hK' _ _ (hK w' r1 r2)
end
end Go.Proofs.Ytfkdmbiejledoaa
