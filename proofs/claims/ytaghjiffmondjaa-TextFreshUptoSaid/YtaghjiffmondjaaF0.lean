/-
  Lists that own their block: written, appended to, read; what a call has turned. No conditions.
-/
import Derived.Test.YtaghjiffmondjaaB15
import Derived.ArgAppend
set_option linter.unusedVariables false
set_option linter.unusedSimpArgs false
namespace Go.Proofs.Ytaghjiffmondjaa
open Go.RowKit

/-- w' is w but for the blocks of F, and new ones -/
structure Turn (F : Nat → Prop) (w w' : World) : Prop where
  os : w'.os = w.os
  tape : w'.tape = w.tape
  output : w'.output = w.output
  size : w.heap.size ≤ w'.heap.size
  block : ∀ k, k < w.heap.size → ¬ F k → w'.heap[k]? = w.heap[k]?
theorem Turn.refl (F : Nat → Prop) (w : World) : Turn F w w := ⟨rfl, rfl, rfl, Nat.le_refl _, fun _ _ _ => rfl⟩
theorem Turn.trans' {F G : Nat → Prop} {a b c : World} (h : Turn F a b) (k : Turn G b c) (hG : ∀ i, G i → F i ∨ a.heap.size ≤ i) : Turn F a c :=
  ⟨k.os.trans h.os, k.tape.trans h.tape, k.output.trans h.output, Nat.le_trans h.size k.size, fun i hi hF => (k.block i (Nat.lt_of_lt_of_le hi h.size) (fun hg => (hG i hg).elim hF (fun h => by omega))).trans (h.block i hi hF)⟩
theorem Turn.mono {F G : Nat → Prop} {a b : World} (h : Turn F a b) (hG : ∀ i, F i → G i ∨ a.heap.size ≤ i) : Turn G a b :=
  ⟨h.os, h.tape, h.output, h.size, fun i hi hg => h.block i hi (fun hf => (hG i hf).elim hg (fun h => by omega))⟩
theorem Turn.trans {F : Nat → Prop} {a b c : World} (h : Turn F a b) (k : Turn F b c) : Turn F a c := h.trans' k fun _ => .inl
theorem Turn.of_below {F : Nat → Prop} {w w' : World} (h : Below w.heap.size w w') : Turn F w w' := ⟨h.os, h.tape, h.output, h.size, fun k hk _ => h.block k hk⟩
theorem Turn.below {B : Nat} {F : Nat → Prop} {w w' : World} (h : Turn F w w') (hB : ∀ k, F k → B ≤ k) (hw : B ≤ w.heap.size) : Below B w w' :=
  ⟨h.os, h.tape, h.output, h.size, fun k hk => h.block k (by omega) (fun hf => by have := hB k hf; omega)⟩
theorem Turn.drew {F : Nat → Prop} {a w : World} (h : Turn F a w) : Turn F a w.drew := ⟨h.os, h.tape, h.output, h.size, h.block⟩
theorem Turn.drewN {F : Nat → Prop} {a w : World} (h : Turn F a w) (n : Nat) : Turn F a (w.drewN n) := ⟨h.os, h.tape, h.output, h.size, h.block⟩
theorem Turn.alloc {F : Nat → Prop} {a w : World} (h : Turn F a w) (o : Obj) : Turn F a (w.alloc o) :=
  ⟨h.os, h.tape, h.output, by have := h.size; simp; omega, fun k hk hF => (Below.heap_alloc w o k (by have := h.size; omega)).trans (h.block k hk hF)⟩
theorem Turn.setCell {F : Nat → Prop} {a w : World} (h : Turn F a w) {p : Addr} (hp : F p.block ∨ a.heap.size ≤ p.block) (u : Value) : Turn F a (w.setCell p u) :=
  ⟨h.os, h.tape, h.output, by have := h.size; simp [World.setCell]; omega, fun k hk hF => (Below.heap_setCell w p u k (by rintro rfl; rcases hp with hp | hp; exact hF hp; omega)).trans (h.block k hk hF)⟩
theorem Turn.grown {F : Nat → Prop} {a w w' : World} {row : Option Nat} (h : Turn F a w) (hg : w.grownBy w' row) (hr : ∀ k, row = some k → F k ∨ a.heap.size ≤ k) : Turn F a w' :=
  ⟨hg.os.trans h.os, hg.tape.trans h.tape, hg.output.trans h.output, Nat.le_trans h.size hg.size, fun k hk hF => (hg.block k (Nat.lt_of_lt_of_le hk h.size) (fun e => (hr k e.symm).elim hF (fun h => by omega))).trans (h.block k hk hF)⟩
theorem Turn.cell {F : Nat → Prop} {w w' : World} (h : Turn F w w') {p : Addr} (hp : p.block < w.heap.size) (hF : ¬ F p.block) : w'.cell? p = w.cell? p := World.cell?_of_block (w := w) (h.block p.block hp hF)
theorem Turn.frozen {F : Nat → Prop} {w w' : World} (h : Turn F w w') {p : Addr} (hp : p.block < w.heap.size) (hF : ¬ F p.block) : w'.frozen? p = w.frozen? p := World.frozen?_of_block (w := w) (h.block p.block hp hF)

theorem block_lt {w : World} {b : Nat} {o : Obj} (h : w.heap[b]? = some o) : b < w.heap.size := (Array.getElem?_eq_some_iff.1 h).1
theorem block_other {w : World} {b b' off : Nat} (hne : b' ≠ b) (v : Value) : (w.setCell ⟨b', off, none⟩ v).heap[b]? = w.heap[b]? := by
  unfold World.setCell
  simp [Array.getElem?_modify, hne]
/-- v is a slice that reads as us (one cell each); its block (if there is anything in it) is one of B -/
def SlIn (w : World) (v : Value) (us : List Value) (B : Nat → Prop) : Prop :=
  ∃ A cap, v = .slice A us.length cap ∧ us.length ≤ cap ∧ (0 < us.length → ∃ b o, A = some ⟨b, o, none⟩ ∧ b < w.heap.size ∧ B b ∧ ∀ i (h : i < us.length), w.cell? ⟨b, o + i, none⟩ = some us[i])
section
variable {w w' : World} {v : Value} {us : List Value} {B B' fp fp' : Nat → Prop}
theorem SlIn.mono (h : SlIn w v us B) (hB : ∀ b, b < w.heap.size → B b → B' b) : SlIn w v us B' := by
  obtain ⟨A, cap, rfl, hc, h⟩ := h
  exact ⟨A, cap, rfl, hc, fun hp => by obtain ⟨b, o, h1, h2, h3, h4⟩ := h hp; exact ⟨b, o, h1, h2, hB b h2 h3, h4⟩⟩
theorem SlIn.keep (h : SlIn w v us B) (hs : w.heap.size ≤ w'.heap.size) (hk : ∀ b, b < w.heap.size → B b → w'.heap[b]? = w.heap[b]?) : SlIn w' v us B := by
  obtain ⟨A, cap, rfl, hc, h⟩ := h
  refine ⟨A, cap, rfl, hc, fun hp => ?_⟩
  obtain ⟨b, o, h1, h2, h3, h4⟩ := h hp
  exact ⟨b, o, h1, by omega, h3, fun i hi => (World.cell?_of_block (w := w) (hk b h2 h3)).trans (h4 i hi)⟩
theorem SlIn.below (h : SlIn w v us B) (hb : Below w.heap.size w w') : SlIn w' v us B := h.keep hb.size fun b hb' _ => hb.block b hb'
theorem SlIn.turn (h : SlIn w v us fun b => ¬ fp b) (ht : Turn fp w w') (hf : ∀ b, fp' b → fp b ∨ w.heap.size ≤ b) : SlIn w' v us fun b => ¬ fp' b :=
  ((h.mono (B' := fun b => ¬ fp b ∧ b < w.heap.size) fun b hb h => ⟨h, hb⟩).keep ht.size fun b hb h => ht.block b hb h.1).mono fun b _ h hf' => (hf b hf').elim h.1 (fun h2 => by omega)
theorem SlIn.of_own {e n base : Nat} (h : w.ownsRow base e 1 v n us) : SlIn w v us (base ≤ ·) := by
  have hl : us.length = n := by have := h.1; omega
  rcases h.2 with ⟨rfl, h0⟩ | ⟨g, cap, cur, rfl, hB, hg, hn, hm, hs, ht⟩
  · exact ⟨none, 0, by rw [hl, h0], by omega, fun h => by omega⟩
  · refine ⟨some ⟨g, 0, none⟩, cap, by rw [hl], by omega, fun _ => ⟨g, 0, rfl, block_lt hg, hB, fun i hi => ?_⟩⟩
    have := World.ownsRow.cells (g := g) h rfl i us[i] (by simp [hi])
    rw [Addr.add_lit] at this
    exact this
theorem SlIn.nil (B : Nat → Prop) : SlIn w (.slice none 0 0) [] B := ⟨none, 0, rfl, Nat.le_refl _, fun h => by simp at h⟩
theorem SlIn.drewN (h : SlIn w v us B) (k : Nat) : SlIn (w.drewN k) v us B := h
/-- the first m of them -/
theorem SlIn.take (h : SlIn w v us B) {A : Option Addr} {cap n : Nat} (hv : v = .slice A n cap) {m : Nat} (hm : m ≤ us.length) : SlIn w (.slice A m cap) (us.take m) B := by
  obtain ⟨A', cap', rfl, hc, h⟩ := h
  injection hv with e1 e2 e3
  subst e1 e3
  have hl : (us.take m).length = m := by rw [List.length_take]; omega
  refine ⟨A', cap', by rw [hl], by omega, fun hp => ?_⟩
  obtain ⟨b, o, h1, h2, h3, h4⟩ := h (by omega)
  refine ⟨b, o, h1, h2, h3, fun i hi => ?_⟩
  rw [h4 i (by omega), List.getElem_take]
end

/-- v is nil, or a list of cells from the beginning of a block on, one of F -/
def Row (e : TypeId) (w : World) (v : Value) (us : List Value) (F : Nat → Prop) : Prop :=
  (v = .slice none 0 0 ∧ us = []) ∨ ∃ g cap cur, v = .slice (some ⟨g, 0, none⟩) us.length cap ∧ F g ∧ w.heap[g]? = some (.cells cur e (0, 0)) ∧ us.length ≤ cap ∧ cap ≤ maxLen ∧ cur.size = cap ∧ cur.toList.take us.length = us
section
variable {P : Program} {e t : TypeId} {w w' : World} {v : Value} {us news : List Value} {F G : Nat → Prop}
theorem Row.nil : Row e w (.slice none 0 0) [] F := .inl ⟨rfl, rfl⟩
theorem Row.of_own {B n : Nat} (h : w.ownsRow B e 1 v n us) : Row e w v us (fun b => B ≤ b ∧ b < w.heap.size) := by
  have hl : us.length = n := by have := h.1; omega
  rcases h.2 with ⟨rfl, h0⟩ | ⟨g, cap, cur, rfl, hB, hg, hn, hm, hs, ht⟩
  · exact .inl ⟨rfl, List.eq_nil_of_length_eq_zero (by omega)⟩
  · exact .inr ⟨g, cap, cur, by rw [hl], ⟨hB, block_lt hg⟩, hg, by omega, hm, by omega, by rw [Nat.mul_one] at ht; rw [hl]; exact ht⟩
theorem Row.mono (h : Row e w v us F) (hF : ∀ b, b < w.heap.size → F b → G b) : Row e w v us G := by
  rcases h with h | ⟨g, cap, cur, h1, h2, h3, h4⟩
  · exact .inl h
  · exact .inr ⟨g, cap, cur, h1, hF g (block_lt h3) h2, h3, h4⟩
theorem Row.keep (h : Row e w v us F) (hk : ∀ b, b < w.heap.size → F b → w'.heap[b]? = w.heap[b]?) : Row e w' v us F := by
  rcases h with h | ⟨g, cap, cur, h1, h2, h3, h4⟩
  · exact .inl h
  · exact .inr ⟨g, cap, cur, h1, h2, (hk g (block_lt h3) h2).trans h3, h4⟩
theorem Row.here (h : Row e w v us F) : Row e w v us (fun b => F b ∧ b < w.heap.size) := by
  rcases h with h | ⟨g, cap, cur, h1, h2, h3, h4⟩
  · exact .inl h
  · exact .inr ⟨g, cap, cur, h1, ⟨h2, block_lt h3⟩, h3, h4⟩
theorem Row.turn (h : Row e w v us F) (ht : Turn G w w') (hd : ∀ b, F b → ¬ G b) : Row e w' v us F := h.keep fun b hb hF => ht.block b hb (hd b hF)
theorem Row.slin (h : Row e w v us F) : SlIn w v us F := by
  rcases h with ⟨rfl, rfl⟩ | ⟨g, cap, cur, rfl, h2, h3, h4, h5, h6, h7⟩
  · exact SlIn.nil _
  · refine ⟨some ⟨g, 0, none⟩, cap, rfl, h4, fun _ => ⟨g, 0, rfl, block_lt h3, h2, fun i hi => ?_⟩⟩
    rw [Nat.zero_add, cell_of_block h3 (by omega)]
    congr 1
    have h8 : us[i]? = cur.toList[i]? := by
      conv => lhs; rw [← h7]
      rw [List.getElem?_take, if_pos hi]
    rw [List.getElem?_eq_getElem hi, List.getElem?_eq_getElem (by simp; omega)] at h8
    injection h8 with h8
    rw [h8]; simp
/-- a place of a list that is written: what is there, and what is left behind -/
theorem Row.place (h : Row e w v us F) {i : Nat} (hi : i < us.length) : ∃ g cap, v = .slice (some ⟨g, 0, none⟩) us.length cap ∧ F g ∧ g < w.heap.size ∧ w.cell? ⟨g, i, none⟩ = some us[i] ∧ w.frozen? ⟨g, i, none⟩ = false ∧
    ∀ u, Row e (w.setCell ⟨g, i, none⟩ u) v (us.set i u) F ∧ Turn (fun b => b = g) w (w.setCell ⟨g, i, none⟩ u) := by
  have hs := h.slin
  rcases h with ⟨rfl, rfl⟩ | ⟨g, cap, cur, rfl, h2, h3, h4, h5, h6, h7⟩
  · simp at hi
  · refine ⟨g, cap, rfl, h2, block_lt h3, ?_, frozen_of_block h3, fun u => ⟨.inr ⟨g, cap, cur.setIfInBounds i u, by rw [List.length_set], h2, block_setCell h3 u, by rw [List.length_set]; exact h4, h5, by simpa using h6, ?_⟩, (Turn.refl (fun b => b = g) w).setCell (p := ⟨g, i, none⟩) (.inl rfl) u⟩⟩
    · obtain ⟨A, c, e1, _, e3⟩ := hs
      obtain ⟨b, o, e4, _, _, e6⟩ := e3 (by omega)
      injection e1 with e1 _ _
      rw [e4] at e1
      injection e1 with e1
      injection e1 with e1 e2
      have := e6 i hi
      rw [← e1, ← e2, Nat.zero_add] at this
      exact this
    · rw [Array.toList_setIfInBounds, List.length_set, List.take_set, h7]
theorem setCells_block (b : Nat) : ∀ (vs : List Value) (o : Nat) (w : World) (cur : Array Value), w.heap[b]? = some (.cells cur e (0, 0)) → o + vs.length ≤ cur.size →
    ∃ cur', (w.setCells b o vs).heap[b]? = some (.cells cur' e (0, 0)) ∧ cur'.size = cur.size ∧ cur'.toList.take (o + vs.length) = cur.toList.take o ++ vs
  | [], o, w, cur, h, _ => ⟨cur, h, rfl, by simp⟩
  | v :: r, o, w, cur, h, hs => by
    rw [List.length_cons] at hs
    obtain ⟨cur', h1, h2, h3⟩ := setCells_block b r (o + 1) (w.setCell ⟨b, o, none⟩ v) (cur.setIfInBounds o v) (block_setCell h v) (by simp; omega)
    refine ⟨cur', h1, by simpa using h2, ?_⟩
    rw [List.length_cons, show o + (r.length + 1) = o + 1 + r.length by omega, h3, Array.toList_setIfInBounds]
    rw [List.take_succ_eq_append_getElem (by simp; omega), List.getElem_set_self, List.take_set_of_le (Nat.le_refl _)]
    simp
theorem setCells_turn (b : Nat) : ∀ (vs : List Value) (o : Nat) (w : World), Turn (fun k => k = b) w (w.setCells b o vs)
  | [], _, w => Turn.refl _ _
  | v :: r, o, w => ((Turn.refl (fun k => k = b) w).setCell (p := ⟨b, o, none⟩) (.inl rfl) v).trans (setCells_turn b r (o + 1) _)
/-- append: the new list, the old one, and what has turned -/
theorem run_append_row (ty : TypeId) (i : TypeInfo) (z : Value) (bytes : Nat) (ht : P.underlying t = some (.slice e)) (hi : P.info? e = some i) (hz : i.zero = some z) (hsize : i.size = 1) (hby : i.bytes = bytes) (hzs : z.cells.size = 1)
    (H : Row e w v us F) (ad : Addr) (m c : Nat) (hl : news.length = m) (hnews : ∀ j u, news[j]? = some u → w.cell? (ad.add j) = some u) (h1 : ∀ u ∈ news, u.oneCell' = true)
    (hm : 0 < m) (h63 : us.length + m ≤ maxLen) (hbytes : (us.length + m) * bytes ≤ 140737488355328) :
    ∃ v' w', (Builtin.append_ #[t, t] ty #[v, .slice (some ad) m c]).run P w = .ok v' w' ∧ Row e w' v' (us ++ news) (fun b => F b ∨ w.heap.size ≤ b) ∧ Turn F w w' ∧ (∀ b o, b < w.heap.size → (F b → o < us.length) → w'.cell? ⟨b, o, none⟩ = w.cell? ⟨b, o, none⟩) := by
  have hS := H.slin
  rcases H with ⟨rfl, rfl⟩ | ⟨g, cap, cur, rfl, h2, h3, h4, h5, h6, h7⟩
  · obtain ⟨v', w', hrun, r1, r2, _⟩ := run_append_own (P := P) w w.heap.size t ty e i z 1 bytes ht hi hz hsize hby hzs (by decide) (.slice none 0 0) 0 [] (World.ownsRow_nil w _ e 1) ad m c news (by omega) hnews h1 (by simpa using h63) (by simpa using hbytes) (Nat.le_refl _)
    have ht2 : Turn (fun _ => False) w w' := (Turn.refl _ w).grown r2 (fun k hk => by cases hk)
    exact ⟨v', w', hrun, (Row.of_own r1).mono fun b _ hb => .inr hb.1, ht2.mono (fun i hi => hi.elim), fun b o hb _ => ht2.cell (p := ⟨b, o, none⟩) hb (fun h => h)⟩
  · by_cases hr : us.length + m ≤ cap
    · have hrun := run_append_room_cells (P := P) w t ty e i ht hi g 0 us.length cap ad m c news (by rw [hsize]; omega) hnews h1 hr
        (fun j hj => by rw [hsize, cell_of_block h3 (by omega)]; rfl) (fun j hj => frozen_of_block h3)
      rw [hsize, Nat.mul_one, Nat.zero_add] at hrun
      obtain ⟨cur', q1, q2, q3⟩ := setCells_block g news us.length w cur h3 (by omega)
      have ht2 := setCells_turn g news us.length w
      refine ⟨_, _, hrun, .inr ⟨g, cap, cur', by rw [List.length_append, hl], .inl h2, q1, by rw [List.length_append, hl]; exact hr, h5, by omega, by rw [List.length_append, q3, h7]⟩, ht2.mono fun i hi => .inl (by rw [hi]; exact h2), fun b o hb hF => ?_⟩
      refine World.cell?_setCells_out g news us.length w ⟨b, o, none⟩ (fun e1 _ => .inl (hF (by rw [show b = g from e1]; exact h2)))
    · have holds : ∀ j u, us[j]? = some u → w.cell? ((⟨g, 0, none⟩ : Addr).add j) = some u := fun j u hu => by
        obtain ⟨hj, e1⟩ := List.getElem?_eq_some_iff.1 hu
        obtain ⟨A, c, e1', _, e3⟩ := hS
        obtain ⟨b, o, e4, _, _, e6⟩ := e3 (by omega)
        injection e1' with e1' _ _
        rw [e4] at e1'
        injection e1' with e1'
        injection e1' with e5 e7
        rw [Addr.add_lit, e5, e7, e6 j hj, e1]
      obtain ⟨v', w', hrun, r1, r2⟩ := run_append_arg_grows (P := P) w t ty e i z 1 bytes ht hi hz hsize hby hzs (by decide) ⟨g, 0, none⟩ us.length cap us (by omega) holds ad m c news (by omega) hnews (by omega) h63 hbytes
      have ht2 : Turn (fun _ => False) w w' := (Turn.refl _ w).grown r2 (fun k hk => by cases hk)
      exact ⟨v', w', hrun, (Row.of_own r1).mono fun b _ hb => .inr hb.1, ht2.mono (fun i hi => hi.elim), fun b o hb _ => ht2.cell (p := ⟨b, o, none⟩) hb (fun h => h)⟩
theorem wp_append_row {o : Oper} {a : Act} {K : Act → World → Prop} {Q : Exit → Act → World → Prop} (s x : Operand)
    (ho : o.op = .call { callee := .builtin .append, args := #[s, x], argTypes := #[t, t] })
    (i : TypeInfo) (z : Value) (bytes : Nat) (ht : P.underlying t = some (.slice e)) (hi : P.info? e = some i) (hz : i.zero = some z) (hsize : i.size = 1) (hby : i.bytes = bytes) (hzs : z.cells.size = 1)
    (hs : a.eval s = v) (H : Row e w v us F) (ad : Addr) (m c : Nat) (hx : a.eval x = .slice (some ad) m c) (hl : news.length = m) (hnews : ∀ j u, news[j]? = some u → w.cell? (ad.add j) = some u) (h1 : ∀ u ∈ news, u.oneCell' = true)
    (hm : 0 < m) (h63 : us.length + m ≤ maxLen) (hbytes : (us.length + m) * bytes ≤ 140737488355328)
    (h : ∀ v' w', Row e w' v' (us ++ news) (fun b => F b ∨ w.heap.size ≤ b) → Turn F w w' → (∀ b o, b < w.heap.size → (F b → o < us.length) → w'.cell? ⟨b, o, none⟩ = w.cell? ⟨b, o, none⟩) → K (a.put o.dst v') w') : o.wp P a w K Q := by
  obtain ⟨v', w', hr, h2, h3, h4⟩ := run_append_row (P := P) (F := F) o.type i z bytes ht hi hz hsize hby hzs H ad m c hl hnews h1 hm h63 hbytes
  unfold Oper.wp execOp
  simp only [ho, resolve, invoke, builtin, Sem.run_bind, Sem.run_pure, Result.andThen_ok, List.map_toArray, List.map_cons, List.map_nil, hs, hx, hr]
  exact h v' w' h2 h3 h4
theorem wpList_append_row {ops : Array Oper} {rest : List Oper} {o : Oper} {a : Act} {Q : Exit → Act → World → Prop} (hgd : o.guard = none) (s x : Operand)
    (ho : o.op = .call { callee := .builtin .append, args := #[s, x], argTypes := #[t, t] })
    (i : TypeInfo) (z : Value) (bytes : Nat) (ht : P.underlying t = some (.slice e)) (hi : P.info? e = some i) (hz : i.zero = some z) (hsize : i.size = 1) (hby : i.bytes = bytes) (hzs : z.cells.size = 1)
    (hs : a.eval s = v) (H : Row e w v us F) (ad : Addr) (m c : Nat) (hx : a.eval x = .slice (some ad) m c) (hl : news.length = m) (hnews : ∀ j u, news[j]? = some u → w.cell? (ad.add j) = some u) (h1 : ∀ u ∈ news, u.oneCell' = true)
    (hm : 0 < m) (h63 : us.length + m ≤ maxLen) (hbytes : (us.length + m) * bytes ≤ 140737488355328)
    (h : ∀ v' w', Row e w' v' (us ++ news) (fun b => F b ∨ w.heap.size ≤ b) → Turn F w w' → (∀ b o, b < w.heap.size → (F b → o < us.length) → w'.cell? ⟨b, o, none⟩ = w.cell? ⟨b, o, none⟩) → wpList P ops Q rest (a.put o.dst v') w') : wpList P ops Q (o :: rest) a w :=
  wpList_plain hgd fun _ hK => wp_append_row s x ho i z bytes ht hi hz hsize hby hzs hs H ad m c hx hl hnews h1 hm h63 hbytes fun v' w' h2 h3 h4 => hK _ _ (h v' w' h2 h3 h4)
end
end Go.Proofs.Ytaghjiffmondjaa
