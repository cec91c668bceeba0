/-
  A cache in memory: a block, a map from keys to nodes, a ring of nodes. No conditions.
-/
import Derived.Test.YtfkdmbiejledoaaG2
set_option linter.unusedVariables false
set_option linter.unusedSimpArgs false
namespace Go.Proofs.Ytfkdmbiejledoaa
open Go.RowKit

theorem updF_comm (f : Lit → Option Value) {a b : Lit} (x y : Option Value) (h : a ≠ b) : updF (updF f a x) b y = updF (updF f b y) a x := by
  funext l
  by_cases h1 : l = a
  · subst h1; rw [updF_other _ _ h, updF_same, updF_same]
  · by_cases h2 : l = b
    · subst h2; rw [updF_same, updF_other _ _ h1, updF_same]
    · rw [updF_other _ _ h2, updF_other _ _ h1, updF_other _ _ h1, updF_other _ _ h2]
theorem updF_twice (f : Lit → Option Value) (a : Lit) (x y : Option Value) : updF (updF f a x) a y = updF f a y := by
  funext l
  by_cases h1 : l = a
  · subst h1; rw [updF_same, updF_same]
  · rw [updF_other _ _ h1, updF_other _ _ h1, updF_other _ _ h1]
theorem updF_none (f : Lit → Option Value) (a : Lit) (h : f a = none) : updF f a none = f := by
  funext l
  by_cases h1 : l = a
  · subst h1; rw [updF_same, h]
  · rw [updF_other _ _ h1]
section
variable {κ ν : Type} {kl : κ → Lit}
noncomputable def lookL (kl : κ → Lit) : List (Nat × κ × ν) → Lit → Option Value
  | [] => fun _ => none
  | x :: L => updF (lookL kl L) (kl x.2.1) (some (ptr x.1))
theorem lookL_none (hi : ∀ a b, kl a = kl b → a = b) {L : List (Nat × κ × ν)} {k : κ} (h : k ∉ L.map (·.2.1)) : lookL kl L (kl k) = none := by
  induction L with
  | nil => rfl
  | cons x L ih =>
    simp only [List.map_cons, List.mem_cons, not_or] at h
    show updF _ _ _ _ = _
    rw [updF_other _ _ (fun e => h.1 (hi _ _ e)), ih h.2]
theorem lookL_mid (hi : ∀ a b, kl a = kl b → a = b) {xs ys : List (Nat × κ × ν)} {b : Nat} {k : κ} {v : ν} (h : k ∉ xs.map (·.2.1)) : lookL kl (xs ++ (b, k, v) :: ys) = updF (lookL kl (xs ++ ys)) (kl k) (some (ptr b)) := by
  induction xs with
  | nil => rfl
  | cons x xs ih =>
    simp only [List.map_cons, List.mem_cons, not_or] at h
    show updF (lookL kl (xs ++ (b, k, v) :: ys)) _ _ = updF (updF (lookL kl (xs ++ ys)) _ _) _ _
    rw [ih h.2, updF_comm _ _ _ (fun e => h.1 (hi _ _ e))]
theorem lookL_at (hi : ∀ a b, kl a = kl b → a = b) {xs ys : List (Nat × κ × ν)} {b : Nat} {k : κ} {v : ν} (h : ((xs ++ (b, k, v) :: ys).map (·.2.1)).Nodup) : lookL kl (xs ++ (b, k, v) :: ys) (kl k) = some (ptr b) := by
  rw [lookL_mid hi, updF_same]
  rw [List.map_append, List.map_cons] at h
  have h2 := (List.perm_middle.nodup_iff).1 h
  exact fun hh => (List.nodup_cons.1 h2).1 (List.mem_append_left _ hh)
theorem keys_split {xs ys : List (Nat × κ × ν)} {b : Nat} {k : κ} {v : ν} (h : ((xs ++ (b, k, v) :: ys).map (·.2.1)).Nodup) : k ∉ (xs ++ ys).map (·.2.1) ∧ k ∉ xs.map (·.2.1) ∧ ((xs ++ ys).map (·.2.1)).Nodup ∧ (((b, k, v) :: (xs ++ ys)).map (·.2.1)).Nodup := by
  rw [List.map_append, List.map_cons] at h
  have h2 := (List.perm_middle.nodup_iff).1 h
  rw [List.nodup_cons] at h2
  rw [← List.map_append] at h2
  refine ⟨h2.1, fun hh => h2.1 (by rw [List.map_append]; exact List.mem_append_left _ hh), h2.2, ?_⟩
  rw [List.map_cons, List.nodup_cons]
  exact h2
end
/-- what a cache is made of: the program, the types' numbers, the nodes' cells -/
structure CK (κ ν : Type) where
  P : Program
  KT : TypeId
  CT : TypeId
  t : TypeId
  n : Nat
  p : Nat
  q : Nat
  kv : κ → Value
  kl : κ → Lit
  vv : ν → List Value
structure CK.Ok {κ ν : Type} (I : CK κ ν) : Prop where
  hp : I.p < I.n
  hq : I.q < I.n
  hpq : I.p ≠ I.q
  p0 : 0 < I.p
  q0 : 0 < I.q
  vp : ∀ v, (I.vv v).length < I.p
  vq : ∀ v, (I.vv v).length < I.q
  ct : I.CT ≠ I.t
  inj : ∀ a b, I.kl a = I.kl b → a = b
  key : Maps.Keyed I.P I.KT
structure CRep {κ ν : Type} (I : CK κ ν) (w : World) (c m h : Nat) (most : Int) (L : List (Nat × κ × ν)) (hits misses gone : Int) : Prop where
  blk : w.heap[c]? = some (.cells #[.int .i64 most, .map (some m), ptr h, .int .i64 hits, .int .i64 misses, .int .i64 gone] I.CT (0, 0))
  ring : Ring I.t I.n I.p I.q w h (L.map (·.1))
  map : MapF I.P I.KT w m (lookL I.kl L) L.length
  key : ∀ x ∈ L, w.cell? ⟨x.1, 0, none⟩ = some (I.kv x.2.1)
  val : ∀ x ∈ L, ∀ (j : Nat) u, (I.vv x.2.2)[j]? = some u → w.cell? ⟨x.1, 1 + j, none⟩ = some u
  keys : (L.map (·.2.1)).Nodup
section
variable {κ ν : Type} {I : CK κ ν} {w w' : World} {c m h b : Nat} {most : Int} {L xs ys : List (Nat × κ × ν)} {hits misses gone : Int} {k : κ} {v : ν}
/-- the blocks of a cache -/
def CFp (c m h : Nat) (L : List (Nat × κ × ν)) (b : Nat) : Prop := b = c ∨ b = m ∨ b ∈ h :: L.map (·.1)
theorem CRep.keep (H : CRep I w c m h most L hits misses gone) (hk : ∀ b, CFp c m h L b → w'.heap[b]? = w.heap[b]?) : CRep I w' c m h most L hits misses gone := by
  have hb : ∀ b ∈ h :: L.map (·.1), w'.heap[b]? = w.heap[b]? := fun b hb => hk b (.inr (.inr hb))
  have hc : ∀ b o, b ∈ h :: L.map (·.1) → w'.cell? ⟨b, o, none⟩ = w.cell? ⟨b, o, none⟩ := fun b o h => World.cell?_of_block (w := w) (hb b h)
  have hm : ∀ x ∈ L, x.1 ∈ h :: L.map (·.1) := fun x hx => List.mem_cons_of_mem _ (List.mem_map_of_mem hx)
  refine ⟨(hk c (.inl rfl)).trans H.blk, ⟨H.ring.nodup, fun b hb' => (H.ring.node b hb').keep (hb b hb'), H.ring.chain.congr (fun x hx => hc x _ hx) (fun x hx => hc x _ (by simp at hx ⊢; exact hx.symm))⟩, H.map.keep (hk m (.inr (.inl rfl))), fun x hx => (hc _ _ (hm x hx)).trans (H.key x hx), fun x hx j u hu => (hc _ _ (hm x hx)).trans (H.val x hx j u hu), H.keys⟩
theorem CRep.lt (H : CRep I w c m h most L hits misses gone) {b : Nat} (hb : CFp c m h L b) : b < w.heap.size := by
  rcases hb with rfl | rfl | hb
  · exact block_lt H.blk
  · exact H.map.lt
  · exact (H.ring.node b hb).lt
theorem CRep.c_ne (ok : I.Ok) (H : CRep I w c m h most L hits misses gone) {b : Nat} (hb : Node I.t I.n w b) : b ≠ c := by
  rintro rfl
  obtain ⟨cs, h1, _⟩ := hb
  rw [H.blk] at h1
  injection h1 with h1
  injection h1 with _ h1
  exact ok.ct h1
theorem MapF.not_cells {P : Program} {k : TypeId} {w : World} {b n : Nat} {f : Lit → Option Value} (H : MapF P k w b f n) {cs : Array Value} {t : TypeId} {z : Nat × Nat} : w.heap[b]? ≠ some (.cells cs t z) := by
  obtain ⟨D, ⟨es, clock, hb, _⟩, _⟩ := H
  rw [hb]; intro h; cases h
theorem CRep.m_ne (H : CRep I w c m h most L hits misses gone) {b : Nat} (hb : Node I.t I.n w b) : b ≠ m := by
  rintro rfl
  obtain ⟨cs, h1, _⟩ := hb
  exact H.map.not_cells h1
theorem CRep.c_ne_m (H : CRep I w c m h most L hits misses gone) : c ≠ m := by
  rintro rfl
  exact H.map.not_cells H.blk
theorem CRep.headNode (H : CRep I w c m h most L hits misses gone) : Node I.t I.n w h := H.ring.node h (by simp)
/-- the ring has turned (its cells p and q alone): the rest stands -/
theorem CRep.ringed (ok : I.Ok) (H : CRep I w c m h most L hits misses gone) {F : Nat → Prop} (hF : ∀ b, F b → Node I.t I.n w b) (hr : RTurn I.t I.n I.p I.q F w w') {L' : List (Nat × κ × ν)} (hL : ∀ x ∈ L', x ∈ L)
    (hring : Ring I.t I.n I.p I.q w' h (L'.map (·.1))) : w'.heap[c]? = w.heap[c]? ∧ w'.heap[m]? = w.heap[m]? ∧ (∀ x ∈ L', w'.cell? ⟨x.1, 0, none⟩ = some (I.kv x.2.1)) ∧ (∀ x ∈ L', ∀ (j : Nat) u, (I.vv x.2.2)[j]? = some u → w'.cell? ⟨x.1, 1 + j, none⟩ = some u) := by
  refine ⟨hr.turn.block c (block_lt H.blk) (fun hf => H.c_ne ok (hF c hf) rfl), hr.turn.block m H.map.lt (fun hf => H.m_ne (hF m hf) rfl), fun x hx => ?_, fun x hx j u hu => ?_⟩
  · rw [hr.cell _ _ (by have := ok.p0; omega) (by have := ok.q0; omega)]
    exact H.key x (hL x hx)
  · have hj : j < (I.vv x.2.2).length := by
      rcases Nat.lt_or_ge j (I.vv x.2.2).length with h | h
      · exact h
      · rw [List.getElem?_eq_none h] at hu; cases hu
    rw [hr.cell _ _ (by have := ok.vp x.2.2; omega) (by have := ok.vq x.2.2; omega)]
    exact H.val x (hL x hx) j u hu
/-- what a look under a key finds -/
theorem CRep.look {t e : TypeId} (ok : I.Ok) (H : CRep I w c m h most (xs ++ (b, k, v) :: ys) hits misses gone) (ht : I.P.underlying t = some (.map I.KT e)) (hz : (zeroValue e).run I.P w = .ok (.pointer none) w) (hkey : keyOf I.P I.KT (I.kv k) = some (I.kl k)) :
    (Instr.lookup t (.map (some m)) (I.kv k) true).run I.P w = .ok (.tuple #[ptr b, .bool true]) w := by
  have h1 := H.map.look ok.key ht hz hkey
  rw [lookL_at ok.inj H.keys] at h1
  exact h1
theorem CRep.miss {t e : TypeId} (ok : I.Ok) (H : CRep I w c m h most L hits misses gone) (ht : I.P.underlying t = some (.map I.KT e)) (hz : (zeroValue e).run I.P w = .ok (.pointer none) w) (hkey : keyOf I.P I.KT (I.kv k) = some (I.kl k)) (hk : k ∉ L.map (·.2.1)) :
    (Instr.lookup t (.map (some m)) (I.kv k) true).run I.P w = .ok (.tuple #[.pointer none, .bool false]) w := by
  have h1 := H.map.look ok.key ht hz hkey
  rw [lookL_none ok.inj hk] at h1
  exact h1
/-- only the cache's own block has turned: other counters -/
theorem CRep.counted (ok : I.Ok) (H : CRep I w c m h most L hits misses gone) {hits' misses' gone' : Int} (hc : w'.heap[c]? = some (.cells #[.int .i64 most, .map (some m), ptr h, .int .i64 hits', .int .i64 misses', .int .i64 gone'] I.CT (0, 0)))
    (hk : ∀ b, b < w.heap.size → b ≠ c → w'.heap[b]? = w.heap[b]?) : CRep I w' c m h most L hits' misses' gone' := by
  have hn : ∀ b ∈ h :: L.map (·.1), b ≠ c := fun b hb => H.c_ne ok (H.ring.node b hb)
  have hb : ∀ b ∈ h :: L.map (·.1), w'.heap[b]? = w.heap[b]? := fun b hb => hk b (H.ring.node b hb).lt (hn b hb)
  have hc' : ∀ b o, b ∈ h :: L.map (·.1) → w'.cell? ⟨b, o, none⟩ = w.cell? ⟨b, o, none⟩ := fun b o h => World.cell?_of_block (w := w) (hb b h)
  have hm : ∀ x ∈ L, x.1 ∈ h :: L.map (·.1) := fun x hx => List.mem_cons_of_mem _ (List.mem_map_of_mem hx)
  exact ⟨hc, ⟨H.ring.nodup, fun b hb' => (H.ring.node b hb').keep (hb b hb'), H.ring.chain.congr (fun x hx => hc' x _ hx) (fun x hx => hc' x _ (by simp at hx ⊢; exact hx.symm))⟩, H.map.keep (hk m H.map.lt (Ne.symm H.c_ne_m)), fun x hx => (hc' _ _ (hm x hx)).trans (H.key x hx), fun x hx j u hu => (hc' _ _ (hm x hx)).trans (H.val x hx j u hu), H.keys⟩
theorem CRep.alloc (H : CRep I w c m h most L hits misses gone) (o : Obj) : CRep I (w.alloc o) c m h most L hits misses gone :=
  H.keep fun b hb => Below.heap_alloc w o b (H.lt hb)
/-- a new entry stands ahead of the others -/
theorem CRep.added (ok : I.Ok) (H : CRep I w c m h most L hits misses gone) (hk : k ∉ L.map (·.2.1)) {cs : Array Value} (hs : cs.size = I.n) (h0 : cs[0]? = some (I.kv k)) (hv : ∀ (j : Nat) u, (I.vv v)[j]? = some u → cs[1 + j]? = some u)
    {w2 w3 : World} (hr : Ring I.t I.n I.p I.q w2 h (w.heap.size :: L.map (·.1))) (ht : RTurn I.t I.n I.p I.q (fun b => b ∈ w.heap.size :: h :: L.map (·.1)) (w.alloc (.cells cs I.t)) w2)
    (hm : MapF I.P I.KT w3 m (updF (lookL I.kl L) (I.kl k) (some (ptr w.heap.size))) (L.length + 1)) (htu : w2.mapTurned w3 m) :
    CRep I w3 c m h most ((w.heap.size, k, v) :: L) hits misses gone ∧ Turn (CFp c m h L) w w3 := by
  have H1 := H.alloc (.cells cs I.t)
  have he : (w.alloc (.cells cs I.t)).heap[w.heap.size]? = some (.cells cs I.t (0, 0)) := (MapKept.heap_alloc w _).1
  have hne : Node I.t I.n (w.alloc (.cells cs I.t)) w.heap.size := ⟨cs, he, hs⟩
  have hF : ∀ b, b ∈ w.heap.size :: h :: L.map (·.1) → Node I.t I.n (w.alloc (.cells cs I.t)) b := by
    intro b hb
    rcases List.mem_cons.1 hb with h1 | h1
    · rw [h1]; exact hne
    · exact H1.ring.node b h1
  have hcm := H.c_ne_m
  have k2 : ∀ i, i ≠ m → w3.heap[i]? = w2.heap[i]? := fun i hi => mapTurned_other htu hi
  have hc2 : w2.heap[c]? = (w.alloc (.cells cs I.t)).heap[c]? := ht.turn.block c (block_lt H1.blk) (fun hf => H1.c_ne ok (hF c hf) rfl)
  have hmn : ∀ i ∈ h :: w.heap.size :: L.map (·.1), i ≠ m := by
    intro i hi
    refine H1.m_ne (hF i ?_)
    simp only [List.mem_cons] at hi ⊢
    rcases hi with h1 | h1 | h1
    · exact .inr (.inl h1)
    · exact .inl h1
    · exact .inr (.inr h1)
  have hcell : ∀ i o, i ∈ h :: w.heap.size :: L.map (·.1) → w3.cell? ⟨i, o, none⟩ = w2.cell? ⟨i, o, none⟩ := fun i o hi => World.cell?_of_block (w := w2) (k2 i (hmn i hi))
  have hin : ∀ x ∈ L, x.1 ∈ h :: w.heap.size :: L.map (·.1) := fun x hx => List.mem_cons_of_mem _ (List.mem_cons_of_mem _ (List.mem_map_of_mem hx))
  have hoff : ∀ i o, o ≠ I.p → o ≠ I.q → w2.cell? ⟨i, o, none⟩ = (w.alloc (.cells cs I.t)).cell? ⟨i, o, none⟩ := ht.cell
  have vlt : ∀ (v : ν) (j : Nat) u, (I.vv v)[j]? = some u → 1 + j ≠ I.p ∧ 1 + j ≠ I.q := by
    intro v j u hu
    have hj : j < (I.vv v).length := by
      rcases Nat.lt_or_ge j (I.vv v).length with h | h
      · exact h
      · rw [List.getElem?_eq_none h] at hu; cases hu
    have := ok.vp v; have := ok.vq v
    omega
  have hee : ∀ o u, cs[o]? = some u → (w.alloc (.cells cs I.t)).cell? ⟨w.heap.size, o, none⟩ = some u := by
    intro o u hu
    obtain ⟨ho, hu2⟩ := Array.getElem?_eq_some_iff.1 hu
    rw [cell_of_block he ho, hu2]
  refine ⟨⟨(k2 c hcm).trans (hc2.trans H1.blk), ⟨hr.nodup, fun b hb => (hr.node b hb).keep (k2 b (hmn b hb)), hr.chain.congr (fun x hx => hcell x _ hx) (fun x hx => hcell x _ ?_)⟩, hm, ?_, ?_, ?_⟩, ?_⟩
  · rcases List.mem_append.1 hx with h1 | h1
    · exact List.mem_cons_of_mem _ h1
    · rw [List.mem_singleton.1 h1]; simp
  · intro x hx
    rcases List.mem_cons.1 hx with h1 | h1
    · subst h1
      rw [hcell _ _ (by simp), hoff _ _ (by have := ok.p0; omega) (by have := ok.q0; omega)]
      exact hee 0 _ h0
    · rw [hcell _ _ (hin x h1), hoff _ _ (by have := ok.p0; omega) (by have := ok.q0; omega)]
      exact H1.key x h1
  · intro x hx j u hu
    obtain ⟨e1, e2⟩ := vlt x.2.2 j u hu
    rcases List.mem_cons.1 hx with h1 | h1
    · subst h1
      rw [hcell _ _ (by simp), hoff _ _ e1 e2]
      exact hee _ _ (hv j u hu)
    · rw [hcell _ _ (hin x h1), hoff _ _ e1 e2]
      exact H1.val x h1 j u hu
  · rw [List.map_cons, List.nodup_cons]; exact ⟨hk, H.keys⟩
  · refine ((Turn.refl _ w).alloc _).trans' (ht.turn.mono (G := fun b => b ∈ w.heap.size :: h :: L.map (·.1)) fun i hi => .inl hi) (fun i hi => ?_) |>.map htu (.inl (.inr (.inl rfl)))
    rcases List.mem_cons.1 hi with h1 | h1
    · exact .inr (by omega)
    · exact .inl (.inr (.inr h1))
/-- a head alone: the ring of none -/
theorem CRep.emptied (ok : I.Ok) (hc : w.heap[c]? = some (.cells #[.int .i64 most, .map (some m), ptr h, .int .i64 hits, .int .i64 misses, .int .i64 gone] I.CT (0, 0))) (hn : Node I.t I.n w h) (hm : MapF I.P I.KT w m (fun _ => none) 0) :
    CRep I ((w.setCell ⟨h, I.p, none⟩ (ptr h)).setCell ⟨h, I.q, none⟩ (ptr h)).drew c m h most ([] : List (Nat × κ × ν)) hits misses gone := by
  have hch : h ≠ c := by
    rintro rfl
    obtain ⟨cs, h1, _⟩ := hn
    rw [hc] at h1
    injection h1 with h1
    injection h1 with _ h1
    exact ok.ct h1
  have hmh : h ≠ m := by
    rintro rfl
    obtain ⟨cs, h1, _⟩ := hn
    exact hm.not_cells h1
  refine ⟨(block_other hch _).trans ((block_other hch _).trans hc), ⟨by simp, fun b hb => ?_, ?_, ?_⟩, hm.keep ((block_other hmh _).trans (block_other hmh _)), (fun x hx => by cases hx), (fun x hx => by cases hx), by simp⟩
  · rw [List.mem_singleton.1 hb]; exact ((hn.setCell _ _ _).setCell _ _ _)
  · show ((w.setCell _ _).setCell _ _).cell? _ = _
    rw [cell_set_same (hn.setCell _ _ _) ok.hq]
  · show ((w.setCell _ _).setCell _ _).cell? _ = _
    rw [cell_set_off _ (.inr ok.hpq), cell_set_same hn ok.hp]
end
end Go.Proofs.Ytfkdmbiejledoaa
