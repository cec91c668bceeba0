/-
  A list of lists, marks; marked.
-/
import Derived.Test.YtaghjiffmondjaaF0
import Derived.Test.YtaghjiffmondjaaB3
import Derived.Test.YtaghjiffmondjaaReg2
import Derived.Deep.Cut
import Derived.Deep.CutBlock
import Derived.Deep.DeepCutAuto
import Derived.Deep.DeepMust
set_option linter.unusedVariables false
set_option linter.unusedSimpArgs false
namespace Go.Proofs.Ytaghjiffmondjaa
open Go.RowKit


theorem SlIn.strs {w : World} {v : Value} {xs : List ByteArray} {B : Nat → Prop} (h : SlIn w v (xs.map Value.string) B) : ∃ A cap, v = .slice A xs.length cap ∧ xs.length ≤ cap ∧ (0 < xs.length → ∃ b o, A = some ⟨b, o, none⟩ ∧ b < w.heap.size ∧ ∀ i (h : i < xs.length), w.cell? ⟨b, o + i, none⟩ = some (.string xs[i])) := by
  obtain ⟨A, cap, rfl, hc, h⟩ := h
  have hl : (xs.map Value.string).length = xs.length := List.length_map _
  rw [hl]
  refine ⟨A, cap, rfl, by omega, fun hp => ?_⟩
  obtain ⟨b, o, h1, h2, _, h4⟩ := h (by omega)
  exact ⟨b, o, h1, h2, fun i hi => by rw [h4 i (by simpa using hi)]; simp⟩
theorem str_eq2 (s : ByteArray) : (s.toList == s.toList) = true := by simp
theorem marked_calls (xs : List ByteArray) (m : ByteArray) (v : Value) (w : World) (B : Nat → Prop) (h : SlIn w v (xs.map Value.string) B) (hl : xs.length ≤ 1000000000) (hall : ∀ x ∈ xs, x = m) :
    Calls Try.prog 38 #[v, .string m] w fun r w' => r = .returned (.bool true) ∧ w = w' := by
  obtain ⟨A, cap, rfl, hc, h⟩ := h.strs
  have HC := Lib.hid h
  have HA := Lib.hid hall
  clear h hall
  go_enter Try.func38, Try.ntmps38
  go_wp2
  go_loopw [5] (fun iv wr => ∃ i : Nat, iv = .int .i64 i ∧ i ≤ xs.length ∧ w = wr) (fun iv _ => xs.length - (intOf iv).toNat)
  case atStart => exact ⟨0, rfl, by omega, rfl⟩
  case round =>
    obtain ⟨i, rfl, hi', rfl⟩ := hrel
    by_cases hlt : i < xs.length
    · obtain ⟨b, o, rfl, hb, hC1⟩ := HC.out (by omega)
      have c0 := hC1 i hlt
      rw [HA.out _ (List.getElem_mem hlt)] at c0
      clear hC1
      have t1 := str_eq2 m
      go_wp2
      exact ⟨⟨i + 1, by go_num, by omega, by first | rfl | trivial⟩, by simp [intOf]; omega⟩
    · obtain rfl : i = xs.length := by omega
      go_wp2
      go_ret
      first | exact ⟨rfl, rfl⟩ | exact ⟨rfl, trivial⟩
def letterOf (i : Nat) : ByteArray := ⟨#[UInt8.ofNat (97 + i % 26)]⟩
def markOf (i : Nat) : ByteArray := ⟨#[109, 97, 114, 107]⟩ ++ letterOf i
theorem wrap97 (i : Nat) : IntKind.u8.wrap (IntKind.i64.wrap (97 + ((i % 26 : Nat) : Int))) = ((97 + i % 26 : Nat) : Int) := by
  simp [IntKind.wrap, IntKind.signed, IntKind.bits]
  omega
theorem letter_at (u : World) (b i : Nat) (x : Int) (hx : x = ((97 + i % 26 : Nat) : Int)) (h : u.heap[b]? = some (.cells #[.int .u8 x] 5 (0, 0))) : (convert 52 9 (.slice (some ⟨b, 0, none⟩) 1 1)).run Try.prog u = .ok (.string (letterOf i)) u := by
  have hb : bv (UInt8.ofNat (97 + i % 26)) = .int .u8 x := by
    rw [hx]
    unfold bv
    have : (UInt8.ofNat (97 + i % 26)).toNat = 97 + i % 26 := by rw [UInt8.toNat_ofNat']; omega
    rw [this]
  have h : u.ownsRow b 5 1 (.slice (some ⟨b, 0, none⟩) 1 1) [UInt8.ofNat (97 + i % 26)].length ([UInt8.ofNat (97 + i % 26)].map bv) := by
    refine ⟨rfl, .inr ⟨b, 1, #[.int .u8 x], rfl, Nat.le_refl _, h, Nat.le_refl _, by unfold maxLen; omega, rfl, ?_⟩⟩
    show [Value.int .u8 _] = [bv (UInt8.ofNat (97 + i % 26))]
    rw [hb]
  exact own_string h
/-- a list from the beginning of a block on: it reads so -/
def View (w : World) (v : Value) (us : List Value) (F : Nat → Prop) : Prop :=
  (v = .slice none 0 0 ∧ us = []) ∨ ∃ g cap, v = .slice (some ⟨g, 0, none⟩) us.length cap ∧ F g ∧ g < w.heap.size ∧ us.length ≤ cap ∧ ∀ i (h : i < us.length), w.cell? ⟨g, i, none⟩ = some us[i]
section
variable {e : TypeId} {w w' : World} {v : Value} {us : List Value} {F G : Nat → Prop}
theorem Row.view (h : Row e w v us F) : View w v us F := by
  have hs := h.slin
  rcases h with h | ⟨g, cap, cur, rfl, h2, h3, h4, h5, h6, h7⟩
  · exact .inl h
  · refine .inr ⟨g, cap, rfl, h2, block_lt h3, h4, fun i hi => ?_⟩
    obtain ⟨A, c, e1, _, e3⟩ := hs
    obtain ⟨b, o, e4, _, _, e6⟩ := e3 (by omega)
    injection e1 with e1 _ _
    rw [e4] at e1
    injection e1 with e1
    injection e1 with e1 e2
    have := e6 i hi
    rw [← e1, ← e2, Nat.zero_add] at this
    exact this
theorem View.mono (h : View w v us F) (hF : ∀ b, b < w.heap.size → F b → G b) : View w v us G := by
  rcases h with h | ⟨g, cap, h1, h2, h3, h4⟩
  · exact .inl h
  · exact .inr ⟨g, cap, h1, hF g h3 h2, h3, h4⟩
theorem View.keepc (h : View w v us F) (hs : w.heap.size ≤ w'.heap.size) (hk : ∀ b o, b < w.heap.size → F b → o < us.length → w'.cell? ⟨b, o, none⟩ = w.cell? ⟨b, o, none⟩) : View w' v us F := by
  rcases h with h | ⟨g, cap, h1, h2, h3, h4, h5⟩
  · exact .inl h
  · exact .inr ⟨g, cap, h1, h2, by omega, h4, fun i hi => (hk g i h3 h2 hi).trans (h5 i hi)⟩
theorem View.turn (h : View w v us F) (ht : Turn G w w') (hd : ∀ b, b < w.heap.size → F b → ¬ G b) : View w' v us F := h.keepc ht.size fun b o hb hF _ => ht.cell (p := ⟨b, o, none⟩) hb (hd b hb hF)
theorem View.slin (h : View w v us F) : SlIn w v us F := by
  rcases h with ⟨rfl, rfl⟩ | ⟨g, cap, rfl, h2, h3, h4, h5⟩
  · exact SlIn.nil _
  · exact ⟨some ⟨g, 0, none⟩, cap, rfl, h4, fun _ => ⟨g, 0, rfl, h3, h2, fun i hi => by rw [Nat.zero_add]; exact h5 i hi⟩⟩
/-- a list of lists: what stands at its places -/
def Out (w : World) (v : Value) (n : Nat) (uf : Nat → Value) (O : Nat → Prop) : Prop :=
  ∃ A cap, v = .slice A n cap ∧ (0 < n → ∃ b o, A = some ⟨b, o, none⟩ ∧ b < w.heap.size ∧ O b ∧ ∀ i, i < n → w.cell? ⟨b, o + i, none⟩ = some (uf i))
theorem Out.turn {n : Nat} {uf : Nat → Value} {O : Nat → Prop} (h : Out w v n uf O) (ht : Turn G w w') (hd : ∀ b, O b → ¬ G b) : Out w' v n uf O := by
  obtain ⟨A, cap, rfl, h⟩ := h
  refine ⟨A, cap, rfl, fun hp => ?_⟩
  obtain ⟨b, o, h1, h2, h3, h4⟩ := h hp
  exact ⟨b, o, h1, Nat.lt_of_lt_of_le h2 ht.size, h3, fun i hi => (ht.cell (p := ⟨b, o + i, none⟩) h2 (hd b h3)).trans (h4 i hi)⟩
theorem Out.turnb {n : Nat} {uf : Nat → Value} {O : Nat → Prop} (h : Out w v n uf O) (ht : Turn G w w') (hd : ∀ b, b < w.heap.size → O b → ¬ G b) : Out w' v n uf O := by
  obtain ⟨A, cap, rfl, h⟩ := h
  refine ⟨A, cap, rfl, fun hp => ?_⟩
  obtain ⟨b, o, h1, h2, h3, h4⟩ := h hp
  exact ⟨b, o, h1, Nat.lt_of_lt_of_le h2 ht.size, h3, fun i hi => (ht.cell (p := ⟨b, o + i, none⟩) h2 (hd b h2 h3)).trans (h4 i hi)⟩
theorem Row.placeA (h : Row e w v us F) {i : Nat} (hi : i < us.length) : ∃ g cap, v = .slice (some ⟨g, 0, none⟩) us.length cap ∧ F g ∧ g < w.heap.size ∧ w.cell? ⟨g, i, none⟩ = some us[i] ∧ w.frozen? ⟨g, i, none⟩ = false ∧
    ∀ o u, Row e ((w.alloc o).setCell ⟨g, i, none⟩ u).drew v (us.set i u) F ∧ Turn (fun b => b = g) w ((w.alloc o).setCell ⟨g, i, none⟩ u).drew := by
  obtain ⟨g, cap, h1, h2, h3, h4, h5, _⟩ := h.place hi
  refine ⟨g, cap, h1, h2, h3, h4, h5, fun o u => ?_⟩
  have hA : Row e (w.alloc o) v us F := h.keep fun b hb _ => Below.heap_alloc w o b hb
  obtain ⟨g', cap', q1, _, _, _, _, q6⟩ := hA.place hi
  rw [h1] at q1
  injection q1 with q1 _ _
  injection q1 with q1
  injection q1 with q1
  subst q1
  exact ⟨(q6 u).1.keep fun _ _ _ => rfl, (((Turn.refl (fun b => b = g) w).alloc o).setCell (p := ⟨g, i, none⟩) (.inl rfl) u).drew⟩
theorem Row.shape (h : Row e w v us F) : ∃ A cap, v = .slice A us.length cap := by
  rcases h with ⟨rfl, rfl⟩ | ⟨g, cap, cur, rfl, _⟩
  · exact ⟨none, 0, rfl⟩
  · exact ⟨_, _, rfl⟩
theorem View.shape (h : View w v us F) : ∃ A cap, v = .slice A us.length cap := by
  rcases h with ⟨rfl, rfl⟩ | ⟨g, cap, rfl, _⟩
  · exact ⟨none, 0, rfl⟩
  · exact ⟨_, _, rfl⟩
end
theorem heap_alloc2 (w : World) (o1 o2 : Obj) : ((w.alloc o1).alloc o2).heap[w.heap.size + 1]? = some o2 := by
  have := (MapKept.heap_alloc (w.alloc o1) o2).1
  simpa using this
theorem Row.alloc {e : TypeId} {w : World} {v : Value} {us : List Value} {F : Nat → Prop} (h : Row e w v us F) (o : Obj) : Row e (w.alloc o) v us F := h.keep fun b hb _ => Below.heap_alloc w o b hb
theorem View.alloc {w : World} {v : Value} {us : List Value} {F : Nat → Prop} (h : View w v us F) (o : Obj) : View (w.alloc o) v us F := h.turn (G := fun _ => False) ((Turn.refl _ w).alloc o) fun _ _ _ h => h
theorem rep_set (j : Nat) (m : ByteArray) (l : List ByteArray) (h : j < l.length) : (((List.replicate j m ++ l.drop j).map Value.string).set j (.string m)) = (List.replicate (j + 1) m ++ l.drop (j + 1)).map Value.string := by
  rw [← List.map_set]
  congr 1
  rw [List.set_append_right _ _ (by simp), List.length_replicate, Nat.sub_self, List.drop_eq_getElem_cons h, List.set_cons_zero, List.replicate_succ', List.append_assoc]
  rfl
end Go.Proofs.Ytaghjiffmondjaa
