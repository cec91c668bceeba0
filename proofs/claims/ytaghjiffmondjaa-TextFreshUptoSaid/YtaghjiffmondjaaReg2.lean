/-
  A region that draws its order, walked in one order, behind a structure. No conditions.
-/
import Derived.Test.YtaghjiffmondjaaReg
set_option linter.unusedVariables false
set_option linter.unusedSimpArgs false
namespace Go.Proofs.Ytaghjiffmondjaa
open Go.RowKit
section
variable {P : Program} {ops : Array Oper} {Q : Exit → Act → World → Prop} {md : Region.Mode} {S : World → Prop}
variable {held : List Nat} {rest : List (Nat × Bool)} {i : Nat} {o : Oper} {a : Act} {w : World} {l : List Oper}
/-- the same, behind a structure (so that nothing unfolds it) -/
structure SeqG (P : Program) (md : Region.Mode) (l : List Oper) (Q : Exit → Act → World → Prop) (S : World → Prop) (held : List Nat) (ord : List (Nat × Bool)) (a : Act) (w : World) : Prop where
  out : seqH P md l.toArray Q S held ord a w
theorem heldL (v : Value) (a' : Act) (ho : l[i]? = some o) (hw : Region.wanted o (yielded l.toArray a.tmps) = true)
    (hy : ∀ w', S w' → (execOp a.eval o).run P w' = .ok (.value v) w') (ha : a.put o.dst v = a') (h : SeqG P md l Q S held rest a' w) : SeqG P md l Q S held ((i, false) :: rest) a w :=
  ⟨seqH_held v (by simpa using ho) hw hy (ha ▸ h.out)⟩
theorem skipL (ho : l[i]? = some o) (hw : Region.wanted o (yielded l.toArray a.tmps) = false)
    (h : SeqG P md l Q S held rest (a.put o.dst undef) w) : SeqG P md l Q S held ((i, false) :: rest) a w :=
  ⟨seqH_skip (by simpa using ho) hw h.out⟩
theorem actSL (ho : l[i]? = some o) (hw : Region.wanted o (yielded l.toArray a.tmps) = true)
    (h : ∀ K : Act → World → Prop, (∀ a' w', S w' → SeqG P md l Q S held rest a' w' → K a' w') → o.wp P a w K Q) : SeqG P md l Q S held ((i, true) :: rest) a w :=
  ⟨seqH_actS (by simpa using ho) hw (fun K hK => h K fun a' w' s h' => hK a' w' s h'.out)⟩
theorem actL (hneed : (needB md l.toArray held i || rest.any fun x => !x.2) = false) (ho : l[i]? = some o) (hw : Region.wanted o (yielded l.toArray a.tmps) = true)
    (h : ∀ K : Act → World → Prop, (∀ a' w', SeqG P md l Q S held rest a' w' → K a' w') → o.wp P a w K Q) : SeqG P md l Q S held ((i, true) :: rest) a w :=
  ⟨seqH_act hneed (by simpa using ho) hw (fun K hK => h K fun a' w' h' => hK a' w' h'.out)⟩
theorem nilL (h : Q .normal a w) : SeqG P md l Q S held [] a w := ⟨h⟩
theorem putL {a' : Act} {v : Value} {d : Option Tmp} {ord : List (Nat × Bool)} (h : SeqG P md l Q S held ord a' w) (e : a.put d v = a') : SeqG P md l Q S held ord (a.put d v) w := e ▸ h
/-- The region, in the order 'ord'. -/
theorem wp_region_ord {id : Nat} (S : World → Prop) (ord : List (Nat × Bool)) (hm : P.follows .mixedOrders = true)
    (hok : (Region.noSelect l.toArray && seqOk .any l.toArray ((ord.filter fun x => !x.2).map (·.1)) ord (Array.replicate l.toArray.size false) && decide (ord.length ≤ l.toArray.size)) = true)
    (hQ : ∀ c a d v w, Q (.panic c) (Act.put a d v) w → Q (.panic c) a w) (hS : S w.drew) (h : SeqG P .any l Q S ((ord.filter fun x => !x.2).map (·.1)) ord a w.drew) : (Code.region id l.toArray true).wp P Q a w :=
  wp_region_seq S ord hm hok hQ hS h.out
end
end Go.Proofs.Ytaghjiffmondjaa
