/-
  Arguments opened: a list of numbers.
-/
import Derived.Test.YtfkdmbiejledoaaRows
import Derived.Test.YtfkdmbiejledoaaP0
import Derived.WalkKit
import Derived.ProofKit
import Derived.OpenShut
import Derived.ShutString
import Derived.ChangeOld
import Derived.Below
import Derived.SizedLaws
import Derived.JoinedCond
import Derived.SliceStrings
import Derived.ChangeSlices
set_option linter.unusedVariables false
set_option linter.unusedSimpArgs false
namespace Go.Proofs.Ytfkdmbiejledoaa
open Go.RowKit Go.ChangeShapes Go.WideShapes Go.ChangeAt
open Go.ChangeMaps (open_string shut_string)


theorem own_knob : ownKnob Try.prog.godebug = none := by kernel_rfl
theorem Try.laidOut : laidOutB Try.prog = true := by kernel_rfl
theorem cells3' : Try.prog.cellsOf 3 = 1 := by kernel_rfl
theorem bulk_ints {H : Type} (zs : List Int) : Rows.uptoBulkAll (lits (H := H) .i64 zs) = zs.length := by
  induction zs with
  | nil => rfl
  | cons s ss ih =>
    have e : lits (H := H) .i64 (s :: ss) = .lit (.int .i64 s) :: lits .i64 ss := rfl
    rw [e]
    simp only [Rows.uptoBulkAll, Rows.uptoBulk, ih, List.length_cons]; omega
theorem ints_open {H : Type} {enc : TypeId × Value → H} {W : World} {v : Value} {x : DataW H × List MemPlace} {fuel : Nat} {held : Bool}
    (h : DataW.trod enc Try.prog W 0 (fun _ => true) held fuel 46 v.cells.toList = some x) (hv : ∃ a l c, v = .slice a l c) (hlt : ∀ p ∈ x.2, p.block < W.heap.size) :
    ∃ zs : List Int, SlIn W v (zs.map (Value.int .i64)) (fun _ => True) ∧ zs.length ≤ Rows.uptoBulk x.1 ∧ ∀ z ∈ zs, InI64 z := by
  obtain ⟨a0, l0, c0, rfl⟩ := hv
  rcases open_ints Try.underlying46 Try.underlying3 cells3' h with ⟨hcs, hx⟩ | ⟨a, len, cap, ss, hcs, _, hl, hm, hz, hx, hcell, hws⟩
  · simp [Value.cells] at hcs
    obtain ⟨rfl, rfl, rfl⟩ := hcs
    exact ⟨[], SlIn.nil _, by simp, fun z hz => by cases hz⟩
  · simp [Value.cells] at hcs
    obtain ⟨rfl, rfl, rfl⟩ := hcs
    simp only [if_true] at hz
    have hlen : (ss.take l0).length = l0 := by rw [List.length_take]; omega
    have hlm : ((ss.take l0).map (Value.int .i64)).length = l0 := by rw [List.length_map, hlen]
    refine ⟨ss.take l0, ⟨some a, c0, by rw [hlm], by omega, fun hp => ?_⟩, ?_, fun z hz' => ?_⟩
    · rw [hlm] at hp
      obtain ⟨b, off, spot⟩ := a
      have hspot : spot = none := by simpa [Addr.add] using World.cell?_spot (hcell 0 (by omega))
      subst hspot
      refine ⟨b, off, rfl, ?_, trivial, fun i hi => ?_⟩
      · have := hlt (.cell b off) (by rw [hx]; exact MemPlace.mem_row.2 ⟨0, by omega, by simp⟩)
        exact this
      · rw [hlm] at hi
        have hc := hcell i (by omega)
        rw [show (⟨b, off + i, none⟩ : Addr) = Addr.add ⟨b, off, none⟩ i by simp [Addr.add]]
        rw [hc, List.getElem_map, List.getElem_take]
        simp [List.getD, show i < ss.length by omega]
    · rw [hx]
      simp only [Rows.uptoBulk, bulk_ints]
      omega
    · have := hws z (List.mem_of_mem_take hz')
      unfold InI64
      simpa [Lit.wf, IntKind.min, IntKind.max, IntKind.signed, IntKind.bits] using this
end Go.Proofs.Ytfkdmbiejledoaa
