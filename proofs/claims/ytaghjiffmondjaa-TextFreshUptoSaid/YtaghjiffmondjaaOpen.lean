/-
  An argument that is a list of texts, opened.
-/
import Derived.Test.YtaghjiffmondjaaRows
import Derived.Test.YtaghjiffmondjaaB16
import Derived.WalkKit
import Derived.ProofKit
import Derived.OpenShut
import Derived.ShutString
import Derived.ChangeOld
import Derived.Below
import Derived.SizedLaws
import Derived.JoinedCond
import Derived.SliceStrings
set_option linter.unusedVariables false
set_option linter.unusedSimpArgs false
namespace Go.Proofs.Ytaghjiffmondjaa
open Go.ChangeShapes Go.WideShapes Go.ChangeAt Go.RowKit
open Go.ChangeMaps (open_string shut_string)

theorem own_knob : ownKnob Try.prog.godebug = none := by kernel_rfl
theorem Try.laidOut : laidOutB Try.prog = true := by kernel_rfl
theorem cells9' : Try.prog.cellsOf 9 = 1 := by kernel_rfl

theorem bulk_strs {H : Type} (ss : List ByteArray) : Rows.uptoBulkAll (strs (H := H) ss) = (ss.map fun s => s.size + 1).sum := by
  induction ss with
  | nil => rfl
  | cons s ss ih =>
    have e : strs (H := H) (s :: ss) = .lit (.string s.data.toList) :: strs ss := rfl
    rw [e]
    simp only [Rows.uptoBulkAll, Rows.uptoBulk, ih, List.map_cons, List.sum_cons]
    simp
theorem wgt_sum (ss : List ByteArray) : wgt ss ≤ 3 * sumL ss := by
  unfold wgt sumL
  induction ss with
  | nil => simp
  | cons s ss ih => simp only [List.map_cons, List.sum_cons]; omega
theorem len_sum (ss : List ByteArray) : ss.length ≤ sumL ss := by
  have := accL_le ss 0 (by omega); rw [accL_zero] at this; exact this

theorem texts_open {H : Type} {enc : TypeId × Value → H} {W : World} {v : Value} {x : DataW H × List MemPlace} {fuel : Nat} {held : Bool}
    (h : DataW.trod enc Try.prog W 0 (fun _ => true) held fuel 23 v.cells.toList = some x) (hv : ∃ a l c, v = .slice a l c) (hlt : ∀ p ∈ x.2, p.block < W.heap.size) :
    ∃ ws, StrsIn W v ws ∧ sumL ws ≤ Rows.uptoBulk x.1 := by
  obtain ⟨a0, l0, c0, rfl⟩ := hv
  rcases open_strings Try.underlying23 Try.underlying9 cells9' h with ⟨hcs, hx⟩ | ⟨a, len, cap, ss, hcs, _, hl, hm, hz, hx, hcell, hws⟩
  · simp [Value.cells] at hcs
    obtain ⟨rfl, rfl, rfl⟩ := hcs
    exact ⟨[], ⟨none, 0, rfl, fun h => absurd h (by simp)⟩, by simp [sumL]⟩
  · simp [Value.cells] at hcs
    obtain ⟨rfl, rfl, rfl⟩ := hcs
    simp only [if_true] at hz
    have hlen : (ss.take l0).length = l0 := by rw [List.length_take]; omega
    refine ⟨ss.take l0, ⟨some a, c0, by rw [hlen], fun hp => ?_⟩, ?_⟩
    · rw [hlen] at hp
      obtain ⟨b, off, spot⟩ := a
      have hspot : spot = none := by simpa [Addr.add] using World.cell?_spot (hcell 0 (by omega))
      subst hspot
      refine ⟨b, off, rfl, ?_, fun i hi => ?_⟩
      · have := hlt (.cell b off) (by rw [hx]; exact MemPlace.mem_row.2 ⟨0, by omega, by simp⟩)
        exact this
      · rw [hlen] at hi
        have hc := hcell i (by omega)
        rw [show (⟨b, off + i, none⟩ : Addr) = Addr.add ⟨b, off, none⟩ i by simp [Addr.add]]
        rw [hc]
        congr 2
        rw [List.getElem_take]
        simp [List.getD, show i < ss.length by omega]
    · rw [hx]
      simp only [Rows.uptoBulk, bulk_strs]
      unfold sumL
      omega
end Go.Proofs.Ytaghjiffmondjaa
