/-
  The closed sentence TextNames: the constants of package api that chapter 4 speaks of have the numbers that stand there; the call returns true. No conditions.
-/
import Derived.Test.YtaghjiffmondjaaPTextNamesx1
namespace Go.Proofs.Ytaghjiffmondjaa.Pure
open Go.RowKit Go.Proofs.Ytaghjiffmondjaa.PTextNames Go.Proofs.YtaghjiffmondjaaW.PrintWords Go.Proofs.YtaghjiffmondjaaW.PrintLast

theorem TextNames : annalslaw4_TextNames.Pure := rfl

end Go.Proofs.Ytaghjiffmondjaa.Pure
