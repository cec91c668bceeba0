/-
  The closed sentence SeatNames: the constants of package api that its chapter speaks of have the numbers that stand there; the call returns true. No conditions.
-/
import Derived.Test.YtengiiefkidkbaaPSeatNamesx1
namespace Go.Proofs.Ytengiiefkidkbaa.Pure
open Go.RowKit Go.Proofs.Ytengiiefkidkbaa.PSeatNames Go.Proofs.YtengiiefkidkbaaW.PrintWords Go.Proofs.YtengiiefkidkbaaW.PrintLast

theorem SeatNames : annalslaw18_SeatNames.Pure := rfl

end Go.Proofs.Ytengiiefkidkbaa.Pure
