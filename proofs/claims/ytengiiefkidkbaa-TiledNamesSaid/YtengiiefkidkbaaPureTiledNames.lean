/-
  The closed sentence TiledNames: the constants of package api that its chapter speaks of have the numbers that stand there; the call returns true. No conditions.
-/
import Derived.Test.YtengiiefkidkbaaPTiledNamesx1
namespace Go.Proofs.Ytengiiefkidkbaa.Pure
open Go.RowKit Go.Proofs.Ytengiiefkidkbaa.PTiledNames Go.Proofs.YtengiiefkidkbaaW.PrintWords Go.Proofs.YtengiiefkidkbaaW.PrintLast

theorem TiledNames : annalslaw16_TiledNames.Pure := rfl

end Go.Proofs.Ytengiiefkidkbaa.Pure
