/-
  FedSubmits: applications 10 to 13 are handed in (one down): by the kernel.
-/
import Derived.Test.YtmljpohgglkkpaaGreatDoorLitsD
set_option linter.all false
namespace Go.Proofs.YtmljpohgglkkpaaGreatDoor.FS
open Go.Abs
set_option maxRecDepth 1000000
theorem stD10 (mI : Int) : runLit ev 91 b1 LD10 [(0, i mI)] LD11 [0] = some (true, List.replicate 2 [some (i mI)]) := by kernel_rfl
theorem stD11 (mI : Int) : runLit ev 91 b1 LD11 [(0, i mI)] LD12 [0] = some (true, List.replicate 2 [some (i mI)]) := by kernel_rfl
theorem stD12 (mI : Int) : runLit ev 91 b1 LD12 [(0, i mI)] LD13 [0] = some (true, List.replicate 2 [some (i mI)]) := by kernel_rfl
theorem stD13 (mI : Int) : runLit ev 91 b1 LD13 [(0, i mI)] LD14 [0] = some (true, List.replicate 2 [some (i mI)]) := by kernel_rfl
end Go.Proofs.YtmljpohgglkkpaaGreatDoor.FS
