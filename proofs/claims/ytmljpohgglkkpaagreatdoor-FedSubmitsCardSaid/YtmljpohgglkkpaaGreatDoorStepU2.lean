/-
  FedSubmits: applications 11 to 13 are handed in (all up): by the kernel.
-/
import Derived.Test.YtmljpohgglkkpaaGreatDoorLitsU
set_option linter.all false
namespace Go.Proofs.YtmljpohgglkkpaaGreatDoor.FS
open Go.Abs
set_option maxRecDepth 1000000
theorem stU11 (mI : Int) : runLit ev 91 b1 LU11 [(0, i mI)] LU12 [0] = some (true, List.replicate 6 [some (i mI)]) := by kernel_rfl
theorem stU12 (mI : Int) : runLit ev 91 b1 LU12 [(0, i mI)] LU13 [0] = some (true, List.replicate 6 [some (i mI)]) := by kernel_rfl
theorem stU13 (mI : Int) : runLit ev 91 b1 LU13 [(0, i mI)] LU14 [0] = some (true, List.replicate 6 [some (i mI)]) := by kernel_rfl
end Go.Proofs.YtmljpohgglkkpaaGreatDoor.FS
