/-
  FedSubmits: applications 16 to 18 are handed in (all up): by the kernel.
-/
import Derived.Test.YtmljpohgglkkpaaGreatDoorLitsU
set_option linter.all false
namespace Go.Proofs.YtmljpohgglkkpaaGreatDoor.FS
open Go.Abs
set_option maxRecDepth 1000000
theorem stU16 (mI : Int) : runLit ev 91 b1 LU16 [(0, i mI)] LU17 [0] = some (true, List.replicate 1 [some (i mI)]) := by kernel_rfl
theorem stU17 (mI : Int) : runLit ev 91 b1 LU17 [(0, i mI)] LU18 [0] = some (true, List.replicate 1 [some (i mI)]) := by kernel_rfl
theorem stU18 (mI : Int) : runLit ev 91 b1 LU18 [(0, i mI)] LU19 [0] = some (true, List.replicate 1 [some (i mI)]) := by kernel_rfl
end Go.Proofs.YtmljpohgglkkpaaGreatDoor.FS
