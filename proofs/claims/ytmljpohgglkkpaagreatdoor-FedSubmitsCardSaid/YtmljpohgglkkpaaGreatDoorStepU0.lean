/-
  FedSubmits: applications 0 to 6 are handed in (all up): by the kernel.
-/
import Derived.Test.YtmljpohgglkkpaaGreatDoorLitsU
set_option linter.all false
namespace Go.Proofs.YtmljpohgglkkpaaGreatDoor.FS
open Go.Abs
set_option maxRecDepth 1000000
theorem stU0 (mI : Int) : runLit ev 91 b1 LU0 [(0, i mI)] LU1 [0] = some (true, List.replicate 6 [some (i mI)]) := by kernel_rfl
theorem stU1 (mI : Int) : runLit ev 91 b1 LU1 [(0, i mI)] LU2 [0] = some (true, List.replicate 6 [some (i mI)]) := by kernel_rfl
theorem stU2 (mI : Int) : runLit ev 91 b1 LU2 [(0, i mI)] LU3 [0] = some (true, List.replicate 6 [some (i mI)]) := by kernel_rfl
theorem stU3 (mI : Int) : runLit ev 91 b1 LU3 [(0, i mI)] LU4 [0] = some (true, List.replicate 6 [some (i mI)]) := by kernel_rfl
theorem stU4 (mI : Int) : runLit ev 91 b1 LU4 [(0, i mI)] LU5 [0] = some (true, List.replicate 6 [some (i mI)]) := by kernel_rfl
theorem stU5 (mI : Int) : runLit ev 91 b1 LU5 [(0, i mI)] LU6 [0] = some (true, List.replicate 6 [some (i mI)]) := by kernel_rfl
theorem stU6 (mI : Int) : runLit ev 91 b1 LU6 [(0, i mI)] LU7 [0] = some (true, List.replicate 6 [some (i mI)]) := by kernel_rfl
end Go.Proofs.YtmljpohgglkkpaaGreatDoor.FS
