/-
  FedSubmits: applications 7 to 10 are handed in (all up): by the kernel.
-/
import Derived.Test.YtmljpohgglkkpaaGreatDoorLitsU
set_option linter.all false
namespace Go.Proofs.YtmljpohgglkkpaaGreatDoor.FS
open Go.Abs
set_option maxRecDepth 1000000
theorem stU7 (mI : Int) : runLit ev 91 b1 LU7 [(0, i mI)] LU8 [0] = some (true, List.replicate 6 [some (i mI)]) := by kernel_rfl
theorem stU8 (mI : Int) : runLit ev 91 b1 LU8 [(0, i mI)] LU9 [0] = some (true, List.replicate 6 [some (i mI)]) := by kernel_rfl
theorem stU9 (mI : Int) : runLit ev 91 b1 LU9 [(0, i mI)] LU10 [0] = some (true, List.replicate 6 [some (i mI)]) := by kernel_rfl
theorem stU10 (mI : Int) : runLit ev 91 b1 LU10 [(0, i mI)] LU11 [0] = some (true, List.replicate 6 [some (i mI)]) := by kernel_rfl
end Go.Proofs.YtmljpohgglkkpaaGreatDoor.FS
