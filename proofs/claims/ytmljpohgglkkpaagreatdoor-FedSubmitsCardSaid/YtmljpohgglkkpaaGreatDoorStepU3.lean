/-
  FedSubmits: applications 14 to 15 are handed in (all up): by the kernel.
-/
import Derived.Test.YtmljpohgglkkpaaGreatDoorLitsU
set_option linter.all false
namespace Go.Proofs.YtmljpohgglkkpaaGreatDoor.FS
open Go.Abs
set_option maxRecDepth 1000000
theorem stU14 (mI : Int) : runLit ev 91 b1 LU14 [(0, i mI)] LU15 [0] = some (true, List.replicate 6 [some (i mI)]) := by kernel_rfl
theorem stU15 (mI : Int) : runLit ev 91 b1 LU15 [(0, i mI)] LU16 [0] = some (true, List.replicate 6 [some (i mI)]) := by kernel_rfl
end Go.Proofs.YtmljpohgglkkpaaGreatDoor.FS
