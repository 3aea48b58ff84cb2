/-
  FedSubmits: applications 14 to 18 are handed in (one down): by the kernel.
-/
import Derived.Test.YtmljpohgglkkpaaGreatDoorLitsD
set_option linter.all false
namespace Go.Proofs.YtmljpohgglkkpaaGreatDoor.FS
open Go.Abs
set_option maxRecDepth 1000000
theorem stD14 (mI : Int) : runLit ev 91 b1 LD14 [(0, i mI)] LD15 [0] = some (true, List.replicate 2 [some (i mI)]) := by kernel_rfl
theorem stD15 (mI : Int) : runLit ev 91 b1 LD15 [(0, i mI)] LD16 [0] = some (true, List.replicate 2 [some (i mI)]) := by kernel_rfl
theorem stD16 (mI : Int) : runLit ev 91 b1 LD16 [(0, i mI)] LD17 [0] = some (true, List.replicate 1 [some (i mI)]) := by kernel_rfl
theorem stD17 (mI : Int) : runLit ev 91 b1 LD17 [(0, i mI)] LD18 [0] = some (true, List.replicate 1 [some (i mI)]) := by kernel_rfl
theorem stD18 (mI : Int) : runLit ev 91 b1 LD18 [(0, i mI)] LD19 [0] = some (true, List.replicate 1 [some (i mI)]) := by kernel_rfl
end Go.Proofs.YtmljpohgglkkpaaGreatDoor.FS
