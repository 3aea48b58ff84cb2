/-
  FedSubmits: applications 0 to 9 are handed in (one down): by the kernel.
-/
import Derived.Test.YtmljpohgglkkpaaGreatDoorLitsD
set_option linter.all false
namespace Go.Proofs.YtmljpohgglkkpaaGreatDoor.FS
open Go.Abs
set_option maxRecDepth 1000000
theorem stD0 (mI : Int) : runLit ev 91 b1 LD0 [(0, i mI)] LD1 [0] = some (true, List.replicate 2 [some (i mI)]) := by kernel_rfl
theorem stD1 (mI : Int) : runLit ev 91 b1 LD1 [(0, i mI)] LD2 [0] = some (true, List.replicate 2 [some (i mI)]) := by kernel_rfl
theorem stD2 (mI : Int) : runLit ev 91 b1 LD2 [(0, i mI)] LD3 [0] = some (true, List.replicate 2 [some (i mI)]) := by kernel_rfl
theorem stD3 (mI : Int) : runLit ev 91 b1 LD3 [(0, i mI)] LD4 [0] = some (true, List.replicate 2 [some (i mI)]) := by kernel_rfl
theorem stD4 (mI : Int) : runLit ev 91 b1 LD4 [(0, i mI)] LD5 [0] = some (true, List.replicate 2 [some (i mI)]) := by kernel_rfl
theorem stD5 (mI : Int) : runLit ev 91 b1 LD5 [(0, i mI)] LD6 [0] = some (true, List.replicate 2 [some (i mI)]) := by kernel_rfl
theorem stD6 (mI : Int) : runLit ev 91 b1 LD6 [(0, i mI)] LD7 [0] = some (true, List.replicate 2 [some (i mI)]) := by kernel_rfl
theorem stD7 (mI : Int) : runLit ev 91 b1 LD7 [(0, i mI)] LD8 [0] = some (true, List.replicate 2 [some (i mI)]) := by kernel_rfl
theorem stD8 (mI : Int) : runLit ev 91 b1 LD8 [(0, i mI)] LD9 [0] = some (true, List.replicate 2 [some (i mI)]) := by kernel_rfl
theorem stD9 (mI : Int) : runLit ev 91 b1 LD9 [(0, i mI)] LD10 [0] = some (true, List.replicate 2 [some (i mI)]) := by kernel_rfl
end Go.Proofs.YtmljpohgglkkpaaGreatDoor.FS
