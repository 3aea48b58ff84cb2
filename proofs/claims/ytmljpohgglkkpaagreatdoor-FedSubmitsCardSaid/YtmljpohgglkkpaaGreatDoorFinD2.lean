/-
  FedSubmits: what is looked at in the end, behind 17 to 19 applications (one down): by the kernel.
-/
import Derived.Test.YtmljpohgglkkpaaGreatDoorLitsD
set_option linter.all false
namespace Go.Proofs.YtmljpohgglkkpaaGreatDoor.FS
open Go.Abs
set_option maxRecDepth 1000000
theorem fiD17 : runEnd ev 91 fin LD17 [(0, i 17)] 4 (.bool true) = some true := by kernel_rfl
theorem fiD18 : runEnd ev 91 fin LD18 [(0, i 18)] 4 (.bool true) = some true := by kernel_rfl
theorem fiD19 : runEnd ev 91 fin LD19 [(0, i 19)] 4 (.bool true) = some true := by kernel_rfl
end Go.Proofs.YtmljpohgglkkpaaGreatDoor.FS
