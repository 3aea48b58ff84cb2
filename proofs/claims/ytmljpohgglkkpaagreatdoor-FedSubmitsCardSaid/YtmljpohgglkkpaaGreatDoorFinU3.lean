/-
  FedSubmits: what is looked at in the end, behind 17 to 19 applications (all up): by the kernel.
-/
import Derived.Test.YtmljpohgglkkpaaGreatDoorLitsU
set_option linter.all false
namespace Go.Proofs.YtmljpohgglkkpaaGreatDoor.FS
open Go.Abs
set_option maxRecDepth 1000000
theorem fiU17 : runEnd ev 91 fin LU17 [(0, i 17)] 4 (.bool true) = some true := by kernel_rfl
theorem fiU18 : runEnd ev 91 fin LU18 [(0, i 18)] 4 (.bool true) = some true := by kernel_rfl
theorem fiU19 : runEnd ev 91 fin LU19 [(0, i 19)] 4 (.bool true) = some true := by kernel_rfl
end Go.Proofs.YtmljpohgglkkpaaGreatDoor.FS
