/-
  FedSubmits: what is looked at in the end, behind 10 to 13 applications (all up): by the kernel.
-/
import Derived.Test.YtmljpohgglkkpaaGreatDoorLitsU
set_option linter.all false
namespace Go.Proofs.YtmljpohgglkkpaaGreatDoor.FS
open Go.Abs
set_option maxRecDepth 1000000
theorem fiU10 : runEnd ev 91 fin LU10 [(0, i 10)] 4 (.bool true) = some true := by kernel_rfl
theorem fiU11 : runEnd ev 91 fin LU11 [(0, i 11)] 4 (.bool true) = some true := by kernel_rfl
theorem fiU12 : runEnd ev 91 fin LU12 [(0, i 12)] 4 (.bool true) = some true := by kernel_rfl
theorem fiU13 : runEnd ev 91 fin LU13 [(0, i 13)] 4 (.bool true) = some true := by kernel_rfl
end Go.Proofs.YtmljpohgglkkpaaGreatDoor.FS
