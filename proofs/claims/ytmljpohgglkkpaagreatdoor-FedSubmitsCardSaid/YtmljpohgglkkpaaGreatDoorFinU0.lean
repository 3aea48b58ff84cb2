/-
  FedSubmits: what is looked at in the end, behind 0 to 9 applications (all up): by the kernel.
-/
import Derived.Test.YtmljpohgglkkpaaGreatDoorLitsU
set_option linter.all false
namespace Go.Proofs.YtmljpohgglkkpaaGreatDoor.FS
open Go.Abs
set_option maxRecDepth 1000000
theorem fiU0 : runEnd ev 91 fin LU0 [(0, i 0)] 4 (.bool true) = some true := by kernel_rfl
theorem fiU1 : runEnd ev 91 fin LU1 [(0, i 1)] 4 (.bool true) = some true := by kernel_rfl
theorem fiU2 : runEnd ev 91 fin LU2 [(0, i 2)] 4 (.bool true) = some true := by kernel_rfl
theorem fiU3 : runEnd ev 91 fin LU3 [(0, i 3)] 4 (.bool true) = some true := by kernel_rfl
theorem fiU4 : runEnd ev 91 fin LU4 [(0, i 4)] 4 (.bool true) = some true := by kernel_rfl
theorem fiU5 : runEnd ev 91 fin LU5 [(0, i 5)] 4 (.bool true) = some true := by kernel_rfl
theorem fiU6 : runEnd ev 91 fin LU6 [(0, i 6)] 4 (.bool true) = some true := by kernel_rfl
theorem fiU7 : runEnd ev 91 fin LU7 [(0, i 7)] 4 (.bool true) = some true := by kernel_rfl
theorem fiU8 : runEnd ev 91 fin LU8 [(0, i 8)] 4 (.bool true) = some true := by kernel_rfl
theorem fiU9 : runEnd ev 91 fin LU9 [(0, i 9)] 4 (.bool true) = some true := by kernel_rfl
end Go.Proofs.YtmljpohgglkkpaaGreatDoor.FS
