/-
  FedSubmits: what is looked at in the end, behind 14 to 16 applications (all up): by the kernel.
-/
import Derived.Test.YtmljpohgglkkpaaGreatDoorLitsU
set_option linter.all false
namespace Go.Proofs.YtmljpohgglkkpaaGreatDoor.FS
open Go.Abs
set_option maxRecDepth 1000000
theorem fiU14 : runEnd ev 91 fin LU14 [(0, i 14)] 4 (.bool true) = some true := by kernel_rfl
theorem fiU15 : runEnd ev 91 fin LU15 [(0, i 15)] 4 (.bool true) = some true := by kernel_rfl
theorem fiU16 : runEnd ev 91 fin LU16 [(0, i 16)] 4 (.bool true) = some true := by kernel_rfl
end Go.Proofs.YtmljpohgglkkpaaGreatDoor.FS
