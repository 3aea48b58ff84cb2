/-
  FedSubmits: what is looked at in the end, behind 12 to 16 applications (one down): by the kernel.
-/
import Derived.Test.YtmljpohgglkkpaaGreatDoorLitsD
set_option linter.all false
namespace Go.Proofs.YtmljpohgglkkpaaGreatDoor.FS
open Go.Abs
set_option maxRecDepth 1000000
theorem fiD12 : runEnd ev 91 fin LD12 [(0, i 12)] 4 (.bool true) = some true := by kernel_rfl
theorem fiD13 : runEnd ev 91 fin LD13 [(0, i 13)] 4 (.bool true) = some true := by kernel_rfl
theorem fiD14 : runEnd ev 91 fin LD14 [(0, i 14)] 4 (.bool true) = some true := by kernel_rfl
theorem fiD15 : runEnd ev 91 fin LD15 [(0, i 15)] 4 (.bool true) = some true := by kernel_rfl
theorem fiD16 : runEnd ev 91 fin LD16 [(0, i 16)] 4 (.bool true) = some true := by kernel_rfl
end Go.Proofs.YtmljpohgglkkpaaGreatDoor.FS
