/-
  FedSubmits: what is looked at in the end, behind 0 to 11 applications (one down): by the kernel.
-/
import Derived.Test.YtmljpohgglkkpaaGreatDoorLitsD
set_option linter.all false
namespace Go.Proofs.YtmljpohgglkkpaaGreatDoor.FS
open Go.Abs
set_option maxRecDepth 1000000
theorem fiD0 : runEnd ev 91 fin LD0 [(0, i 0)] 4 (.bool true) = some true := by kernel_rfl
theorem fiD1 : runEnd ev 91 fin LD1 [(0, i 1)] 4 (.bool true) = some true := by kernel_rfl
theorem fiD2 : runEnd ev 91 fin LD2 [(0, i 2)] 4 (.bool true) = some true := by kernel_rfl
theorem fiD3 : runEnd ev 91 fin LD3 [(0, i 3)] 4 (.bool true) = some true := by kernel_rfl
theorem fiD4 : runEnd ev 91 fin LD4 [(0, i 4)] 4 (.bool true) = some true := by kernel_rfl
theorem fiD5 : runEnd ev 91 fin LD5 [(0, i 5)] 4 (.bool true) = some true := by kernel_rfl
theorem fiD6 : runEnd ev 91 fin LD6 [(0, i 6)] 4 (.bool true) = some true := by kernel_rfl
theorem fiD7 : runEnd ev 91 fin LD7 [(0, i 7)] 4 (.bool true) = some true := by kernel_rfl
theorem fiD8 : runEnd ev 91 fin LD8 [(0, i 8)] 4 (.bool true) = some true := by kernel_rfl
theorem fiD9 : runEnd ev 91 fin LD9 [(0, i 9)] 4 (.bool true) = some true := by kernel_rfl
theorem fiD10 : runEnd ev 91 fin LD10 [(0, i 10)] 4 (.bool true) = some true := by kernel_rfl
theorem fiD11 : runEnd ev 91 fin LD11 [(0, i 11)] 4 (.bool true) = some true := by kernel_rfl
end Go.Proofs.YtmljpohgglkkpaaGreatDoor.FS
