/-
  FedSubmits: closed facts of its row.
-/
import Derived.Test.YtmljpohgglkkpaaGreatDoorRows
import Derived.Test.YtmljpohgglkkpaaGreatDoorCards
import Derived.JoinedOf
import Derived.SevenTiedAt
set_option linter.all false
namespace Go.Proofs.YtmljpohgglkkpaaGreatDoor
open Go
set_option maxRecDepth 100000
theorem f02 : laidOutB Tryz.prog = true := by kernel_rfl
theorem f03 : mapsRowed Tryz.prog = true := by kernel_rfl
theorem f10 : (Rows.fedSubmitsRow.inPlace == Tryz.prog.inPlace 3) = true := by kernel_rfl
end Go.Proofs.YtmljpohgglkkpaaGreatDoor
