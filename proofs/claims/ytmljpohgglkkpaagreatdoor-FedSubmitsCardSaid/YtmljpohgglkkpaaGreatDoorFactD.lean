/-
  FedSubmits: closed facts of its row.
-/
import Derived.Test.YtmljpohgglkkpaaGreatDoorRows
import Derived.Test.YtmljpohgglkkpaaGreatDoorCards
import Derived.Test.YtmljpohgglkkpaaGreatDoorFactA
import Derived.Test.YtmljpohgglkkpaaGreatDoorFactB
import Derived.Test.YtmljpohgglkkpaaGreatDoorFactC
import Derived.JoinedOf
import Derived.SevenTiedAt
set_option linter.all false
namespace Go.Proofs.YtmljpohgglkkpaaGreatDoor
open Go
set_option maxRecDepth 100000
theorem joined : joinedFacts Tryz.prog 3 Tryz.f3 Rows.fedSubmitsSpec Rows.fedSubmitsRow = true := by
  unfold joinedFacts
  rw [f02, f03, f10, f11, f12, f13]
  kernel_rfl
end Go.Proofs.YtmljpohgglkkpaaGreatDoor
