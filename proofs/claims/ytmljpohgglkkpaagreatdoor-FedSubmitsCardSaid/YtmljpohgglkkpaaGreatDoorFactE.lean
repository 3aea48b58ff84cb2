/-
  FedSubmits: closed facts of its row.
-/
import Derived.Test.YtmljpohgglkkpaaGreatDoorRows
import Derived.Test.YtmljpohgglkkpaaGreatDoorCards
import Derived.JoinedOf
import Derived.SevenTiedAt
set_option linter.all false
namespace Go.Proofs.YtmljpohgglkkpaaGreatDoor
open Go
set_option maxRecDepth 100000
theorem named_at : Tryz.prog.funcNamed "dispatch/dispatchlaw22.FedSubmits" = some 3 := by kernel_rfl
theorem wrap : Tryz.f3.isWrapper Tryz.prog Rows.fedSubmitsRow.wrapper Rows.fedSubmitsRow.mainSum := by
  unfold Func.isWrapper
  first | (rw [if_pos (by decide +kernel)]; kernel_rfl) | (rw [if_neg (by decide +kernel)]; exact ⟨rfl, rfl⟩)
theorem inst : Tryz.f3.isInstance Tryz.prog Rows.fedSubmitsRow.origin Rows.fedSubmitsRow.targs := of_decide_eq_true (by kernel_rfl)
theorem wf_at : Rows.fedSubmitsRow.wfByText (OpenSpec.ofChange Rows.fedSubmitsSpec) = true := by kernel_rfl
theorem goes_at : false = Rows.fedSubmitsRow.goesBy Tryz.prog := by kernel_rfl
theorem looks_at : true = Tryz.prog.looks [] := by kernel_rfl
theorem main_at : Tryz.prog.mainIs = some (true, "4bc98f708321eb3e15877e7ec0a6f885701ca58f2fb7becbdb2c16626874c878".toList) := by kernel_rfl
theorem stand3 : Tryz.prog.wantsStandIn 3 = false := by kernel_rfl
theorem stand4 : Tryz.prog.wantsStandIn 4 = false := by kernel_rfl

end Go.Proofs.YtmljpohgglkkpaaGreatDoor
