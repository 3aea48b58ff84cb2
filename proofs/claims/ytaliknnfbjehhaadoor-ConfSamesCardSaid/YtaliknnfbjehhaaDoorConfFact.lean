/-
  ConfSames: closed facts of its row.
-/
import Derived.Test.YtaliknnfbjehhaaDoorRows
import Derived.Test.YtaliknnfbjehhaaDoorCards
import Derived.JoinedOf
import Derived.SevenTiedAt
set_option linter.all false
namespace Go.Proofs.YtaliknnfbjehhaaDoor
open Go
set_option maxRecDepth 100000
theorem f02 : laidOutB Tryd.prog = true := by kernel_rfl
theorem f03 : mapsRowed Tryd.prog = true := by kernel_rfl
theorem f10 : (Rows.confSamesRow.inPlace == Tryd.prog.inPlace 3) = true := by kernel_rfl
theorem f11 : (Rows.confSamesRow.unfollowed == Tryd.prog.unfollowed 3) = true := by kernel_rfl
theorem f12 : (Rows.confSamesRow.recurses == Tryd.prog.recurses 3) = true := by kernel_rfl
theorem f13 : (Rows.confSamesRow.named == Tryd.prog.varsNamed 3) = true := by kernel_rfl
theorem joined : joinedFacts Tryd.prog 3 Tryd.f3 Rows.confSamesSpec Rows.confSamesRow = true := by
  unfold joinedFacts
  rw [f02, f03, f10, f11, f12, f13]
  kernel_rfl
theorem named_at : Tryd.prog.funcNamed "dispatch/dispatchlaw5.ConfSames" = some 3 := by kernel_rfl
theorem wrap : Tryd.f3.isWrapper Tryd.prog Rows.confSamesRow.wrapper Rows.confSamesRow.mainSum := by
  unfold Func.isWrapper
  first | (rw [if_pos (by decide +kernel)]; kernel_rfl) | (rw [if_neg (by decide +kernel)]; exact ⟨rfl, rfl⟩)
theorem inst : Tryd.f3.isInstance Tryd.prog Rows.confSamesRow.origin Rows.confSamesRow.targs := of_decide_eq_true (by kernel_rfl)
theorem wf_at : Rows.confSamesRow.wfByText (OpenSpec.ofChange Rows.confSamesSpec) = true := by kernel_rfl
theorem goes_at : false = Rows.confSamesRow.goesBy Tryd.prog := by kernel_rfl
theorem looks_at : true = Tryd.prog.looks [] := by kernel_rfl
theorem main_at : Tryd.prog.mainIs = some (true, "bd45e907462b6828983af644a5aea92dbe7bd1f42956ccc3516e60ad12238fe7".toList) := by kernel_rfl
theorem stand3 : Tryd.prog.wantsStandIn 3 = false := by kernel_rfl
theorem stand24 : Tryd.prog.wantsStandIn 24 = false := by kernel_rfl

end Go.Proofs.YtaliknnfbjehhaaDoor
