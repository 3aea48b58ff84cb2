/-
  DERIVED. GIVEN WITH THE SEED: THE CARDS: each row of YtaliknnfbjehhaaDoorRows.lean that lists a variable, with what it lists TIED to the program's text (the seventh form; the later family's looks); each row that meets fmt, with fmt's text TOLD by the authors' own Lean function (tested against real Go, not proved from fmt's source: count such statements apart). THE CARD IS WHAT COUNTS. Prove the row's statement (the work); the ties are given (YtaliknnfbjehhaaDoorTie.lean); close each card by the builder's one call (the guide's Derived/Test/ToyasCard.lean, 'card_holds'). Laid BY PROGRAM, IN A SANDBOX (cutbox-door.mjs). By AI agents, Wed Nov 11 2026. No macro, syntax, notation, axiom, sorry.
-/
import Derived.Test.YtaliknnfbjehhaaDoorRows
import GoSem.ClaimSeven
namespace Go.Proofs.YtaliknnfbjehhaaDoor
namespace Rows

/-- THE TIED CARD OF 'dispatchlaw5.ConfSames'. -/
def confSamesCard : Claim7 := { stood := { row := confSamesRow, standIns := [], harness := (true, "bd45e907462b6828983af644a5aea92dbe7bd1f42956ccc3516e60ad12238fe7"), looks := true }, kinds := [], alts := [], laidByText := true, laidKinds := [.data, .data, .data, .data, .sentinel, .sentinel, .pinned], laidTests := true, laidLooks := .later }
def ConfSamesCardSaid : Prop := Claim7.holds Tryd.pinned (.plain (OpenSpec.ofChange confSamesSpec)) confSamesCard

/-- THE SECOND FORM's CARD OF 'dispatchlaw5.ConfSames'. -/
def confSamesUptoCard : Claim7 := { stood := { row := confSamesUptoRow, standIns := [], harness := (true, "bd45e907462b6828983af644a5aea92dbe7bd1f42956ccc3516e60ad12238fe7"), looks := true }, kinds := [], alts := [], laidByText := true, laidKinds := [.data, .data, .data, .data, .sentinel, .sentinel, .pinned], laidTests := true, laidLooks := .later }
def ConfSamesUptoCardSaid : Prop := Claim7.holds Tryd.pinned (.plain (OpenSpec.upto confSamesSpec)) confSamesUptoCard
end Rows
end Go.Proofs.YtaliknnfbjehhaaDoor
