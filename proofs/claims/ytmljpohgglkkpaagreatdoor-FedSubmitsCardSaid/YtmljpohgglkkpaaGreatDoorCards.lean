/-
  DERIVED. GIVEN WITH THE SEED: THE CARDS: each row of YtmljpohgglkkpaaGreatDoorRows.lean that lists a variable, with what it lists TIED to the program's text (the seventh form; the later family's looks); each row that meets fmt, with fmt's text TOLD by the authors' own Lean function (tested against real Go, not proved from fmt's source: count such statements apart). THE CARD IS WHAT COUNTS. Prove the row's statement (the work); the ties are given (YtmljpohgglkkpaaGreatDoorTie.lean); close each card by the builder's one call (the guide's Derived/Test/ToyasCard.lean, 'card_holds'). Laid BY PROGRAM, IN A SANDBOX (cutbox-door.mjs). By AI agents, Wed Nov 11 2026. No macro, syntax, notation, axiom, sorry.
-/
import Derived.Test.YtmljpohgglkkpaaGreatDoorRows
import GoSem.ClaimSeven
namespace Go.Proofs.YtmljpohgglkkpaaGreatDoor
namespace Rows

/-- THE TIED CARD OF 'dispatchlaw22.FedSubmits'. -/
def fedSubmitsCard : Claim7 := { stood := { row := fedSubmitsRow, standIns := [], harness := (true, "4bc98f708321eb3e15877e7ec0a6f885701ca58f2fb7becbdb2c16626874c878"), looks := true }, kinds := [], alts := [], laidByText := true, laidKinds := [.data, .data, .data, .data, .sentinel, .sentinel, .pinned], laidTests := true, laidLooks := .later }
def FedSubmitsCardSaid : Prop := Claim7.holds Tryz.pinned (.plain (OpenSpec.ofChange fedSubmitsSpec)) fedSubmitsCard

/-- THE SECOND FORM's CARD OF 'dispatchlaw22.FedSubmits'. -/
def fedSubmitsUptoCard : Claim7 := { stood := { row := fedSubmitsUptoRow, standIns := [], harness := (true, "4bc98f708321eb3e15877e7ec0a6f885701ca58f2fb7becbdb2c16626874c878"), looks := true }, kinds := [], alts := [], laidByText := true, laidKinds := [.data, .data, .data, .data, .sentinel, .sentinel, .pinned], laidTests := true, laidLooks := .later }
def FedSubmitsUptoCardSaid : Prop := Claim7.holds Tryz.pinned (.plain (OpenSpec.upto fedSubmitsSpec)) fedSubmitsUptoCard
end Rows
end Go.Proofs.YtmljpohgglkkpaaGreatDoor
