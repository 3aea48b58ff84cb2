/-
  FedSubmits: the parts of its code; short words for values.
-/
import Derived.Test.YtmljpohgglkkpaaGreatDoorProg
import Derived.Test.YtmljpohgglkkpaaGreatDoorAbsGo
import Derived.KernelRfl
set_option linter.all false
namespace Go.Proofs.YtmljpohgglkkpaaGreatDoor.FS
open Go.Abs
def z : V := .int .i64 0
def i (n : Int) : V := .int .i64 n
def s (l : List UInt8) : V := .str l
def T : V := .bool true
def F : V := .bool false
def pn : V := .ptr none
def p (a b : Nat) : V := .ptr (some (a, b))
def sn : V := .slice none 0 0
def sl (a b n c : Nat) : V := .slice (some (a, b)) n c
def os (b o n e : Nat) : V := .oslice b o n e
def mn : V := .map none
def m (r : Nat) : V := .map (some r)
noncomputable def body : Code := match Tryz.f3.body with | some c => c | none => .skip
noncomputable def r1if : Code := c1 (c2 body)
noncomputable def r3 : Code := c1 (c2 (c2 body))
noncomputable def r4 : Code := c1 (c2 (c2 (c2 body)))
noncomputable def r5on : Code := c2 (c2 (c2 (c2 body)))
noncomputable def r5 : Code := c1 r5on
noncomputable def lp : Code := c1 (c2 r5on)
noncomputable def r6 : Code := c1 lp
noncomputable def r7 : Code := c1 (c1 (c1 (c1 (c2 lp))))
noncomputable def b1 : Code := c2 (c1 (c1 (c2 lp)))
noncomputable def fin : Code := c2 (c2 r5on)
/-- The evaluator. -/
noncomputable def ev : Nat → Code → Env → Heap → Option (List Res) := execA Tryz.prog 4000
end Go.Proofs.YtmljpohgglkkpaaGreatDoor.FS
