/-
  An evaluator without a tape: each operation that leaves calls aside.
-/
import Derived.Test.YtaliknnfbjehhaaDoorAbsDefs
set_option linter.all false
namespace Go.Abs

section
variable (P : Program)

noncomputable def sizeA (t : TypeId) : Option Nat :=
  match P.info? t with
  | some i => some i.size
  | none => none

noncomputable def bytesA (t : TypeId) : Option Nat :=
  match P.info? t with
  | some i => some i.bytes
  | none => none

noncomputable def zeroA (t : TypeId) : Option V :=
  match P.info? t with
  | some i => match i.zero with
    | some v => ofValue v
    | none => none
  | none => none

noncomputable def isAggA (t : TypeId) : Option Bool :=
  match P.underlying t with
  | some (.struct _) => some true
  | some (.array _ _) => some true
  | some _ => some false
  | none => none

noncomputable def elemA (t : TypeId) : Option TypeId :=
  match P.underlying t with
  | some (.slice e) => some e
  | _ => none

noncomputable def loadA (h : Heap) (t : TypeId) : V → Option V
  | .ptr (some a) => match isAggA P t, sizeA P t with
    | some true, some n => match h.load a n with
      | some cs => some (.agg cs)
      | none => none
    | some false, some _ => match h.load a 1 with
      | some [v] => some v
      | _ => none
    | _, _ => none
  | _ => none

noncomputable def storeA (h : Heap) (t : TypeId) (a v : V) : Option Heap :=
  match a, sizeA P t with
  | .ptr (some a), some n => match Nat.beq (lenL v.cells) n with
    | true => h.store a v.cells
    | false => none
  | _, _ => none

/-- A new variable. -/
noncomputable def newA (h : Heap) (v : V) : Option (V × Heap) :=
  match allCells v.cells with
  | true => match h.new (.row false v.cells) with
    | (b, h') => some (.ptr (some (b, 0)), h')
  | false => none

noncomputable def fillA (place : Nat → Option (Nat × Nat)) (cells : List V) : List (Nat × V) → Option (List V)
  | [] => some cells
  | (i, v) :: rest => match place i with
    | none => none
    | some (off, size) => match Nat.beq (lenL v.cells) size, Nat.ble (off + (lenL v.cells)) (lenL cells) with
      | true, true => fillA place (splice cells off v.cells) rest
      | _, _ => none

noncomputable def placesA : List Field → Option (List (Nat × Nat))
  | [] => some []
  | f :: fs => match sizeA P f.type, placesA fs with
    | some n, some ps => some ((f.offset, n) :: ps)
    | _, _ => none

noncomputable def buildA (t : TypeId) (parts : List (Nat × V)) : Option V :=
  match zeroA P t, P.underlying t with
  | some z, some (.struct fields) => match placesA P fields.toList with
    | some ps => match fillA (fun i => ps[i]?) z.cells parts with
      | some cs => some (.agg cs)
      | none => none
    | none => none
  | some z, some (.array _ elem) => match sizeA P elem with
    | some n => match fillA (fun i => some (i * n, n)) z.cells parts with
      | some cs => some (.agg cs)
      | none => none
    | none => none
  | _, _ => none

/-- n copies of a row of cells. -/
noncomputable def timesA (z : List V) : Nat → List V
  | 0 => []
  | n + 1 => app z (timesA z n)

/-- The zero cells of n elements. -/
noncomputable def zerosA (elem n size : Nat) : Option (List V) :=
  match Nat.beq (n * size) 0 with
  | true => some []
  | false => match zeroA P elem with
    | some z => match Nat.beq (lenL z.cells) size with
      | true => some (timesA z.cells n)
      | false => none
    | none => none

noncomputable def buildSliceA (h : Heap) (t : TypeId) (len : Nat) (parts : List (Nat × V)) : Option (V × Heap) :=
  match elemA P t with
  | some elem => match sizeA P elem with
    | some n => match Nat.ble (len * n) 16777216, zerosA P elem len n with
      | true, some z => match fillA (fun i => some (i * n, n)) z parts with
        | some cs => match allCells cs with
          | true => match h.new (.row false cs) with
            | (b, h') => some (.slice (some (b, 0)) len len, h')
          | false => none
        | none => none
      | _, _ => none
    | none => none
  | none => none

noncomputable def makeSliceA (h : Heap) (t : TypeId) (len cap : V) : Option (V × Heap) :=
  match elemA P t, len, cap with
  | some elem, .int _ l, .int _ c => match sizeA P elem, bytesA P elem, zeroA P elem with
    | some n, some bytes, some _ =>
      match !ltI l 0, !ltI c l, Nat.ble (c.toNat * (bytes + 1)) 1099511627776 with
      | true, true, true => match zerosA P elem c.toNat n with
        | some z => match allCells z with
          | true => match h.new (.row false z) with
            | (b, h') => some (.slice (some (b, 0)) l.toNat c.toNat, h')
          | false => none
        | none => none
      | _, _, _ => none
    | _, _, _ => none
  | _, _, _ => none

def addI (k : IntKind) (a b : Int) : Option V := some (.int k (wrapI k (Int.add a b)))
def subI (k : IntKind) (a b : Int) : Option V := some (.int k (wrapI k (Int.sub a b)))
def mulI (k : IntKind) (a b : Int) : Option V := some (.int k (wrapI k (Int.mul a b)))
def quoI (k : IntKind) (a b : Int) : Option V :=
  match eqI b 0 with
  | true => none
  | false => some (.int k (wrapI k (a.tdiv b)))
def remI (k : IntKind) (a b : Int) : Option V :=
  match eqI b 0 with
  | true => none
  | false => some (.int k (a.tmod b))
def andI (k : IntKind) (a b : Int) : Option V := some (.int k (k.wrap (BitVec.ofInt k.bits a &&& BitVec.ofInt k.bits b).toNat))
def orI (k : IntKind) (a b : Int) : Option V := some (.int k (k.wrap (BitVec.ofInt k.bits a ||| BitVec.ofInt k.bits b).toNat))
def xorI (k : IntKind) (a b : Int) : Option V := some (.int k (k.wrap (BitVec.ofInt k.bits a ^^^ BitVec.ofInt k.bits b).toNat))
def andNotI (k : IntKind) (a b : Int) : Option V := some (.int k (k.wrap (BitVec.ofInt k.bits a &&& ~~~(BitVec.ofInt k.bits b)).toNat))
def eqlI (_ : IntKind) (a b : Int) : Option V := some (.bool (eqI a b))
def neqI (_ : IntKind) (a b : Int) : Option V := some (.bool (!eqI a b))
def lssI (_ : IntKind) (a b : Int) : Option V := some (.bool (ltI a b))
def leqI (_ : IntKind) (a b : Int) : Option V := some (.bool (!ltI b a))
def gtrI (_ : IntKind) (a b : Int) : Option V := some (.bool (ltI b a))
def geqI (_ : IntKind) (a b : Int) : Option V := some (.bool (!ltI a b))
def noI (_ : IntKind) (_ _ : Int) : Option V := none

/-- Operators of two integers of one kind. -/
def intOpA (op : BinOp) : IntKind → Int → Int → Option V :=
  match op with
  | .add => addI | .sub => subI | .mul => mulI | .quo => quoI | .rem => remI | .and => andI | .or => orI | .xor => xorI | .andNot => andNotI
  | .eql => eqlI | .neq => neqI | .lss => lssI | .leq => leqI | .gtr => gtrI | .geq => geqI | _ => noI

def shlI (k : IntKind) (x y : Int) : Option V :=
  match ltI y 0 with
  | true => none
  | false => some (.int k (wrapI k (x * 2 ^ (min y.toNat k.bits))))
def shrI (k : IntKind) (x y : Int) : Option V :=
  match ltI y 0 with
  | true => none
  | false => some (.int k (x.fdiv (2 ^ (min y.toNat k.bits))))

/-- Lists of bytes. -/
noncomputable def eqS (a : List UInt8) : List UInt8 → Bool :=
  List.rec (motive := fun _ => List UInt8 → Bool) (fun b => List.rec (motive := fun _ => Bool) true (fun _ _ _ => false) b)
    (fun x _ ih b => List.rec (motive := fun _ => Bool) false (fun y ys _ => Bool.rec false (ih ys) (Nat.beq x.toNat y.toNat)) b) a
noncomputable def ltS (a : List UInt8) : List UInt8 → Bool :=
  List.rec (motive := fun _ => List UInt8 → Bool) (fun b => List.rec (motive := fun _ => Bool) false (fun _ _ _ => true) b)
    (fun x _ ih b => List.rec (motive := fun _ => Bool) false (fun y ys _ => Bool.rec (Bool.rec false (ih ys) (Nat.beq x.toNat y.toNat)) true (Nat.blt x.toNat y.toNat)) b) a

noncomputable def addS (a b : List UInt8) : Option V :=
  match Nat.ble (Nat.add (lenL a) (lenL b)) 9223372036854775807 with
  | true => some (.str (app a b))
  | false => none
noncomputable def eqlS (a b : List UInt8) : Option V := some (.bool (eqS a b))
noncomputable def neqS (a b : List UInt8) : Option V := some (.bool (!eqS a b))
noncomputable def lssS (a b : List UInt8) : Option V := some (.bool (ltS a b))
noncomputable def leqS (a b : List UInt8) : Option V := some (.bool (ltS a b || eqS a b))
noncomputable def gtrS (a b : List UInt8) : Option V := some (.bool (!(ltS a b || eqS a b)))
noncomputable def geqS (a b : List UInt8) : Option V := some (.bool (!ltS a b))
def noS (_ _ : List UInt8) : Option V := none

noncomputable def strOpA (op : BinOp) : List UInt8 → List UInt8 → Option V :=
  match op with
  | .add => addS | .eql => eqlS | .neq => neqS | .lss => lssS | .leq => leqS | .gtr => gtrS | .geq => geqS | _ => noS

/-- A part of a struct or array value. -/
noncomputable def partA (t : TypeId) (cs : List V) (off : Nat) : Option V :=
  match isAggA P t, sizeA P t with
  | some true, some n => some (.agg (takeL (dropL cs off) n))
  | some false, some _ => atL cs off
  | _, _ => none

mutual
noncomputable def equalA : Nat → TypeId → V → V → Option Bool
  | 0, _, _, _ => none
  | d + 1, t, x, y => match P.underlying t, x, y with
    | some .bool, .bool a, .bool b => some (a == b)
    | some (.int _), .int k a, .int k' b => match eqK k k' with
      | true => some (eqI a b)
      | false => none
    | some .string, .str a, .str b => some (eqS a b)
    | some (.pointer _), .ptr none, .ptr b => some b.isNone
    | some (.pointer _), .ptr (some _), .ptr none => some false
    | some (.pointer elem), .ptr (some a), .ptr (some b) => match sizeA P elem with
      | some (_ + 1) => match Nat.beq a.1 b.1 with
        | true => some (Nat.beq a.2 b.2)
        | false => none
      | _ => none
    | some (.interface _), .nilIface, .nilIface => some true
    | some (.interface _), .nilIface, .iface _ _ => some false
    | some (.interface _), .iface _ _, .nilIface => some false
    | some (.interface _), .iface tx vx, .iface ty vy => match Nat.beq tx ty with
      | false => some false
      | true => match P.info? tx with
        | some i => match i.comparable with
          | true => equalA d tx vx vy
          | false => none
        | none => none
    | some (.struct fields), .agg xs, .agg ys => match P.stoodInHeld t with
      | true => none
      | false => equalFieldsA d fields.toList xs ys
    | some (.slice _), .slice none _ _, .slice b _ _ => some b.isNone
    | some (.slice _), .slice none _ _, .oslice _ _ _ _ => some false
    | some (.slice _), .slice (some _) _ _, .slice none _ _ => some false
    | some (.slice _), .oslice _ _ _ _, .slice none _ _ => some false
    | some (.map _ _), .map none, .map b => some b.isNone
    | some (.map _ _), .map (some _), .map none => some false
    | some (.func _ _ _), .nilFunc, .nilFunc => some true
    | some (.func _ _ _), .nilFunc, .func _ _ _ => some false
    | some (.func _ _ _), .func _ _ _, .nilFunc => some false
    | _, _, _ => none
noncomputable def equalFieldsA : Nat → List Field → List V → List V → Option Bool
  | 0, _, _, _ => none
  | _ + 1, [], _, _ => some true
  | d + 1, f :: fs, xs, ys => match f.name == "_" with
    | true => equalFieldsA d fs xs ys
    | false => match partA P f.type xs f.offset, partA P f.type ys f.offset with
      | some x, some y => match equalA d f.type x y with
        | some true => equalFieldsA d fs xs ys
        | some false => some false
        | none => none
      | _, _ => none
end

/-- Of an operator: 0: a comparison by == or !=; 1: a shift; 2: another one. -/
def opSort (op : BinOp) : Nat :=
  match op with
  | .eql => 0 | .neq => 0 | .shl => 1 | .shr => 1 | _ => 2
def V.sort : V → Nat
  | .nilIface => 0
  | .agg _ => 1
  | _ => 2
def isConstA (x : Operand) : Bool :=
  match x with
  | .const _ => true
  | _ => false
noncomputable def eqGuardBoth (t : TypeId) (x y : Operand) (n : Nat) : Bool :=
  match n with
  | 0 => isConstA x || isConstA y
  | 1 => !P.eqGuardType P.depth t
  | _ => true
noncomputable def eqGuardA (op : BinOp) (t : TypeId) (x y : Operand) (a b : V) : Bool :=
  match opSort op with
  | 0 => match Nat.beq a.sort b.sort with
    | true => eqGuardBoth P t x y a.sort
    | false => true
  | _ => true

noncomputable def shiftA (op : BinOp) : IntKind → Int → Int → Option V :=
  match op with
  | .shl => shlI
  | .shr => shrI
  | _ => noI
noncomputable def binInt (op : BinOp) (k : IntKind) (x : Int) (b : V) : Option V :=
  match b with
  | .int k' y => match opSort op with
    | 1 => shiftA op k x y
    | _ => match eqK k k' with
      | true => intOpA op k x y
      | false => none
  | _ => none

noncomputable def binStr (op : BinOp) (x : List UInt8) (b : V) : Option V :=
  match b with
  | .str y => strOpA op x y
  | _ => none

noncomputable def binEq (op : BinOp) (t : TypeId) (x y : V) : Option V :=
  match op with
  | .eql => match equalA P 100 t x y with
    | some r => some (.bool r)
    | none => none
  | .neq => match equalA P 100 t x y with
    | some r => some (.bool !r)
    | none => none
  | _ => none

noncomputable def binOpA (op : BinOp) (t : TypeId) (a b : V) : Option V :=
  match a with
  | .int k x => binInt op k x b
  | .str x => binStr op x b
  | a => binEq P op t a b

noncomputable def unOpA (op : UnOp) (x : V) : Option V :=
  match op, x with
  | .neg, .int k n => some (.int k (wrapI k (Int.sub 0 n)))
  | .not, .bool b => some (.bool !b)
  | _, _ => none

/-- The bytes of a row of byte cells. -/
noncomputable def bytesOfA : List V → Option (List UInt8)
  | [] => some []
  | .int .u8 n :: vs => match bytesOfA vs with
    | some l => some (UInt8.ofNat n.toNat :: l)
    | none => none
  | _ => none

/-- A string's bytes as cells. -/
noncomputable def byteCells (l : List UInt8) : List V := l.map fun c => .int .u8 c.toNat

noncomputable def convertA (h : Heap) (src dst : TypeId) (x : V) : Option (V × Heap) :=
  match P.underlying src, P.underlying dst, x with
  | some _, some (.int k), .int _ n => some (.int k (wrapI k n), h)
  | some _, some .string, .str s => some (.str s, h)
  | some .string, some (.slice e), .str s => match P.underlying e with
    | some (.int .u8) => match h.new (.row true (byteCells s)) with
      | (b, h') => some (.oslice b 0 (lenL s) 1, h')
    | _ => none
  | some (.slice e), some .string, .slice a len _ => match P.underlying e, a with
    | some (.int .u8), none => some (.str [], h)
    | some (.int .u8), some a => match h.load a len with
      | some cs => match bytesOfA cs with
        | some l => some (.str l, h)
        | none => none
      | none => none
    | _, _ => none
  | some (.slice e), some .string, .oslice b off len _ => match P.underlying e with
    | some (.int .u8) => match h.load (b, off) len with
      | some cs => match bytesOfA cs with
        | some l => some (.str l, h)
        | none => none
      | none => none
    | _ => none
  | _, _, _ => none

/-- A bound of a slice expression: at most y. -/
noncomputable def boundA (v : V) (y : Nat) : Option Nat :=
  match v with
  | .int _ i => match !ltI i 0, !ltI y i with
    | true, true => some i.toNat
    | _, _ => none
  | _ => none

/-- low, high, max of a slice expression. -/
noncomputable def boundsA (len cap : Nat) (low high max : Option V) : Option (Nat × Nat × Nat) :=
  match (match max with | some v => boundA v cap | none => some cap) with
  | none => none
  | some m => match (match high, max with | some v, _ => boundA v m | none, none => some len | none, some _ => none) with
    | none => none
    | some hi => match (match low with | some v => boundA v hi | none => some 0) with
      | none => none
      | some l => some (l, hi, m)

/-- How many elements are known behind a place of an open row. -/
noncomputable def knownA (h : Heap) (b off e : Nat) : Option Nat :=
  match h.row b, e with
  | some (_, cs), e + 1 => match Nat.ble off (lenL cs) with
    | true => some ((lenL cs - off) / (e + 1))
    | false => none
  | _, _ => none

noncomputable def sliceA (h : Heap) (t : TypeId) (x : V) (low high max : Option V) : Option (V × Heap) :=
  match P.underlying t, x with
  | some .string, .str s => match max with
    | some _ => none
    | none => match boundsA (lenL s) (lenL s) low high none with
      | some (l, hi, _) => some (.str (takeL (dropL s l) (hi - l)), h)
      | none => none
  | some (.slice elem), .slice a len cap => match boundsA len cap low high max, sizeA P elem with
    | some (l, hi, m), some n => match Nat.beq m l with
      | true => some (.slice a (hi - l) (m - l), h)
      | false => match a with
        | some (b, o) => some (.slice (some (b, o + l * n)) (hi - l) (m - l), h)
        | none => some (.slice none (hi - l) (m - l), h)
    | _, _ => none
  | some (.slice elem), .oslice b o len e => match knownA h b o e, sizeA P elem with
    | some c, some n => match Nat.beq n e, Nat.ble len c with
      | true, true => match boundsA len c low high max with
        | some (l, hi, m) => match max with
          | some _ => match Nat.beq m l with
            | true => some (.slice (some (b, o)) (hi - l) (m - l), h)
            | false => some (.slice (some (b, o + l * n)) (hi - l) (m - l), h)
          | none => match Nat.ble l 0 || Nat.blt l c with
            | true => some (.oslice b (o + l * n) (hi - l) e, h)
            | false => match h.new .dead with
              | (d, h') => some (.oslice d 0 0 e, h')
        | none => none
      | _, _ => none
    | _, _ => none
  | _, _ => none

noncomputable def fieldAddrA (s : TypeId) (x : V) (field : Nat) : Option V :=
  match P.underlying s, x with
  | some (.struct fields), .ptr (some (b, o)) => match fields[field]? with
    | some f => match sizeA P f.type with
      | some (_ + 1) => some (.ptr (some (b, o + f.offset)))
      | _ => none
    | none => none
  | _, _ => none

noncomputable def fieldA (t : TypeId) (x : V) (field : Nat) : Option V :=
  match P.underlying t, x with
  | some (.struct fields), .agg cs => match fields[field]? with
    | some f => partA P f.type cs f.offset
    | none => none
  | _, _ => none

noncomputable def indexAddrA (t : TypeId) (x index : V) : Option V :=
  match P.underlying t, x, index with
  | some (.slice elem), .slice (some (b, o)) len _, .int _ i => match !ltI i 0, ltI i len, sizeA P elem with
    | true, true, some n => some (.ptr (some (b, o + i.toNat * n)))
    | _, _, _ => none
  | some (.slice elem), .oslice b o len _, .int _ i => match !ltI i 0, ltI i len, sizeA P elem with
    | true, true, some n => some (.ptr (some (b, o + i.toNat * n)))
    | _, _, _ => none
  | some (.array len elem), .ptr (some (b, o)), .int _ i => match !ltI i 0, ltI i len, sizeA P elem with
    | true, true, some n => some (.ptr (some (b, o + i.toNat * n)))
    | _, _, _ => none
  | _, _, _ => none

noncomputable def indexA (t : TypeId) (x index : V) : Option V :=
  match P.underlying t, x, index with
  | some (.array len elem), .agg cs, .int _ i => match !ltI i 0, ltI i len, sizeA P elem with
    | true, true, some n => partA P elem cs (i.toNat * n)
    | _, _, _ => none
  | some .string, .str s, .int _ i => match !ltI i 0 with
    | true => match atL s i.toNat with
      | some b => some (.int .u8 b.toNat)
      | none => none
    | false => none
  | _, _, _ => none

noncomputable def sameKeyA (kind : TypeDesc) (k k' : V) : Option Bool :=
  match kind, k, k' with
  | .int _, .int i a, .int j b => match eqK i j with
    | true => some (eqI a b)
    | false => none
  | .string, .str a, .str b => some (eqS a b)
  | .bool, .bool a, .bool b => some (a == b)
  | _, _, _ => none

/-- A key's place and value in a map's entries; 'none' outside: a key of another kind. -/
noncomputable def findA (kind : TypeDesc) (k : V) : List (V × V × Nat) → Nat → Option (Option (Nat × V × Nat))
  | [], _ => some none
  | (k', v, born) :: es, i => match sameKeyA kind k k' with
    | some true => some (some (i, v, born))
    | some false => findA kind k es (i + 1)
    | none => none

/-- Does a value of this type need no look as a key? -/
noncomputable def plainKey (d : TypeDesc) : Bool :=
  match d with
  | .int _ | .string | .bool => true
  | _ => false

noncomputable def lookupA (h : Heap) (t : TypeId) (x k : V) (commaOk : Bool) : Option V :=
  match P.underlying t with
  | some (.map key elem) => match P.underlying key with
    | some kd => match plainKey kd, (match x with
        | .map none => some []
        | .map (some r) => match h.get r with
          | some (.map es _) => some es
          | _ => none
        | _ => none : Option (List (V × V × Nat))) with
      | true, some es => match findA kd k es 0 with
        | some (some (_, v, _)) => match commaOk with
          | true => some (.tuple [v, .bool true])
          | false => some v
        | some none => match zeroA P elem with
          | some z => match commaOk with
            | true => some (.tuple [z, .bool false])
            | false => some z
          | none => none
        | none => none
      | _, _ => none
    | none => none
  | _ => none

/-- An entry's value changed at a place. -/
noncomputable def setAt (v : V) : Nat → List (V × V × Nat) → List (V × V × Nat)
  | _, [] => []
  | 0, (k, _, born) :: es => (k, v, born) :: es
  | n + 1, e :: es => e :: setAt v n es

noncomputable def mapPutA (h : Heap) (t : TypeId) (m k v : V) : Option (Heap × V × Nat) :=
  match P.underlying t, m with
  | some (.map key elem), .map (some r) => match P.underlying key, h.get r, zeroA P elem, Nat.ble h.lim r with
    | some kd, some (.map es clock), some z, true => match plainKey kd, findA kd k es 0 with
      | true, some (some (i, old, born)) => some (h.set r (.map (setAt v i es) clock), old, born)
      | true, some none => some (h.set r (.map (app es [(k, v, clock)]) (clock + 1)), z, clock)
      | _, _ => none
    | _, _, _, _ => none
  | _, _ => none

noncomputable def mapUpdateA (h : Heap) (t : TypeId) (m k v : V) : Option Heap :=
  match mapPutA P h t m k v with
  | some (h', _, _) => some h'
  | none => none

noncomputable def mapEntryA (h : Heap) (t : TypeId) (m k : V) : Option (V × Heap) :=
  match P.underlying t, m with
  | some (.map key elem), .map (some r) => match P.underlying key, h.get r, zeroA P elem, Nat.ble h.lim r with
    | some kd, some (.map es clock), some z, true => match plainKey kd, findA kd k es 0 with
      | true, some (some (_, old, born)) => some (.tuple [old, .int .i64 born], h)
      | true, some none => some (.tuple [z, .int .i64 clock], h.set r (.map (app es [(k, z, clock)]) (clock + 1)))
      | _, _ => none
    | _, _, _, _ => none
  | _, _ => none

noncomputable def bornAt (n : Int) : List (V × V × Nat) → Nat → Option Nat
  | [], _ => none
  | (_, _, born) :: es, i => match (born : Int) == n with
    | true => some i
    | false => bornAt n es (i + 1)

noncomputable def entryStoreA (h : Heap) (m stamp v : V) : Option Heap :=
  match m, stamp with
  | .map (some r), .int _ n => match h.get r, Nat.ble h.lim r with
    | some (.map es clock), true => match bornAt n es 0 with
      | some i => some (h.set r (.map (setAt v i es) clock))
      | none => none
    | _, _ => none
  | _, _ => none

noncomputable def dropAt : Nat → List (V × V × Nat) → List (V × V × Nat)
  | _, [] => []
  | 0, _ :: es => es
  | n + 1, e :: es => e :: dropAt n es

noncomputable def deleteA (h : Heap) (t : TypeId) (m k : V) : Option Heap :=
  match P.underlying t, m with
  | some (.map key _), .map (some r) => match P.underlying key, h.get r, Nat.ble h.lim r with
    | some kd, some (.map es clock), true => match plainKey kd, findA kd k es 0 with
      | true, some (some (i, _, _)) => some (h.set r (.map (dropAt i es) clock))
      | true, some none => some h
      | _, _ => none
    | _, _, _ => none
  | _, _ => none

noncomputable def rangeA (h : Heap) (t : TypeId) (x : V) : Option (V × Heap) :=
  match P.underlying t, x with
  | some .string, .str s => match h.new (.sIter s 0) with
    | (b, h') => some (.ptr (some (b, 0)), h')
  | some (.map _ _), .map none => match h.new (.mIter none 0 [] 0) with
    | (b, h') => some (.ptr (some (b, 0)), h')
  | some (.map _ _), .map (some r) => match h.get r with
    | some (.map _ clock) => match h.new (.mIter (some r) clock [] clock) with
      | (b, h') => some (.ptr (some (b, 0)), h')
    | _ => none
  | _, _ => none

/-- A string's next rune, below 128. -/
noncomputable def nextA (h : Heap) (it : V) (isString : Bool) : Option (List (V × Heap)) :=
  match it, isString with
  | .ptr (some (b, 0)), true => match h.get b, Nat.ble h.lim b with
    | some (.sIter s pos), true => match atL s pos with
      | some c => match Nat.blt c.toNat 128 with
        | true => some [(.tuple [.bool true, .int .i64 pos, .int .i32 c.toNat], h.set b (.sIter s (pos + 1)))]
        | false => none
      | none => some [(.tuple [.bool false], h)]
    | _, _ => none
  | .ptr (some (b, 0)), false => match h.get b, Nat.ble h.lim b with
    | some (.mIter none _ _ _), true => some [(.tuple [.bool false], h)]
    | some (.mIter (some m) since seen stepped), true => match h.get m with
      | some (.map es clock) => match Nat.beq clock since && Nat.beq stepped since with
        | true => match es.filter fun e => !seen.contains e.2.2 with
          | [] => some [(.tuple [.bool false], h)]
          | left => some (left.map fun e => (.tuple [.bool true, e.1, e.2.1], h.set b (.mIter (some m) since (app seen [e.2.2]) clock)))
        | false => none
      | _ => none
    | _, _ => none
  | _, _ => none

/-- The entry at which an iterator stands. -/
noncomputable def entryA (h : Heap) (it : V) : Option V :=
  match it with
  | .ptr (some (b, 0)) => match h.get b with
    | some (.mIter (some m) _ seen stepped) => match h.get m, seen.getLast? with
      | some (.map es clock), some stamp => match Nat.beq clock stepped, es.find? fun e => Nat.beq e.2.2 stamp with
        | true, some e => some (.tuple [e.1, e.2.1])
        | _, _ => none
      | _, _ => none
    | _ => none
  | _ => none

/-- The cells of a slice's first n elements. -/
noncomputable def firstA (h : Heap) (size n : Nat) : V → Option (List V)
  | .slice none _ _ => some []
  | .slice (some a) _ _ => match Nat.beq (n * size) 0 with
    | true => some []
    | false => h.load a (n * size)
  | .oslice b off _ _ => match Nat.beq (n * size) 0 with
    | true => some []
    | false => h.load (b, off) (n * size)
  | .str s => match Nat.beq size 1 with
    | true => some ((s.take n).map fun c => .int .u8 c.toNat)
    | false => none
  | _ => none

noncomputable def lenA : V → Option Nat
  | .slice _ n _ => some n
  | .oslice _ _ n _ => some n
  | .str s => some (lenL s)
  | _ => none

noncomputable def lenOpA (h : Heap) (t : TypeId) (x : V) : Option V :=
  match P.underlying t, x with
  | some .string, .str s => some (.int .i64 (lenL s : Nat))
  | some (.array n _), _ => some (.int .i64 n)
  | some (.slice _), .slice _ n _ => some (.int .i64 n)
  | some (.slice _), .oslice _ _ n _ => some (.int .i64 n)
  | some (.slice _), .dang _ => some (.int .i64 0)
  | some (.map _ _), .map none => some (.int .i64 0)
  | some (.map _ _), .map (some r) => match h.get r with
    | some (.map es _) => some (.int .i64 (lenL es))
    | _ => none
  | _, _ => none

noncomputable def isIntD (d : TypeDesc) : Bool :=
  match d with
  | .int _ => true
  | _ => false

/-- Grown: old elements and new ones in a new row. -/
noncomputable def growA (h : Heap) (e n len : Nat) (old : Option (List V)) (new : List V) : Option (V × Heap) :=
  match old with
  | some old => match Nat.beq (lenL old) (len * e), Nat.beq (lenL new) (n * e), allCells old && allCells new with
    | true, true, true => match h.new (.row true (app old new)) with
      | (b, h') => some (.oslice b 0 (len + n) e, h')
    | _, _, _ => none
  | none => none

noncomputable def appendExact (h : Heap) (e bytes n : Nat) (new : List V) (base : Option (Nat × Nat)) (len cap : Nat) : Option (V × Heap) :=
  match Nat.ble (len + n) cap with
  | true => match base, n with
    | none, 0 => some (.slice none len cap, h)
    | none, _ => none
    | some a, 0 => some (.slice (some a) len cap, h)
    | some (b, o), n => match h.store (b, o + len * e) new with
      | some h' => some (.slice (some (b, o)) (len + n) cap, h')
      | none => none
  | false => match Nat.ble ((len + n + cap + 1000) * (bytes + 1)) 1099511627776 with
    | true => growA h e n len (firstA h e len (.slice base len cap)) new
    | false => none

noncomputable def appendOpen (h : Heap) (e bytes n : Nat) (new : List V) (b o len e' : Nat) : Option (V × Heap) :=
  match h.row b, Nat.beq e' e, Nat.ble h.lim b with
  | some (_, cs), true, true => match Nat.ble (o + len * e) (lenL cs) with
    | true => match Nat.ble (o + (len + n) * e) (lenL cs) with
      | true => match n with
        | 0 => some (.oslice b o len e, h)
        | n => match h.store (b, o + len * e) new with
          | some h' => some (.oslice b o (len + n) e, h')
          | none => none
      | false => match Nat.ble ((len + n + 1000) * (bytes + 1)) 1099511627776 with
        | true => growA (h.set b .dead) e n len (some (takeL (dropL cs o) (len * e))) new
        | false => none
    | false => none
  | _, _, _ => none

noncomputable def appendA (h : Heap) (sT xT : TypeId) (s x : V) : Option (V × Heap) :=
  match elemA P sT, P.underlying xT, lenA x with
  | some elem, some d, some n => match sizeA P elem, bytesA P elem, zeroA P elem with
    | some (e + 1), some bytes, some z => match firstA h (e + 1) n x, Nat.beq (lenL z.cells) (e + 1), isIntD d with
      | some new, true, false => match s with
        | .slice base len cap => appendExact h (e + 1) bytes n new base len cap
        | .oslice b o len e' => appendOpen h (e + 1) bytes n new b o len e'
        | _ => none
      | _, _, _ => none
    | _, _, _ => none
  | _, _, _ => none

noncomputable def copyA (h : Heap) (dT : TypeId) (dst src : V) : Option (V × Heap) :=
  match elemA P dT, lenA src with
  | some elem, some n => match sizeA P elem with
    | some size => match dst with
      | .slice base len _ => match firstA h size (Nat.min n len) src with
        | some cs => match base, cs with
          | none, [] => some (.int .i64 (Nat.min n len), h)
          | none, _ => none
          | some _, [] => some (.int .i64 (Nat.min n len), h)
          | some a, cs => match h.store a cs with
            | some h' => some (.int .i64 (Nat.min n len), h')
            | none => none
        | none => none
      | .oslice b o len _ => match firstA h size (Nat.min n len) src with
        | some [] => some (.int .i64 (Nat.min n len), h)
        | some cs => match h.store (b, o) cs with
          | some h' => some (.int .i64 (Nat.min n len), h')
          | none => none
        | none => none
      | _ => none
    | none => none
  | _, _ => none

noncomputable def clearA (h : Heap) (t : TypeId) (x : V) : Option Heap :=
  match P.underlying t, x with
  | some (.slice _), .slice none _ _ => some h
  | some (.slice _), .slice (some _) 0 _ => some h
  | some (.slice _), .oslice _ _ 0 _ => some h
  | some (.slice elem), .slice (some a) n _ => match zeroA P elem with
    | some z => h.store a (timesA z.cells n)
    | none => none
  | some (.slice elem), .oslice b o n _ => match zeroA P elem with
    | some z => h.store (b, o) (timesA z.cells n)
    | none => none
  | _, _ => none

noncomputable def minA (less : Bool) : V → V → Option V
  | .int k x, .int _ y => match less with
    | true => some (.int k (if y < x then y else x))
    | false => some (.int k (if y > x then y else x))
  | _, _ => none

noncomputable def foldA (f : V → V → Option V) : V → List V → Option V
  | x, [] => some x
  | x, y :: ys => match f x y with
    | some z => foldA f z ys
    | none => none

noncomputable def builtinA (h : Heap) (b : Builtin) (ts : List TypeId) (args : List V) : Option (V × Heap) :=
  match b, ts, args with
  | .append, sT :: xT :: _, s :: x :: _ => appendA P h sT xT s x
  | .len, t :: _, x :: _ => match lenOpA P h t x with
    | some v => some (v, h)
    | none => none
  | .copy, t :: _, d :: s :: _ => copyA P h t d s
  | .clear, t :: _, x :: _ => match clearA P h t x with
    | some h' => some (.tuple [], h')
    | none => none
  | .delete, t :: _, m :: k :: _ => match deleteA P h t m k with
    | some h' => some (.tuple [], h')
    | none => none
  | .min, _, x :: xs => match foldA (minA true) x xs with
    | some v => some (v, h)
    | none => none
  | .max, _, x :: xs => match foldA (minA false) x xs with
    | some v => some (v, h)
    | none => none
  | .cap, t :: _, .slice _ _ c :: _ => match P.underlying t with
    | some (.slice _) => some (.int .i64 c, h)
    | _ => none
  | _, _, _ => none

end
end Go.Abs
