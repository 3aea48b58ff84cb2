/-
  An evaluator without a tape: code and calls.
-/
import Derived.Test.YtaliknnfbjehhaaDoorAbsOps
set_option linter.all false
namespace Go.Abs

/-- How a piece of code is left. -/
inductive Out where
  | normal
  | exit (id : Nat)
  | ret

abbrev Env := PMap V

/-- What an operand stands for. -/
noncomputable def evalA (env : Env) : Operand → Option V
  | .tmp t => env.get t
  | .const v => ofValue v
  | .global _ => none
  | .func f => some (.func (.func f) [] [])

noncomputable def evalsA (env : Env) (l : List Operand) : Option (List V) :=
  List.rec (motive := fun _ => Option (List V)) (some []) (fun x _ ih => match evalA env x, ih with
    | some v, some vs => some (v :: vs)
    | _, _ => none) l

noncomputable def evalOpt (env : Env) : Option Operand → Option (Option V)
  | none => some none
  | some x => match evalA env x with
    | some v => some (some v)
    | none => none

noncomputable def evalParts (env : Env) (l : List (Nat × Operand)) : Option (List (Nat × V)) :=
  List.rec (motive := fun _ => Option (List (Nat × V))) (some []) (fun x _ ih => match x, ih with
    | (i, x), some vs => match evalA env x with
      | some v => some ((i, v) :: vs)
      | none => none
    | _, none => none) l

/-- What an operation comes to: values with heaps; a call. -/
inductive Step where
  | value (v : V) (h : Heap)
  | skip (h : Heap)
  | many (l : List (V × Heap))
  | call (f : FuncId) (args : List V)

def valueS : Option V → Heap → Option Step
  | some v, h => some (.value v h)
  | none, _ => none

def heapS : Option (V × Heap) → Option Step
  | some (v, h) => some (.value v h)
  | none => none

def skipS : Option Heap → Option Step
  | some h => some (.skip h)
  | none => none

section
variable (P : Program)

/-- A function called by its number: 'none': it has no body here. -/
noncomputable def targetA (fn : Fn) (first captured args : List V) : Option Step :=
  match fn with
  | .func f => some (.call f (app (app first args) captured))
  | .methodOf t name => match app first args with
    | recv :: rest => match P.underlying t, P.info? t with
      | some (.interface _), _ => none
      | some (.pointer _), some i => match i.methods.find? (·.name == name) with
        | some m => match m.path.toList, m.func with
          | [], some (f, true) => some (.call f (recv :: rest))
          | _, _ => none
        | none => none
      | some _, some i => match i.methods.find? (·.name == name) with
        | some m => match m.path.toList, m.func with
          | [], some (f, false) => some (.call f (recv :: rest))
          | _, _ => none
        | none => none
      | _, _ => none
    | [] => none
  | _ => none

noncomputable def sMove (x : Operand) (env : Env) (h : Heap) : Option Step := valueS (evalA env x) h
noncomputable def sPick (c a b : Operand) (env : Env) (h : Heap) : Option Step :=
  match evalA env c with
  | some (.bool t) => match t with
    | true => valueS (evalA env a) h
    | false => valueS (evalA env b) h
  | _ => none
noncomputable def sAlloc (elem : TypeId) (_ : Env) (h : Heap) : Option Step :=
  match zeroA P elem with
  | some z => heapS (newA h z)
  | none => none
noncomputable def sBox (_ : TypeId) (x : Operand) (env : Env) (h : Heap) : Option Step :=
  match evalA env x with
  | some v => heapS (newA h v)
  | none => none
noncomputable def sBuild (t : TypeId) (parts : Array (Nat × Operand)) (env : Env) (h : Heap) : Option Step :=
  match evalParts env parts.toList with
  | some ps => valueS (buildA P t ps) h
  | none => none
noncomputable def sBuildSlice (t : TypeId) (n : Nat) (parts : Array (Nat × Operand)) (env : Env) (h : Heap) : Option Step :=
  match evalParts env parts.toList with
  | some ps => heapS (buildSliceA P h t n ps)
  | none => none
noncomputable def sLoad (t : TypeId) (a : Operand) (env : Env) (h : Heap) : Option Step :=
  match evalA env a with
  | some a => valueS (loadA P h t a) h
  | none => none
noncomputable def sStore (t : TypeId) (a x : Operand) (env : Env) (h : Heap) : Option Step :=
  match evalA env a, evalA env x with
  | some a, some x => skipS (storeA P h t a x)
  | _, _ => none
noncomputable def sNilCheck (x : Operand) (env : Env) (h : Heap) : Option Step :=
  match evalA env x with
  | some (.ptr (some a)) => some (.value (.ptr (some a)) h)
  | some (.func (.func f) a b) => some (.value (.func (.func f) a b) h)
  | _ => none
noncomputable def sBinOp (op : BinOp) (t : TypeId) (x y : Operand) (_ : TypeId) (env : Env) (h : Heap) : Option Step :=
  match evalA env x, evalA env y with
  | some a, some b => match eqGuardA P op t x y a b with
    | true => valueS (binOpA P op t a b) h
    | false => none
  | _, _ => none
noncomputable def sUnOp (op : UnOp) (_ : TypeId) (x : Operand) (env : Env) (h : Heap) : Option Step :=
  match evalA env x with
  | some a => valueS (unOpA op a) h
  | none => none
noncomputable def sConvert (src dst : TypeId) (x : Operand) (env : Env) (h : Heap) : Option Step :=
  match evalA env x with
  | some a => heapS (convertA P h src dst a)
  | none => none
noncomputable def sMakeInterface (t : TypeId) (x : Operand) (env : Env) (h : Heap) : Option Step :=
  match evalA env x, P.underlying t with
  | some _, some (.interface _) => none
  | some a, some _ => some (.value (.iface t a) h)
  | _, _ => none
noncomputable def sMakeFunc (fn : Fn) (first captured : Array Operand) (env : Env) (h : Heap) : Option Step :=
  match evalsA env first.toList, evalsA env captured.toList with
  | some a, some b => some (.value (.func fn a b) h)
  | _, _ => none
noncomputable def sMakeMap (_ : TypeId) (r : Option Operand) (_ : Env) (h : Heap) : Option Step :=
  match r with
  | none => match h.new (.map [] 0) with
    | (b, h') => some (.value (.map (some b)) h')
  | some _ => none
noncomputable def sMakeSlice (t : TypeId) (l c : Operand) (env : Env) (h : Heap) : Option Step :=
  match evalA env l, evalA env c with
  | some l, some c => heapS (makeSliceA P h t l c)
  | _, _ => none
noncomputable def sSlice (t : TypeId) (x : Operand) (lo hi mx : Option Operand) (env : Env) (h : Heap) : Option Step :=
  match evalA env x, evalOpt env lo, evalOpt env hi, evalOpt env mx with
  | some x, some lo, some hi, some mx => heapS (sliceA P h t x lo hi mx)
  | _, _, _, _ => none
noncomputable def sFieldAddr (s : TypeId) (x : Operand) (f : Nat) (env : Env) (h : Heap) : Option Step :=
  match evalA env x with
  | some x => valueS (fieldAddrA P s x f) h
  | none => none
noncomputable def sField (t : TypeId) (x : Operand) (f : Nat) (env : Env) (h : Heap) : Option Step :=
  match evalA env x with
  | some x => valueS (fieldA P t x f) h
  | none => none
noncomputable def sIndexAddr (t : TypeId) (x i : Operand) (env : Env) (h : Heap) : Option Step :=
  match evalA env x, evalA env i with
  | some x, some i => valueS (indexAddrA P t x i) h
  | _, _ => none
noncomputable def sIndex (t : TypeId) (x i : Operand) (env : Env) (h : Heap) : Option Step :=
  match evalA env x, evalA env i with
  | some x, some i => valueS (indexA P t x i) h
  | _, _ => none
noncomputable def sLookup (t : TypeId) (x i : Operand) (ok : Bool) (env : Env) (h : Heap) : Option Step :=
  match evalA env x, evalA env i with
  | some x, some i => valueS (lookupA P h t x i ok) h
  | _, _ => none
noncomputable def sMapUpdate (t : TypeId) (m k v : Operand) (env : Env) (h : Heap) : Option Step :=
  match evalA env m, evalA env k, evalA env v with
  | some m, some k, some v => skipS (mapUpdateA P h t m k v)
  | _, _, _ => none
noncomputable def sMapEntry (t : TypeId) (m k : Operand) (env : Env) (h : Heap) : Option Step :=
  match evalA env m, evalA env k with
  | some m, some k => heapS (mapEntryA P h t m k)
  | _, _ => none
noncomputable def sEntryStore (_ : TypeId) (m s v : Operand) (env : Env) (h : Heap) : Option Step :=
  match evalA env m, evalA env s, evalA env v with
  | some m, some s, some v => skipS (entryStoreA h m s v)
  | _, _, _ => none
noncomputable def sRange (t : TypeId) (x : Operand) (env : Env) (h : Heap) : Option Step :=
  match evalA env x with
  | some x => heapS (rangeA P h t x)
  | none => none
noncomputable def sNext (it : Operand) (isString : Bool) (env : Env) (h : Heap) : Option Step :=
  match evalA env it with
  | some it => match nextA h it isString with
    | some l => some (.many l)
    | none => none
  | none => none
noncomputable def sEntry (it : Operand) (env : Env) (h : Heap) : Option Step :=
  match evalA env it with
  | some it => valueS (entryA h it) h
  | none => none
noncomputable def sExtract (t : Operand) (i : Nat) (env : Env) (h : Heap) : Option Step :=
  match evalA env t with
  | some (.tuple vs) => match atL vs i with
    | some v => some (.value v h)
    | none => none
  | _ => none
noncomputable def sBuiltin (b : Builtin) (args : Array Operand) (ts : Array TypeId) (env : Env) (h : Heap) : Option Step :=
  match evalsA env args.toList with
  | some vs => heapS (builtinA P h b ts.toList vs)
  | none => none
noncomputable def sValue (f : Operand) (args : Array Operand) (env : Env) (_ : Heap) : Option Step :=
  match evalA env f, evalsA env args.toList with
  | some (.func fn first captured), some vs => targetA P fn first captured vs
  | _, _ => none
noncomputable def sCall (c : Call) : Env → Heap → Option Step :=
  match c.callee with
  | .builtin b => sBuiltin P b c.args c.argTypes
  | .value f => sValue P f c.args
  | .invoke _ _ => fun _ _ => none
def sNone (_ : Env) (_ : Heap) : Option Step := none

noncomputable def stepOp (op : Op) : Env → Heap → Option Step :=
  match op with
  | .move x => sMove x
  | .assign x => sMove x
  | .pick c a b => sPick c a b
  | .alloc t => sAlloc P t
  | .box t x => sBox t x
  | .build t ps => sBuild P t ps
  | .buildSlice t n ps => sBuildSlice P t n ps
  | .load t a => sLoad P t a
  | .store t a x => sStore P t a x
  | .nilCheck x => sNilCheck x
  | .binOp op t x y u => sBinOp P op t x y u
  | .unOp op t x => sUnOp op t x
  | .convert s d x => sConvert P s d x
  | .makeInterface t x => sMakeInterface P t x
  | .makeFunc f a b => sMakeFunc f a b
  | .makeMap t r => sMakeMap t r
  | .makeSlice t l c => sMakeSlice P t l c
  | .slice t x lo hi mx => sSlice P t x lo hi mx
  | .fieldAddr s x f => sFieldAddr P s x f
  | .field t x f => sField P t x f
  | .indexAddr t x i => sIndexAddr P t x i
  | .index t x i => sIndex P t x i
  | .lookup t x i ok => sLookup P t x i ok
  | .mapUpdate t m k v => sMapUpdate P t m k v
  | .mapEntry t m k => sMapEntry P t m k
  | .entryStore t m s v => sEntryStore t m s v
  | .range t x => sRange P t x
  | .next it s => sNext it s
  | .entry it => sEntry it
  | .extract t i => sExtract t i
  | .call c => sCall P c
  | _ => sNone

noncomputable def stepA (env : Env) (h : Heap) (o : Oper) : Option Step := stepOp P o.op env h

/-- Functions without a body, by their names. -/
noncomputable def externA (name : String) (args : List V) : Option V :=
  match name == "internal/bytealg.IndexByteString", args with
  | true, [.str s, .int .u8 c] => match s.findIdx? (· == UInt8.ofNat c.toNat) with
    | some i => some (.int .i64 i)
    | none => some (.int .i64 (-1))
  | _, _ => none

/-- Operations that look at no memory. -/
def quietOp : Op → Bool
  | .move _ | .assign _ | .pick _ _ _ | .build _ _ | .unOp _ _ _ | .makeInterface _ _ | .makeFunc _ _ _ | .extract _ _ | .field _ _ _ | .fieldAddr _ _ _ | .indexAddr _ _ _
  | .index _ _ _ | .nilCheck _ => true
  | _ => false

/-- Loads, in a region whose order is open, may stand anywhere among stores to other blocks. -/
def readOp : Op → Bool
  | .load _ _ => true
  | _ => false
def writeOp : Op → Bool
  | .store _ _ _ => true
  | _ => false
def writeAt (ops : Array Oper) (i : Nat) : Bool :=
  match ops[i]? with
  | some p => writeOp p.op
  | none => false

def orderedAt (ops : Array Oper) (b : Array Nat) (i : Nat) : Bool :=
  (List.range ops.size).all fun j => match ops[j]? with
    | none => true
    | some o => quietOp o.op || Nat.beq i j || (b.getD i 0).testBit j || (b.getD j 0).testBit i || (readOp o.op && writeAt ops i)

/-- No operation from here on writes the slot. -/
def settled (ops : Array Oper) (x : Operand) (i : Nat) : Bool :=
  match x with
  | .tmp t => (List.range ops.size).all fun k => Nat.blt k i || match ops[k]? with
    | some p => !(p.dst == some t)
    | none => true
  | _ => true

/-- Each slot of a region is written once, and who looks at it comes before or after by an edge; edges lead back. -/
def slotOk (ops : Array Oper) (b : Array Nat) (i : Nat) (t : Tmp) : Bool :=
  (List.range ops.size).all fun j => Nat.beq i j || match ops[j]? with
    | none => true
    | some p => !(p.dst == some t) && (!(p.looksAt ops).contains t || (b.getD j 0).testBit i || (b.getD i 0).testBit j)
def slotsOk (ops : Array Oper) : Bool :=
  let b := Region.before ops
  (List.range ops.size).all fun i => match ops[i]? with
    | none => true
    | some o => (o.after.toList.all fun e => !Region.binds .any e || Nat.blt e.on i) && (match o.dst with
      | none => true
      | some t => slotOk ops b i t)

/-- For each operation of a region: must it be just there? -/
def planA (ops : Array Oper) : List Bool :=
  let b := Region.before ops
  (List.range ops.size).map fun i => orderedAt ops b i

noncomputable def guardA (ops : Array Oper) (env : Env) (j : Nat) (want : Bool) : Option Bool :=
  match ops[j]? with
  | some g => match g.dst with
    | some d => match env.get d with
      | some (.bool b) => some (b == want)
      | some _ => some false
      | none => none
    | none => some false
  | none => some false
noncomputable def wantedA (ops : Array Oper) (env : Env) (o : Oper) : Option Bool :=
  match o.guard with
  | none => some true
  | some g => guardA ops env g.1 g.2

/-- A value into its temporary. -/
noncomputable def putA (n : Nat) (env : Env) (dst : Option Tmp) (v : V) : Option Env :=
  match dst with
  | none => some env
  | some d => match Nat.blt d n with
    | true => some (env.set d v)
    | false => none

abbrev Res := Out × Env × Heap
abbrev Rets := List (V × Heap)

noncomputable def bindA {α β : Type} (f : α → Option (List β)) (l : List α) : Option (List β) :=
  List.rec (motive := fun _ => Option (List β)) (some []) (fun x _ ih => match f x, ih with
    | some ys, some zs => some (app ys zs)
    | _, _ => none) l

noncomputable def mapL {α β : Type} (f : α → β) (l : List α) : List β := List.rec (motive := fun _ => List β) [] (fun x _ ih => f x :: ih) l

noncomputable def putOne (n : Nat) (env : Env) (dst : Option Tmp) (v : V) (h : Heap) : Option (List (Env × Heap)) :=
  match putA n env dst v with
  | some env' => some [(env', h)]
  | none => none
noncomputable def putMany (n : Nat) (env : Env) (dst : Option Tmp) (l : List (V × Heap)) : Option (List (Env × Heap)) :=
  match l with
  | [(v, h)] => putOne n env dst v h
  | l => bindA (fun p => putOne n env dst p.1 p.2) l
/-- What an operation's step leaves. -/
noncomputable def leaveA (call : FuncId → List V → Heap → Option Rets) (n : Nat) (env : Env) (h : Heap) (dst : Option Tmp) (s : Step) : Option (List (Env × Heap)) :=
  match s with
  | .value v h' => putOne n env dst v h'
  | .skip h' => putOne n env dst (.tuple []) h'
  | .many l => putMany n env dst l
  | .call f args => match call f args h with
    | none => none
    | some rs => putMany n env dst rs
noncomputable def runOper (call : FuncId → List V → Heap → Option Rets) (n : Nat) (o : Oper) (env : Env) (h : Heap) : Option (List (Env × Heap)) :=
  match stepA P env h o with
  | none => none
  | some s => leaveA call n env h o.dst s
/-- One operation, calls by 'call'. -/
noncomputable def operA (call : FuncId → List V → Heap → Option Rets) (n : Nat) (ops : Array Oper) (o : Oper) (env : Env) (h : Heap) : Option (List (Env × Heap)) :=
  match wantedA ops env o with
  | none => none
  | some false => putOne n env o.dst (.tuple []) h
  | some true => runOper P call n o env h

/-- Operations in the text's order. -/
noncomputable def opsA (call : FuncId → List V → Heap → Option Rets) (n : Nat) (ops : Array Oper) (l : List Oper) : Env → Heap → Option (List (Env × Heap)) :=
  List.rec (motive := fun _ => Env → Heap → Option (List (Env × Heap))) (fun env h => some [(env, h)])
    (fun o _ ih env h => match operA P call n ops o env h with
      | none => none
      | some [(env', h')] => ih env' h'
      | some l => bindA (fun (env', h') => ih env' h') l) l

/-- Operations of a region whose order is open: one that isn't just there writes only what it made itself. -/
noncomputable def openOpsA (call : FuncId → List V → Heap → Option Rets) (n : Nat) (ops : Array Oper) (l : List (Oper × Bool)) : Env → Heap → Option (Env × Heap) :=
  List.rec (motive := fun _ => Env → Heap → Option (Env × Heap)) (fun env h => some (env, h))
    (fun ob _ ih env h => match ob with
      | (o, true) => match operA P call n ops o env h with
        | some [(env', h')] => ih env' h'
        | _ => none
      | (o, false) => match operA P call n ops o env { h with lim := h.next } with
        | some [(env', h')] => ih env' { h' with lim := h.lim }
        | _ => none) l

noncomputable def resultA (env : Env) (h : Heap) (l : List ResultVar) : Option (List V) :=
  List.rec (motive := fun _ => Option (List V)) (some []) (fun r _ ih => match r, ih with
    | .tmp t, some vs => match env.get t with
      | some v => some (v :: vs)
      | none => none
    | .cell a t, some vs => match env.get a with
      | none => none
      | some p => match loadA P h t p with
        | some v => some (v :: vs)
        | none => none
    | _, none => none) l

def oneOrTuple : List V → V
  | [v] => v
  | vs => .tuple vs

noncomputable def argsEnv (l : List V) : Nat → Env → Env :=
  List.rec (motive := fun _ => Nat → Env → Env) (fun _ env => env) (fun v _ ih i env => ih (i + 1) (env.set i v)) l

noncomputable def endA (fn : Func) (r : Res) : Option Rets :=
  match r with
  | (.exit _, _, _) => none
  | (_, env, h') => match resultA P env h' fn.results.toList with
    | some vs => some [(oneOrTuple vs, h')]
    | none => none
noncomputable def endsA (fn : Func) (rs : List Res) : Option Rets :=
  match rs with
  | [r] => endA P fn r
  | rs => bindA (endA P fn) rs
noncomputable def bodyA (rec : Nat → Code → Env → Heap → Option (List Res)) (fn : Func) (body : Code) (args : List V) (h : Heap) : Option Rets :=
  match Nat.ble (lenL args) fn.ntmps with
  | false => none
  | true => match rec fn.ntmps body (argsEnv args 0 .leaf) h with
    | none => none
    | some rs => endsA P fn rs
/-- A call, its body by 'rec'. -/
noncomputable def callA (rec : Nat → Code → Env → Heap → Option (List Res)) (f : FuncId) (args : List V) (h : Heap) : Option Rets :=
  match P.funcs[f]? with
  | none => none
  | some fn => match fn.body with
    | none => match externA fn.name args with
      | some v => some [(v, h)]
      | none => none
    | some body => bodyA P rec fn body args h

/-- What follows, where a piece is left as usual. -/
noncomputable def thenA (next : Env → Heap → Option (List Res)) (r : Res) : Option (List Res) :=
  match r with
  | (.normal, env, h) => next env h
  | r => some [r]
noncomputable def thensA (next : Env → Heap → Option (List Res)) (rs : List Res) : Option (List Res) :=
  match rs with
  | [r] => thenA next r
  | rs => bindA (thenA next) rs
def normalA (p : Env × Heap) : Res := (.normal, p.1, p.2)
def leaveBlock (id : Nat) (r : Res) : Res :=
  match r with
  | (.exit i, env, h) => match Nat.beq i id with
    | true => (.normal, env, h)
    | false => (.exit i, env, h)
  | r => r

noncomputable def cRegion (call : FuncId → List V → Heap → Option Rets) (ops : Array Oper) (n : Nat) (env : Env) (h : Heap) : Option (List Res) :=
  match opsA P call n ops ops.toList env h with
  | none => none
  | some l => some (mapL normalA l)
/-- Do two addresses name two blocks? -/
def twoBlocks (x y : Option V) : Bool :=
  match x, y with
  | some (.ptr (some a)), some (.ptr (some b)) => !Nat.beq a.1 b.1
  | _, _ => false
noncomputable def apartPair (ops : Array Oper) (env : Env) (i : Nat) (j : Nat) : Bool :=
  match ops[i]?, ops[j]? with
  | some o, some p => match o.op, p.op with
    | .store _ x _, .load _ y => settled ops x i && settled ops y j && twoBlocks (evalA env x) (evalA env y)
    | _, _ => true
  | _, _ => true
/-- Stores and loads that stand in no order name two blocks. -/
noncomputable def apartOk (ops : Array Oper) (env : Env) : Bool :=
  let b := Region.before ops
  (List.range ops.size).all fun i => !writeAt ops i || (List.range ops.size).all fun j => (b.getD i 0).testBit j || (b.getD j 0).testBit i || apartPair ops env i j

noncomputable def cOpen (call : FuncId → List V → Heap → Option Rets) (ops : Array Oper) (n : Nat) (env : Env) (h : Heap) : Option (List Res) :=
  match slotsOk ops with
  | false => none
  | true => match openOpsA P call n ops (ops.toList.zip (planA ops)) env h with
    | none => none
    | some p => match apartOk ops p.1 with
      | true => some [normalA p]
      | false => none
noncomputable def cSeq (rec : Nat → Code → Env → Heap → Option (List Res)) (a b : Code) (n : Nat) (env : Env) (h : Heap) : Option (List Res) :=
  match rec n a env h with
  | none => none
  | some rs => thensA (rec n b) rs
noncomputable def cCond (rec : Nat → Code → Env → Heap → Option (List Res)) (c : Operand) (a b : Code) (n : Nat) (env : Env) (h : Heap) : Option (List Res) :=
  match evalA env c with
  | some (.bool t) => match t with
    | true => rec n a env h
    | false => rec n b env h
  | _ => none
noncomputable def cBlock (rec : Nat → Code → Env → Heap → Option (List Res)) (id : Nat) (c : Code) (n : Nat) (env : Env) (h : Heap) : Option (List Res) :=
  match rec n c env h with
  | none => none
  | some rs => some (mapL (leaveBlock id) rs)
noncomputable def cLoop (rec : Nat → Code → Env → Heap → Option (List Res)) (c : Code) (n : Nat) (env : Env) (h : Heap) : Option (List Res) :=
  match rec n c env h with
  | none => none
  | some rs => thensA (rec n (.loop c)) rs
def cDone (o : Out) (_ : Nat) (env : Env) (h : Heap) : Option (List Res) := some [(o, env, h)]
def cNone (_ : Nat) (_ : Env) (_ : Heap) : Option (List Res) := none

/-- A piece of code, its parts by 'rec', its calls by 'call'. -/
noncomputable def codeA (call : FuncId → List V → Heap → Option Rets) (rec : Nat → Code → Env → Heap → Option (List Res)) (n : Nat) (c : Code) : Env → Heap → Option (List Res) :=
  match c with
  | .skip => cDone .normal n
  | .region _ ops draw => match draw with
    | false => cRegion P call ops n
    | true => cOpen P call ops n
  | .seq a b => cSeq rec a b n
  | .cond c a b => cCond rec c a b n
  | .block id c => cBlock rec id c n
  | .loop c => cLoop rec c n
  | .exit id => cDone (.exit id) n
  | .ret => cDone .ret n
  | .label _ => cDone .normal n
  | _ => cNone n

noncomputable def execA (k : Nat) : Nat → Code → Env → Heap → Option (List Res) :=
  Nat.rec (motive := fun _ => Nat → Code → Env → Heap → Option (List Res)) (fun _ _ _ _ => none) (fun _ ih => codeA P (callA P ih) ih) k

/-- A call, where some functions' answers are known ahead. -/
noncomputable def callH (hook : FuncId → Option (List V → Heap → Option Rets)) (rec : Nat → Code → Env → Heap → Option (List Res)) (f : FuncId) : List V → Heap → Option Rets :=
  match hook f with
  | none => callA P rec f
  | some g => g

noncomputable def execH (hook : FuncId → Option (List V → Heap → Option Rets)) (k : Nat) : Nat → Code → Env → Heap → Option (List Res) :=
  Nat.rec (motive := fun _ => Nat → Code → Env → Heap → Option (List Res)) (fun _ _ _ _ => none) (fun _ ih => codeA P (callH P hook ih) ih) k

end
end Go.Abs
