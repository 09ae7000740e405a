/- From the loaded program's code to the abstract IR. -/
import Derived.Test.YtidnkmbicedmjaaDoorSimA
namespace Go.RS
open Go

def closedS : Value → Bool
  | .bool _ | .int _ _ | .string _ | .pointer none | .map none | .nilFunc | .nilIface => true
  | .slice none _ _ => true
  | .func (.func _) f c => f.isEmpty && c.isEmpty
  | _ => false
def closedV : Value → Bool
  | .agg cs => cs.all closedS
  | .tuple cs => cs.all closedS
  | v => closedS v

def lowOpd (P : Program) : Operand → Option Opd
  | .tmp t => some (.t t)
  | .const v => if closedV v then some (.c v) else none
  | .global g => if g < P.globals.size then some (.c (ptr g 0)) else none
  | .func f => some (.c (.func (.func f) #[] #[]))

def szOf (P : Program) (t : TypeId) : Option Nat := (P.info? t).map (·.size)
def bytesOf' (P : Program) (t : TypeId) : Option Nat := (P.info? t).map (·.bytes)
def zeroOf (P : Program) (t : TypeId) : Option Value := (P.info? t).bind (·.zero)
def isAggD : TypeDesc → Bool
  | .struct _ | .array _ _ => true
  | _ => false
def aggSz (P : Program) (t : TypeId) : Option (Option Nat) :=
  (P.underlying t).bind fun d => if isAggD d then (szOf P t).map some else some none

def atomK : TypeDesc → Option AK
  | .bool => some .bool
  | .int _ => some .int
  | .string => some .str
  | _ => none
def flatF (P : Program) (rc : TypeId → Option (List AK)) : List Field → Nat → Option (List AK)
  | [], _ => some []
  | f :: fs, off =>
    if f.name ≠ "_" ∧ f.offset = off then
      (rc f.type).bind fun ks => if szOf P f.type = some ks.length then (flatF P rc fs (off + ks.length)).map (ks ++ ·) else none
    else none
/-- The kinds of the cells of a type that holds atoms alone, one behind the other. -/
def flatT (P : Program) : Nat → TypeId → Option (List AK)
  | 0, _ => none
  | d + 1, t =>
    match P.underlying t with
    | some (.struct fs) => if P.stoodInHeld t then none else flatF P (flatT P d) fs.toList 0
    | some (.array n e) =>
      (flatT P d e).bind fun ks => if szOf P e = some ks.length then some (List.replicate n ks).flatten else none
    | some desc => (atomK desc).bind fun k => if szOf P t = some 1 then some [k] else none
    | none => none
def keyShape (P : Program) (t : TypeId) : Option KS :=
  (P.underlying t).bind fun d => match atomK d with
    | some k => some (.one k)
    | none => if isAggD d then (flatT P 50 t).map .agg else none

def eqOp (P : Program) (neg : Bool) (t : TypeId) (x y : Opd) : Option AOp :=
  (P.underlying t).bind fun d => match d with
    | .int _ | .string => some (.bin (if neg then .neq else .eql) x y)
    | .bool => some (.eqBool neg x y)
    | .slice _ => some (.eqNil .slice neg x y)
    | .map _ _ => some (.eqNil .map neg x y)
    | .func _ _ _ => some (.eqNil .func neg x y)
    | .struct _ | .array _ _ => if P.eqGuardType P.depth t then none else (flatT P 50 t).map fun ks => .eqAgg neg ks x y
    | _ => none

def lowBin (P : Program) (op : BinOp) (t : TypeId) (x y : Opd) : Option AOp :=
  match op with
  | .eql => eqOp P false t x y
  | .neq => eqOp P true t x y
  | .add | .sub | .mul | .quo | .rem | .lss | .leq | .gtr | .geq => some (.bin op x y)
  | _ => none

def placesOf (P : Program) (t : TypeId) : Option (Nat → Option (Nat × Nat)) :=
  (P.underlying t).bind fun d => match d with
    | .struct fs => if fs.all fun f => (P.info? f.type).isSome then some fun i => (fs[i]?).bind fun f => (szOf P f.type).map fun s => (f.offset, s) else none
    | .array _ e => (szOf P e).map fun s i => some (i * s, s)
    | _ => none
def lowParts (P : Program) (place : Nat → Option (Nat × Nat)) : List (Nat × Operand) → Option (List (Nat × Nat × Opd))
  | [] => some []
  | (i, x) :: r => do
    let (off, s) ← place i
    let x ← lowOpd P x
    let r ← lowParts P place r
    some ((off, s, x) :: r)

def lowOpt (P : Program) : Option Operand → Option (Option Opd)
  | none => some none
  | some x => (lowOpd P x).map some
def lowList (P : Program) : List Operand → Option (List Opd)
  | [] => some []
  | x :: r => do let x ← lowOpd P x; let r ← lowList P r; some (x :: r)

def lowBuiltin (P : Program) (b : Builtin) (c : Call) : Option AOp :=
  match b with
  | .len =>
    match c.argTypes.toList, c.args.toList with
    | t :: _, [x] => do
      let d ← P.underlying t
      let x ← lowOpd P x
      match d with
      | .string => some (.len true x)
      | .slice _ => some (.len false x)
      | .array n _ => some (.lenC n)
      | _ => none
    | _, _ => none
  | .append =>
    match c.argTypes.toList, c.args.toList with
    | [t, u], [s, x] => do
      let d ← P.underlying t
      let du ← P.underlying u
      match d, du with
      | .slice e, .slice _ => do
        let i ← P.info? e
        if (i.zero.map fun z => decide (z.cells.size = i.size)).getD false then some (.append i.size i.bytes (← lowOpd P s) (← lowOpd P x)) else none
      | _, _ => none
    | _, _ => none
  | .min => match c.args.toList with
    | x :: r => do some (.minmax false (← lowOpd P x) (← lowList P r))
    | [] => none
  | .max => match c.args.toList with
    | x :: r => do some (.minmax true (← lowOpd P x) (← lowList P r))
    | [] => none
  | _ => none
def lowCall (P : Program) (c : Call) : Option AOp :=
  match c.callee with
  | .value f => do some (.call (← lowOpd P f) (← lowList P c.args.toList))
  | .invoke _ _ => none
  | .builtin b => lowBuiltin P b c

def lowOp (P : Program) (o : Op) : Option AOp :=
  match o with
  | .move x | .assign x => (lowOpd P x).map .mov
  | .pick c a b => do some (.pick (← lowOpd P c) (← lowOpd P a) (← lowOpd P b))
  | .alloc t => (zeroOf P t).bind fun z => if z.cells.all closedS then some (.alloc z.cells.toList) else none
  | .box _ x => (lowOpd P x).map .box
  | .build t parts => do
    let z ← zeroOf P t
    let place ← placesOf P t
    let ps ← lowParts P place parts.toList
    if z.cells.all closedS then some (.build z.cells.toList ps) else none
  | .buildSlice t n parts => do
    let .slice e ← P.underlying t | none
    let s ← szOf P e
    let z ← zeroOf P e
    let ps ← lowParts P (fun i => some (i * s, s)) parts.toList
    if z.cells.all closedS ∧ n * s ≤ 2 ^ 24 ∧ z.cells.size = s ∧ s ≠ 0 then
      some (.buildSlice n ((List.range (n * s)).map fun i => z.cells.toList.getD (i % s) undef) ps) else none
  | .load t a => do some (.load (← aggSz P t) (← lowOpd P a))
  | .store t a x => do some (.store (← szOf P t) (← lowOpd P a) (← lowOpd P x))
  | .nilCheck x => (lowOpd P x).map .nilCheck
  | .binOp op t x y _ => do lowBin P op t (← lowOpd P x) (← lowOpd P y)
  | .unOp op _ x => (lowOpd P x).map (.un op)
  | .convert s d x => do
    let .int _ ← P.underlying s | none
    let .int k ← P.underlying d | none
    some (.conv k (← lowOpd P x))
  | .makeFunc (.func f) first cap => do some (.makeFunc f (← lowList P first.toList) (← lowList P cap.toList))
  | .makeMap _ none => some .makeMap
  | .makeSlice t l c => do
    let .slice e ← P.underlying t | none
    let i ← P.info? e
    let z ← i.zero
    if z.cells.all closedS ∧ z.cells.size = i.size ∧ i.size ≠ 0 then some (.makeSlice z.cells.toList i.bytes (← lowOpd P l) (← lowOpd P c)) else none
  | .slice t x lo hi mx => do
    let d ← P.underlying t
    let x ← lowOpd P x
    let lo ← lowOpt P lo
    let hi ← lowOpt P hi
    let mx ← lowOpt P mx
    match d with
    | .array n e => do if n < openCap then some (.sliceA n (← szOf P e) x lo hi mx) else none
    | .slice e => do some (.sliceS (← szOf P e) x lo hi mx)
    | _ => none
  | .fieldAddr s x f => do
    let .struct fs ← P.underlying s | none
    let f ← fs[f]?
    let n ← szOf P f.type
    if n = 0 then none else some (.fieldAddr f.offset (← lowOpd P x))
  | .field t x f => do
    let .struct fs ← P.underlying t | none
    let f ← fs[f]?
    some (.part f.offset (← aggSz P f.type) (← lowOpd P x))
  | .indexAddr t x i => do
    let d ← P.underlying t
    let x ← lowOpd P x
    let i ← lowOpd P i
    match d with
    | .array n e => do some (.indexAddrA n (← szOf P e) x i)
    | .slice e => do some (.indexAddrS (← szOf P e) x i)
    | _ => none
  | .index t x i => do
    let d ← P.underlying t
    let x ← lowOpd P x
    let i ← lowOpd P i
    match d with
    | .array n e => do some (.indexA n (← szOf P e) (← aggSz P e) x i)
    | .string => some (.indexStr x i)
    | _ => none
  | .lookup t m k ok => do
    let .map kt e ← P.underlying t | none
    let z ← zeroOf P e
    if closedV z then some (.lookup (← keyShape P kt) z ok (← lowOpd P m) (← lowOpd P k)) else none
  | .mapUpdate t m k x | .insert t m k x => do
    let .map kt _ ← P.underlying t | none
    some (.mapUpdate (← keyShape P kt) (← lowOpd P m) (← lowOpd P k) (← lowOpd P x))
  | .mapEntry t m k => do
    let .map kt e ← P.underlying t | none
    let z ← zeroOf P e
    if closedV z then some (.mapEntry (← keyShape P kt) z (← lowOpd P m) (← lowOpd P k)) else none
  | .entryStore _ m s x => do some (.entryStore (← lowOpd P m) (← lowOpd P s) (← lowOpd P x))
  | .extract x i => do some (.extract (← lowOpd P x) i)
  | .call c => lowCall P c
  | _ => none

/-- Slots that an operation reads or writes, its guard's slot among them. -/
def opdSlots (x : Operand) : List Nat := match x with | .tmp t => [t] | _ => []
def guardSlot (ops : Array Oper) (o : Oper) : Option (Option (Nat × Bool)) :=
  match o.guard with
  | none => some none
  | some (j, want) => ((ops[j]?).bind (·.dst)).map fun d => some (d, want)
def readsOf (ops : Array Oper) (o : Oper) : List Nat :=
  o.op.operands.toList.flatMap opdSlots ++ (match o.guard with | some (j, _) => ((ops[j]?).bind (·.dst)).toList | none => [])

/-- Does an operation look at memory, or turn it? -/
def AOp.sens : AOp → Bool
  | .load .. | .store .. | .lookup .. | .mapUpdate .. | .mapEntry .. | .entryStore .. | .append .. | .call .. | .bad => true
  | _ => false
def AOp.addr? : AOp → Option Opd
  | .load _ a => some a
  | .store _ a _ => some a
  | _ => none

def lowOper (P : Program) (N : Nat) (ops : Array Oper) (o : Oper) : Option (AOp × Option (Nat × Bool)) := do
  let op ← lowOp P o.op
  let g ← guardSlot ops o
  if o.dst.all (· < N) then some (op, g) else none

def badOper : AOper := { dst := none, op := .bad, guard := none, seqd := false, late := [] }

/-- Are two operations of a drawn region (i before j in the text) bound to that order? -/
def ordB (b : Array Nat) (i j : Nat) : Bool := (b.getD j 0).testBit i
/-- For each pair i < j: the order is bound, or no slot of one is written by the other. -/
def slotsOk (b : Array Nat) (ops : Array Oper) : Bool :=
  (List.range ops.size).all fun j => (List.range j).all fun i =>
    ordB b i j ||
    (match ops[i]?, ops[j]? with
     | some x, some y =>
       (match x.dst with | some d => !(readsOf ops y).contains d && y.dst != some d | none => true) &&
       (match y.dst with | some d => !(readsOf ops x).contains d | none => true)
     | _, _ => false)
def edgesOk (ops : Array Oper) : Bool :=
  (List.range ops.size).all fun j => match ops[j]? with
    | some o => o.after.all fun e => !Region.binds .any e || e.on < j
    | none => true
/-- Does an operation look at memory, turn it, or make a block? -/
def AOp.mem : AOp → Bool
  | .alloc .. | .box .. | .buildSlice .. | .makeSlice .. | .makeMap => true
  | op => op.sens
def unbound (b : Array Nat) (low : Array AOp) (j i : Nat) : Bool := !(i == j || ordB b i j || ordB b j i || !(low.getD i .bad).mem)
/-- A load that need not come before a store: its address. -/
def lateCand (low : Array AOp) (ops : Array Oper) (j i : Nat) : Option Opd :=
  match low.getD j .bad, low.getD i .bad with
  | .store _ _ _, .load _ a =>
    if i < j && (match a with
        | .t s => (List.range low.size).all fun k => k < i || ((ops[k]?).bind (·.dst)) != some s
        | .c _ => true) then some a else none
  | _, _ => none
def seqOf (b : Array Nat) (low : Array AOp) (ops : Array Oper) (j : Nat) : Bool :=
  (List.range low.size).all fun i => !(unbound b low j i) || (lateCand low ops j i).isSome
def lateList (b : Array Nat) (low : Array AOp) (ops : Array Oper) (j : Nat) : List Opd :=
  (List.range low.size).filterMap fun i => if unbound b low j i then lateCand low ops j i else none
def opdSlot : Opd → List Nat
  | .t s => [s]
  | .c _ => []
def AOp.opds : AOp → List Opd
  | .mov x | .box x | .nilCheck x | .un _ x | .conv _ x | .fieldAddr _ x | .part _ _ x | .extract x _ | .len _ x => [x]
  | .pick c a b => [c, a, b]
  | .alloc _ | .makeMap | .lenC _ | .bad => []
  | .build _ ps | .buildSlice _ _ ps => ps.map (·.2.2)
  | .load _ a => [a]
  | .store _ a x => [a, x]
  | .bin _ x y | .eqBool _ x y | .eqAgg _ _ x y | .eqNil _ _ x y => [x, y]
  | .makeFunc _ f c => f ++ c
  | .makeSlice _ _ l c => [l, c]
  | .sliceS _ x lo hi mx | .sliceA _ _ x lo hi mx => x :: (lo.toList ++ hi.toList ++ mx.toList)
  | .indexAddrA _ _ x i | .indexAddrS _ x i | .indexA _ _ _ x i | .indexStr x i => [x, i]
  | .lookup _ _ _ m k => [m, k]
  | .mapUpdate _ m k x => [m, k, x]
  | .mapEntry _ _ m k => [m, k]
  | .entryStore m s x => [m, s, x]
  | .append _ _ s x => [s, x]
  | .minmax _ x r => x :: r
  | .call f as => f :: as

def lowText (P : Program) (N : Nat) (ops : Array Oper) (o : Oper) : AOper :=
  match lowOper P N ops o with
  | some (op, g) => { dst := o.dst, op, guard := g, seqd := false, late := [] }
  | none => badOper
def lowsOf (P : Program) (N : Nat) (ops : Array Oper) : Array AOp := ops.map fun o => ((lowOper P N ops o).map (·.1)).getD .bad
def lowDrawn (P : Program) (N : Nat) (ops : Array Oper) (j : Nat) (o : Oper) : AOper :=
  match lowOper P N ops o with
  | some (op, g) => { dst := o.dst, op, guard := g, seqd := seqOf (Region.before ops) (lowsOf P N ops) ops j, late := lateList (Region.before ops) (lowsOf P N ops) ops j }
  | none => badOper
/-- Does the drawn order leave the slots alone, and is each operation understood? -/
def drawOk (P : Program) (N : Nat) (ops : Array Oper) : Bool :=
  slotsOk (Region.before ops) ops && edgesOk ops &&
  ops.all fun o => match lowOper P N ops o with
    | some (op, _) => op.opds.all fun x => (opdSlot x).all fun s => (readsOf ops o).contains s
    | none => false
def lowRegion (P : Program) (N : Nat) (ops : Array Oper) (draw : Bool) : List AOper :=
  if draw = false then ops.toList.map (lowText P N ops)
  else if drawOk P N ops then ops.toList.zipIdx.map fun p => lowDrawn P N ops p.2 p.1
  else [badOper]

def lowC (P : Program) (N : Nat) : Code → ACode
  | .skip => .skip
  | .region _ ops draw => .region draw (lowRegion P N ops draw)
  | .seq a b => .seq (lowC P N a) (lowC P N b)
  | .cond c a b => match lowOpd P c with | some c => .cond c (lowC P N a) (lowC P N b) | none => .bad
  | .block id c => .block id (lowC P N c)
  | .loop c => .loop (lowC P N c)
  | .rangeFunc f ps a b => match lowOpd P f with
    | some f => if ps.all (· < N) then .rangeFunc f ps.toList (lowC P N a) (lowC P N b) else .bad
    | none => .bad
  | .exit id => .exit id
  | .scope c => .scope (lowC P N c)
  | .label _ => .skip
  | .goto _ => .bad
  | .ret => .ret
  | .refuse _ => .bad

def lowRes (P : Program) : ResultVar → Option (Nat × Option (Option Nat))
  | .tmp t => some (t, none)
  | .cell a t => (aggSz P t).map fun s => (a, some s)
def lowFn (P : Program) (f : Nat) : Option AFn := do
  let fn ← P.funcs[f]?
  let c ← fn.body
  let rs ← fn.results.toList.mapM (lowRes P)
  if fn.name == "runtime.NumGoroutine" then none else
  some { ntmps := fn.ntmps, results := rs, body := lowC P fn.ntmps c }
end Go.RS
