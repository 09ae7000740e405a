/- The abstract machine: an IR with types resolved, its memory, its operations, its big-step runs. -/
import Derived.RangeFuncIn
import Derived.OrdersIn
import Derived.LoopNIn
import Derived.Below
import Derived.KernelRfl
namespace Go.RS
open Go

abbrev Fr := Nat → Value
def upd (fr : Fr) (i : Nat) (v : Value) : Fr := fun j => if j = i then v else fr j
def putF (fr : Fr) (d : Option Nat) (v : Value) : Fr := match d with | some i => upd fr i v | none => fr

inductive Opd where
  | t (n : Nat)
  | c (v : Value)
  deriving Inhabited
def Opd.ev (fr : Fr) : Opd → Value
  | .t n => fr n
  | .c v => v

/-- From here on: the capacity of a slice whose real capacity is not known (and the cells of one element). -/
def openCap : Nat := 2 ^ 64

inductive EqK where | slice | map | func | ptr
  deriving DecidableEq
/-- Kinds of atoms; the shape of what is compared: an atom, or an aggregate of atoms. -/
inductive AK where | int | bool | str
  deriving DecidableEq
inductive KS where
  | one (k : AK)
  | agg (ks : List AK)

inductive AOp where
  | mov (x : Opd)
  | pick (c a b : Opd)
  | alloc (zero : List Value)
  | box (x : Opd)
  | build (zero : List Value) (parts : List (Nat × Nat × Opd))
  | buildSlice (len : Nat) (zero : List Value) (parts : List (Nat × Nat × Opd))
  | load (agg : Option Nat) (addr : Opd)
  | store (n : Nat) (addr x : Opd)
  | nilCheck (x : Opd)
  | bin (op : BinOp) (x y : Opd)
  | eqBool (neg : Bool) (x y : Opd)
  | eqAgg (neg : Bool) (ks : List AK) (x y : Opd)
  | eqNil (k : EqK) (neg : Bool) (x y : Opd)
  | un (op : UnOp) (x : Opd)
  | conv (k : IntKind) (x : Opd)
  | makeFunc (fn : Nat) (first captured : List Opd)
  | makeMap
  | makeSlice (zero : List Value) (bytes : Nat) (len cap : Opd)
  | sliceS (esize : Nat) (x : Opd) (lo hi mx : Option Opd)
  | sliceA (n esize : Nat) (x : Opd) (lo hi mx : Option Opd)
  | fieldAddr (off : Nat) (x : Opd)
  | part (off : Nat) (agg : Option Nat) (x : Opd)
  | indexAddrA (n esize : Nat) (x i : Opd)
  | indexAddrS (esize : Nat) (x i : Opd)
  | indexA (n esize : Nat) (agg : Option Nat) (x i : Opd)
  | indexStr (x i : Opd)
  | lookup (flat : KS) (zero : Value) (ok : Bool) (m k : Opd)
  | mapUpdate (flat : KS) (m k x : Opd)
  | mapEntry (flat : KS) (zero : Value) (m k : Opd)
  | entryStore (m s x : Opd)
  | extract (x : Opd) (i : Nat)
  | len (str : Bool) (x : Opd)
  | lenC (n : Nat)
  | append (esize bytes : Nat) (s x : Opd)
  | minmax (mx : Bool) (x : Opd) (more : List Opd)
  | call (f : Opd) (args : List Opd)
  | bad
  deriving Inhabited

structure AOper where
  dst : Option Nat
  op : AOp
  guard : Option (Nat × Bool)
  seqd : Bool
  late : List Opd
  deriving Inhabited

inductive ACode where
  | skip
  | region (drawn : Bool) (ops : List AOper)
  | seq (a b : ACode)
  | cond (c : Opd) (a b : ACode)
  | block (id : Nat) (c : ACode)
  | loop (c : ACode)
  | rangeFunc (f : Opd) (params : List Nat) (assign body : ACode)
  | exit (id : Nat)
  | scope (c : ACode)
  | ret
  | bad
  deriving Inhabited

inductive Jump where | exit (id : Nat) | ret
inductive AExit where | normal | exit (id : Nat) | ret
def AExit.jump : AExit → Option Jump
  | .normal => none | .exit id => some (.exit id) | .ret => some .ret
def Jump.exit' : Jump → AExit
  | .exit id => .exit id | .ret => .ret
def AExit.leave (id : Nat) : AExit → AExit
  | .exit i => if i = id then .normal else .exit i
  | e => e
def AExit.goesOn : AExit → Bool
  | .normal => true
  | _ => false
def AExit.stateAfter : AExit → LoopState
  | .normal => .ready
  | _ => .done
def pendExit : Option Jump → AExit
  | none => .normal
  | some j => j.exit'

structure ALoop where
  fr : Fr
  params : List Nat
  assign : ACode
  body : ACode
  state : LoopState
  pending : Option Jump

inductive AObj where
  | cells (c : List Value)
  | map (es : List (Value × Value × Nat)) (clock : Nat)
  | loop (l : ALoop)
  | junk
abbrev AH := Array AObj

def ptr (b o : Nat) : Value := .pointer (some ⟨b, o, none⟩)
def cellAt (h : AH) (b o : Nat) : Option Value :=
  match h[b]? with | some (.cells c) => c[o]? | _ => none
def cellsAt (h : AH) (b o n : Nat) : Option (List Value) :=
  match h[b]? with | some (.cells c) => if o + n ≤ c.length then some ((c.drop o).take n) else none | _ => none
def splice (c : List Value) (o : Nat) (vs : List Value) : List Value := c.take o ++ vs ++ c.drop (o + vs.length)
def setCells (lo : Nat) (h : AH) (b o : Nat) (vs : List Value) : Option AH :=
  match h[b]? with
  | some (.cells c) => if lo ≤ b ∧ o + vs.length ≤ c.length then some (h.setIfInBounds b (.cells (splice c o vs))) else none
  | _ => none
def scal : Value → Bool
  | .agg _ | .tuple _ => false
  | _ => true
def fillL : List (Nat × Nat × Value) → List Value → Option (List Value)
  | [], c => some c
  | (off, size, v) :: r, c =>
    if v.cells.size = size ∧ off + size ≤ c.length then fillL r (splice c off v.cells.toList) else none

def atomEq : AK → Value → Value → Option Bool
  | .int, .int k a, .int k' b => if k = k' then some (a == b) else none
  | .bool, .bool a, .bool b => some (a == b)
  | .str, .string a, .string b => some (a == b)
  | _, _, _ => none
def atomsEq : List AK → List Value → List Value → Option Bool
  | [], [], [] => some true
  | k :: ks, x :: xs, y :: ys => match atomEq k x y, atomsEq ks xs ys with | some a, some b => some (a && b) | _, _ => none
  | _, _, _ => none
/-- Equality of keys: atoms, or aggregates of atoms. -/
def keyEq (s : KS) (x y : Value) : Option Bool :=
  match s, x, y with
  | .one k, x, y => atomEq k x y
  | .agg ks, .agg xs, .agg ys => atomsEq ks xs.toList ys.toList
  | _, _, _ => none
def keyOk (s : KS) (x : Value) : Bool := keyEq s x x == some true
def findK (flat : KS) (k : Value) : List (Value × Value × Nat) → Nat → Option (Option (Nat × Value))
  | [], _ => some none
  | e :: es, i => match keyEq flat k e.1 with
    | some true => some (some (i, e.2.1))
    | some false => findK flat k es (i + 1)
    | none => none

def binInt (op : BinOp) (k : IntKind) (a b : Int) : Option Value :=
  match op with
  | .add => some (.int k (k.wrap (a + b)))
  | .sub => some (.int k (k.wrap (a - b)))
  | .mul => some (.int k (k.wrap (a * b)))
  | .quo => if b = 0 then none else some (.int k (k.wrap (a.tdiv b)))
  | .rem => if b = 0 then none else some (.int k (a.tmod b))
  | .eql => some (.bool (a == b))
  | .neq => some (.bool (a != b))
  | .lss => some (.bool (a < b))
  | .leq => some (.bool (a ≤ b))
  | .gtr => some (.bool (a > b))
  | .geq => some (.bool (a ≥ b))
  | _ => none
def binStr (op : BinOp) (a b : ByteArray) : Option Value :=
  match op with
  | .add => if a.size + b.size ≤ 2 ^ 62 then some (.string (a ++ b)) else none
  | .eql => some (.bool (a.toList == b.toList))
  | .neq => some (.bool (!(a.toList == b.toList)))
  | .lss => some (.bool (Op.bytesLess a.toList b.toList))
  | .leq => some (.bool (Op.bytesLess a.toList b.toList || a.toList == b.toList))
  | .gtr => some (.bool (!(Op.bytesLess a.toList b.toList || a.toList == b.toList)))
  | .geq => some (.bool (!Op.bytesLess a.toList b.toList))
  | _ => none
def binA (op : BinOp) (x y : Value) : Option Value :=
  match x, y with
  | .int k a, .int k' b => if k = k' then binInt op k a b else none
  | .string a, .string b => binStr op a b
  | _, _ => none
def unA (op : UnOp) (x : Value) : Option Value :=
  match op, x with
  | .neg, .int k n => some (.int k (k.wrap (0 - n)))
  | .not, .bool b => some (.bool !b)
  | _, _ => none
def isNil (k : EqK) (x : Value) : Option Bool :=
  match k, x with
  | .slice, .slice a _ _ => some a.isNone
  | .map, .map a => some a.isNone
  | .func, .nilFunc => some true
  | .func, .func _ _ _ => some false
  | .ptr, .pointer a => some a.isNone
  | _, _ => none
def eqNilA (k : EqK) (x y : Value) : Option Bool :=
  match isNil k x, isNil k y with
  | some true, some b => some b
  | some false, some true => some false
  | _, _ => none
def minmax2 (mx : Bool) (x y : Value) : Option Value :=
  match x, y with
  | .int k a, .int k' b => if k = k' then some (.int k (if mx then (if a < b then b else a) else (if b < a then b else a))) else none
  | _, _ => none

def bound (x : Value) (y : Nat) : Option Nat :=
  match x with
  | .int _ i => if 0 ≤ i ∧ i ≤ y then some i.toNat else none
  | _ => none
def optBound (x : Option Value) (y dflt : Nat) : Option Nat :=
  match x with | none => some dflt | some v => bound v y
/-- low, high, max of a slice expression. -/
def slBounds (len cap : Nat) (lo hi mx : Option Value) : Option (Nat × Nat × Nat) :=
  match optBound mx (if openCap ≤ cap then len else cap) cap with
  | none => none
  | some m =>
    match (match hi, mx with
        | some v, some _ => bound v m
        | some v, none => bound v (if openCap ≤ cap then len else cap)
        | none, none => some len
        | none, some _ => none) with
    | none => none
    | some hh =>
      match optBound lo hh 0 with
      | none => none
      | some l => some (l, hh, m)
def addA (a : Addr) (n : Nat) : Addr := a.add n
def sliceV (esize : Nat) (a : Option Addr) (len cap : Nat) (lo hi mx : Option Value) : Option Value :=
  match slBounds len cap lo hi mx with
  | none => none
  | some (l, hh, m) =>
    if openCap ≤ cap ∧ m = cap then
      (if l = 0 ∨ l < len then some (.slice (a.map (·.add (l * esize))) (hh - l) cap) else none)
    else some (.slice (if m = l then a else a.map (·.add (l * esize))) (hh - l) (m - l))

def elemsOf (h : AH) (esize : Nat) (x : Value) : Option (Nat × List Value) :=
  match x with
  | .slice none n _ => if n = 0 then some (0, []) else none
  | .slice (some ⟨b, o, none⟩) n _ => (cellsAt h b o (n * esize)).map fun c => (n, c)
  | _ => none

def fits (need bytes : Nat) : Bool := 0 < bytes && (2 * need + 192) * bytes ≤ 2 ^ 47

def appendA (lo : Nat) (h : AH) (esize bytes : Nat) (s x : Value) : Option (Value × AH) :=
  match elemsOf h esize x with
  | none => none
  | some (n, new) =>
    match s with
    | .slice none sl sc =>
      if sl = 0 ∧ sc = 0 then
        (if n = 0 then some (.slice none 0 0, h)
         else if fits n bytes then some (.slice (some ⟨h.size, 0, none⟩) n (openCap + esize), h.push (.cells new)) else none)
      else none
    | .slice (some ⟨b, o, none⟩) sl sc =>
      if n = 0 then (if sl ≤ sc then some (.slice (some ⟨b, o, none⟩) sl sc, h) else none)
      else if openCap ≤ sc then
        match h[b]? with
        | some (.cells c) =>
          if sc = openCap + esize ∧ esize ≠ 0 ∧ lo ≤ b ∧ o + sl * esize = c.length ∧ fits (sl + n) bytes = true ∧ new.all scal = true then
            some (.slice (some ⟨h.size, 0, none⟩) (sl + n) (openCap + esize), (h.setIfInBounds b .junk).push (.cells (c.drop o ++ new)))
          else none
        | _ => none
      else if sl + n ≤ sc then
        if new.all scal = true then (setCells lo h b (o + sl * esize) new).map fun h' => (.slice (some ⟨b, o, none⟩) (sl + n) sc, h') else none
      else
        match cellsAt h b o (sl * esize) with
        | some old => if fits (sl + n) bytes then some (.slice (some ⟨h.size, 0, none⟩) (sl + n) (openCap + esize), h.push (.cells (old ++ new))) else none
        | none => none
    | _ => none

def partL (c : List Value) (off : Nat) : Option Nat → Option Value
  | none => c[off]?
  | some n => some (.agg (((c.drop off).take n).toArray))

def mapEs (h : AH) (m : Value) : Option (List (Value × Value × Nat)) :=
  match m with
  | .map none => some []
  | .map (some r) => (match h[r]? with | some (.map es _) => some es | _ => none)
  | _ => none
def lookRes (ok : Bool) (z : Value) (f : Option (Nat × Value)) : Value :=
  match f with
  | some (_, v) => if ok then .tuple #[v, .bool true] else v
  | none => if ok then .tuple #[z, .bool false] else z
def updMap (h : AH) (r : Nat) (es : List (Value × Value × Nat)) (clock : Nat) (k x : Value) (f : Option (Nat × Value)) : AH :=
  match f with
  | some (i, _) => h.setIfInBounds r (.map (es.modify i fun e => (k, x, e.2.2)) clock)
  | none => h.setIfInBounds r (.map (es ++ [(k, x, clock)]) (clock + 1))
def entMap (h : AH) (r : Nat) (es : List (Value × Value × Nat)) (clock : Nat) (k z : Value) (f : Option (Nat × Value)) : Value × AH :=
  match f with
  | some (i, v) => (.tuple #[v, .int .i64 (((es[i]?).map (·.2.2)).getD 0)], h.setIfInBounds r (.map (es.modify i fun e => (k, e.2)) clock))
  | none => (.tuple #[z, .int .i64 clock], h.setIfInBounds r (.map (es ++ [(k, z, clock)]) (clock + 1)))

def aop (lo : Nat) (op : AOp) (fr : Fr) (h : AH) : Option (Value × AH) :=
  match op with
  | .mov x => some (x.ev fr, h)
  | .pick c a b => match c.ev fr with | .bool t => some (if t then a.ev fr else b.ev fr, h) | _ => none
  | .alloc z => some (ptr h.size 0, h.push (.cells z))
  | .box x => some (ptr h.size 0, h.push (.cells (x.ev fr).cells.toList))
  | .build z ps => (fillL (ps.map fun p => (p.1, p.2.1, p.2.2.ev fr)) z).map fun c => (.agg c.toArray, h)
  | .buildSlice n z ps => (fillL (ps.map fun p => (p.1, p.2.1, p.2.2.ev fr)) z).map fun c => (.slice (some ⟨h.size, 0, none⟩) n n, h.push (.cells c))
  | .load none a => match a.ev fr with | .pointer (some ⟨b, o, none⟩) => (cellAt h b o).map fun v => (v, h) | _ => none
  | .load (some n) a => match a.ev fr with | .pointer (some ⟨b, o, none⟩) => (cellsAt h b o n).map fun c => (.agg c.toArray, h) | _ => none
  | .store n a x => match a.ev fr with
    | .pointer (some ⟨b, o, none⟩) =>
      if (x.ev fr).cells.size = n ∧ (x.ev fr).cells.toList.all scal = true then (setCells lo h b o (x.ev fr).cells.toList).map fun h' => (undef, h') else none
    | _ => none
  | .nilCheck x => match x.ev fr with | .pointer (some a) => some (.pointer (some a), h) | _ => none
  | .bin op x y => (binA op (x.ev fr) (y.ev fr)).map fun v => (v, h)
  | .eqBool neg x y => match x.ev fr, y.ev fr with | .bool a, .bool b => some (.bool (if neg then !(a == b) else a == b), h) | _, _ => none
  | .eqAgg neg n x y => (keyEq (.agg n) (x.ev fr) (y.ev fr)).map fun b => (.bool (if neg then !b else b), h)
  | .eqNil k neg x y => (eqNilA k (x.ev fr) (y.ev fr)).map fun b => (.bool (if neg then !b else b), h)
  | .un op x => (unA op (x.ev fr)).map fun v => (v, h)
  | .conv k x => match x.ev fr with | .int _ n => some (.int k (k.wrap n), h) | _ => none
  | .makeFunc fn first cap => some (.func (.func fn) (first.map (·.ev fr)).toArray (cap.map (·.ev fr)).toArray, h)
  | .makeMap => some (.map (some h.size), h.push (.map [] 0))
  | .makeSlice z bytes len cap => match len.ev fr, cap.ev fr with
    | .int .i64 l, .int .i64 c =>
      if 0 ≤ l ∧ l ≤ c ∧ c.toNat * bytes ≤ 2 ^ 40 ∧ c.toNat ≤ 2 ^ 40 then
        some (.slice (some ⟨h.size, 0, none⟩) l.toNat c.toNat, h.push (.cells ((List.range (c.toNat * z.length)).map fun i => z.getD (i % z.length) undef)))
      else none
    | _, _ => none
  | .sliceS e x lo' hi mx => match x.ev fr with
    | .slice a len cap => if (a.isSome ∨ (len = 0 ∧ cap = 0)) ∧ (cap < openCap ∨ cap = openCap ∨ cap = openCap + e) then (sliceV e a len cap (lo'.map (·.ev fr)) (hi.map (·.ev fr)) (mx.map (·.ev fr))).map fun v => (v, h) else none
    | _ => none
  | .sliceA n e x lo' hi mx => match x.ev fr with
    | .pointer (some a) => (sliceV e (some a) n n (lo'.map (·.ev fr)) (hi.map (·.ev fr)) (mx.map (·.ev fr))).map fun v => (v, h)
    | _ => none
  | .fieldAddr off x => match x.ev fr with | .pointer (some a) => some (.pointer (some (a.add off)), h) | _ => none
  | .part off agg x => match x.ev fr with
    | .agg cs => (partL cs.toList off agg).map fun v => (v, h)
    | _ => none
  | .indexAddrA n e x i => match x.ev fr, i.ev fr with
    | .pointer (some a), .int _ k => if 0 ≤ k ∧ k < n then some (.pointer (some (a.add (k.toNat * e))), h) else none
    | _, _ => none
  | .indexAddrS e x i => match x.ev fr, i.ev fr with
    | .slice (some a) len _, .int _ k => if 0 ≤ k ∧ k < len then some (.pointer (some (a.add (k.toNat * e))), h) else none
    | _, _ => none
  | .indexA n e agg x i => match x.ev fr, i.ev fr with
    | .agg cs, .int _ k => if 0 ≤ k ∧ k < n then (partL cs.toList (k.toNat * e) agg).map fun v => (v, h) else none
    | _, _ => none
  | .indexStr x i => match x.ev fr, i.ev fr with
    | .string s, .int _ k => if 0 ≤ k then (s[k.toNat]?).map fun b => (.int .u8 b.toNat, h) else none
    | _, _ => none
  | .lookup flat z ok m k =>
    match mapEs h (m.ev fr) with
    | none => none
    | some es => if keyOk flat (k.ev fr) = false then none else (findK flat (k.ev fr) es 0).map fun f => (lookRes ok z f, h)
  | .mapUpdate flat m k x => match m.ev fr with
    | .map (some r) => if lo ≤ r ∧ keyOk flat (k.ev fr) = true then (match h[r]? with
      | some (.map es clock) => (findK flat (k.ev fr) es 0).map fun f => (undef, updMap h r es clock (k.ev fr) (x.ev fr) f)
      | _ => none) else none
    | _ => none
  | .mapEntry flat z m k => match m.ev fr with
    | .map (some r) => if lo ≤ r ∧ keyOk flat (k.ev fr) = true then (match h[r]? with
      | some (.map es clock) => (findK flat (k.ev fr) es 0).map fun f => entMap h r es clock (k.ev fr) z f
      | _ => none) else none
    | _ => none
  | .entryStore m s x => match m.ev fr, s.ev fr with
    | .map (some r), .int _ born => if lo ≤ r then (match h[r]? with
      | some (.map es clock) => (match es.findIdx? (fun e => (e.2.2 : Int) == born) with
        | some i => some (undef, h.setIfInBounds r (.map (es.modify i fun e => (e.1, x.ev fr, e.2.2)) clock))
        | none => none)
      | _ => none) else none
    | _, _ => none
  | .extract x i => match x.ev fr with | .tuple vs => (vs[i]?).map fun v => (v, h) | _ => none
  | .len false x => match x.ev fr with | .slice _ n _ => some (.int .i64 n, h) | _ => none
  | .len true x => match x.ev fr with | .string s => some (.int .i64 s.size, h) | _ => none
  | .lenC n => some (.int .i64 n, h)
  | .append e bytes s x => appendA lo h e bytes (s.ev fr) (x.ev fr)
  | .minmax mx x more => (more.foldlM (fun a y => minmax2 mx a (y.ev fr)) (x.ev fr)).map fun v => (v, h)
  | .call _ _ | .bad => none

def wantedA (g : Option (Nat × Bool)) (fr : Fr) : Bool :=
  match g with
  | none => true
  | some (s, want) => match fr s with | .bool b => b == want | _ => false

/-- Operations that never turn a block that lay. -/
def AOp.still : AOp → Bool
  | .store .. | .mapUpdate .. | .mapEntry .. | .entryStore .. | .append .. | .call .. => false
  | _ => true

structure AFn where
  ntmps : Nat
  results : List (Nat × Option (Option Nat))
  body : ACode

/-- A result: a slot, or the variable whose address lies in a slot. -/
def resultA (fr : Fr) (h : AH) (r : Nat × Option (Option Nat)) : Option Value :=
  match r.2 with
  | none => some (fr r.1)
  | some agg => match fr r.1 with
    | .pointer (some ⟨b, o, none⟩) => (match agg with
      | none => cellAt h b o
      | some n => (cellsAt h b o n).map fun c => .agg c.toArray)
    | _ => none
def resultsA (rs : List (Nat × Option (Option Nat))) (fr : Fr) (h : AH) : Option Value :=
  match rs.mapM (resultA fr h) with
  | some [v] => some v
  | some vs => some (.tuple vs.toArray)
  | none => none

def argsFr (args : List Value) : Fr := fun i => args.getD i undef
def setParams (fr : Fr) : List Nat → List Value → Fr
  | p :: ps, v :: vs => setParams (upd fr p v) ps vs
  | _, _ => fr

def Grow (h h1 : AH) : Prop := h.size ≤ h1.size ∧ ∀ b, b < h.size → h1[b]? = h[b]?

inductive Cfg where
  | ops (l : List AOper) (fr : Fr) (h : AH)
  | opsD (l : List AOper) (fr : Fr) (h : AH)
  | code (c : ACode) (fr : Fr) (h : AH)
  | fn (v : Value) (args : List Value) (h : AH)
inductive Res where
  | fr (e : AExit) (fr : Fr) (h : AH)
  | v (v : Value) (h : AH)

/-- Does a store to this block leave these addresses' blocks alone? -/
def lateOk (o : AOper) (fr : Fr) : Prop :=
  match o.op with
  | .store _ a _ => match a.ev fr with
    | .pointer (some p) => ∀ x ∈ o.late, match x.ev fr with | .pointer (some q) => q.block ≠ p.block | _ => False
    | _ => False
  | _ => o.late = []

/-- Less is known of memory. -/
def Less (h h' : AH) : Prop := h'.size = h.size ∧ ∀ b : Nat, h'[b]? = h[b]? ∨ (b < h.size ∧ h'[b]? = some .junk)
/-- The functions' code; calls whose answer is known, and that leave all memory as it is. -/
structure Env where
  fn : Nat → Option AFn
  pure : Nat → List Value → Value → AH → Prop

inductive B (G : Env) (lo : Nat) : Cfg → Res → Prop where
  | ops_nil {fr h} : B G lo (.ops [] fr h) (.fr .normal fr h)
  | ops_skip {o os fr h r} (hw : wantedA o.guard fr = false) (ht : B G lo (.ops os (putF fr o.dst undef) h) r) : B G lo (.ops (o :: os) fr h) r
  | ops_op {o os fr h v h1 r} (hw : wantedA o.guard fr = true) (ho : aop lo o.op fr h = some (v, h1)) (ht : B G lo (.ops os (putF fr o.dst v) h1) r) :
      B G lo (.ops (o :: os) fr h) r
  | ops_call {o os fr h f args v h1 r} (hw : wantedA o.guard fr = true) (he : o.op = .call f args) (ho : B G lo (.fn (f.ev fr) (args.map (·.ev fr)) h) (.v v h1))
      (ht : B G lo (.ops os (putF fr o.dst v) h1) r) : B G lo (.ops (o :: os) fr h) r
  | opsD_nil {fr h} : B G lo (.opsD [] fr h) (.fr .normal fr h)
  | opsD_skip {o os fr h r} (hw : wantedA o.guard fr = false) (ht : B G lo (.opsD os (putF fr o.dst undef) h) r) : B G lo (.opsD (o :: os) fr h) r
  | opsD_op {o os fr h v h1 r} (hw : wantedA o.guard fr = true) (ho : aop lo o.op fr h = some (v, h1)) (hd : o.op.still = true ∨ (o.seqd = true ∧ lateOk o fr))
      (ht : B G lo (.opsD os (putF fr o.dst v) h1) r) : B G lo (.opsD (o :: os) fr h) r
  | opsD_call {o os fr h f args v h1 r} (hw : wantedA o.guard fr = true) (he : o.op = .call f args) (ho : B G lo (.fn (f.ev fr) (args.map (·.ev fr)) h) (.v v h1))
      (hd : Grow h h1 ∨ (o.seqd = true ∧ o.late = []))
      (ht : B G lo (.opsD os (putF fr o.dst v) h1) r) : B G lo (.opsD (o :: os) fr h) r
  | skip {fr h} : B G lo (.code .skip fr h) (.fr .normal fr h)
  | region {ops fr h r} (hb : B G lo (.ops ops fr h) r) : B G lo (.code (.region false ops) fr h) r
  | regionD {ops fr h r} (hb : B G lo (.opsD ops fr h) r) : B G lo (.code (.region true ops) fr h) r
  | seq {a b fr h fr1 h1 r} (ha : B G lo (.code a fr h) (.fr .normal fr1 h1)) (hb : B G lo (.code b fr1 h1) r) : B G lo (.code (.seq a b) fr h) r
  | seq_out {a b fr h e fr1 h1} (ha : B G lo (.code a fr h) (.fr e fr1 h1)) (he : e ≠ .normal) : B G lo (.code (.seq a b) fr h) (.fr e fr1 h1)
  | cond_t {c a b fr h r} (hc : c.ev fr = .bool true) (ha : B G lo (.code a fr h) r) : B G lo (.code (.cond c a b) fr h) r
  | cond_f {c a b fr h r} (hc : c.ev fr = .bool false) (hb : B G lo (.code b fr h) r) : B G lo (.code (.cond c a b) fr h) r
  | block {id c fr h e fr1 h1} (hb : B G lo (.code c fr h) (.fr e fr1 h1)) : B G lo (.code (.block id c) fr h) (.fr (e.leave id) fr1 h1)
  | loop {c fr h fr1 h1 r} (ha : B G lo (.code c fr h) (.fr .normal fr1 h1)) (hb : B G lo (.code (.loop c) fr1 h1) r) : B G lo (.code (.loop c) fr h) r
  | loop_out {c fr h e fr1 h1} (ha : B G lo (.code c fr h) (.fr e fr1 h1)) (he : e ≠ .normal) : B G lo (.code (.loop c) fr h) (.fr e fr1 h1)
  | exit {id fr h} : B G lo (.code (.exit id) fr h) (.fr (.exit id) fr h)
  | ret {fr h} : B G lo (.code .ret fr h) (.fr .ret fr h)
  | scope {c fr h r} (hb : B G lo (.code c fr h) r) : B G lo (.code (.scope c) fr h) r
  | rangeFunc {f ps assign body fr h g first cap v h2 L} (hf : f.ev fr = .func (.func g) first cap)
      (hc : B G lo (.fn (.func (.func g) first cap) [.func (.yield h.size) #[] #[]] (h.push (.loop ⟨fr, ps, assign, body, .ready, none⟩))) (.v v h2))
      (hl : h2[h.size]? = some (.loop L)) (hs : L.state ≠ .busy) :
      B G lo (.code (.rangeFunc f ps assign body) fr h)
        (.fr (pendExit L.pending) fr (h2.setIfInBounds h.size (.loop { L with state := .exhausted })))
  | weak {c fr h h' r} (hk : Less h h') (hb : B G lo (.code c fr h') r) : B G lo (.code c fr h) r
  | fn_pure {f args v h} (hp : G.pure f args v h) : B G lo (.fn (.func (.func f) #[] #[]) args h) (.v v h)
  | fn_func {f first cap args h F e fr1 h1 v} (hG : G.fn f = some F) (hb : B G lo (.code F.body (argsFr (first.toList ++ args ++ cap.toList)) h) (.fr e fr1 h1))
      (hn : (first.toList ++ args ++ cap.toList).length ≤ F.ntmps)
      (he : e = .normal ∨ e = .ret) (hr : resultsA F.results fr1 h1 = some v) : B G lo (.fn (.func (.func f) first cap) args h) (.v v h1)
  | fn_yield {l args h L fr1 h1 L1 e fr2 h2 L2} (hlo : lo ≤ l) (hl : h[l]? = some (.loop L)) (hn : args.length = L.params.length)
      (ha : B G lo (.code L.assign (setParams L.fr L.params args) h) (.fr .normal fr1 h1))
      (hl1 : h1[l]? = some (.loop L1)) (hs : L1.state = .ready)
      (hb : B G lo (.code L.body fr1 (h1.setIfInBounds l (.loop { L1 with state := .busy }))) (.fr e fr2 h2))
      (hl2 : h2[l]? = some (.loop L2)) :
      B G lo (.fn (.func (.yield l) #[] #[]) args h)
        (.v (.bool e.goesOn) (h2.setIfInBounds l (.loop { L2 with state := e.stateAfter, pending := e.jump })))
end Go.RS
