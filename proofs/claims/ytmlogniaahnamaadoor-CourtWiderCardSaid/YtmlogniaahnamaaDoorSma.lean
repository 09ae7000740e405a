/- The abstract machine: an IR with types resolved, its memory, its operations, its big-step runs. -/
import Derived.RangeFuncIn
import Derived.OrdersIn
import Derived.LoopNIn
import Derived.Below
import Derived.KernelRfl
import Derived.Laws.Append
import Derived.Laws.CopyRow
import Derived.ChangeKeysEq
import Derived.Laws.Entries
import Derived.Laws.StructEq
import Derived.Laws.Slices
import Derived.IntWalk
set_option linter.all false
namespace Go.RS
open Go

abbrev Fr := Nat → Value
def upd (fr : Fr) (i : Nat) (v : Value) : Fr := fun j => if j = i then v else fr j
def putF (fr : Fr) (d : Option Nat) (v : Value) : Fr := match d with | some i => upd fr i v | none => fr

inductive Opd where
  | t (n : Nat)
  | c (v : Value)
  deriving Inhabited
def Opd.ev (fr : Fr) : Opd → Value
  | .t n => fr n
  | .c v => v

/-- From here on: the capacity of a slice whose real capacity is not known (and the cells of one element). -/
def openCap : Nat := 2 ^ 64

inductive EqK where | slice | map | func | ptr
  deriving DecidableEq
/-- Kinds of atoms; the shape of what is compared: an atom, or an aggregate of atoms. -/
inductive AK where | int | bool | str
  deriving DecidableEq
inductive KS where
  | one (k : AK)
  | agg (ks : List AK)

inductive AOp where
  | mov (x : Opd)
  | pick (c a b : Opd)
  | alloc (zero : List Value)
  | box (x : Opd)
  | build (zero : List Value) (parts : List (Nat × Nat × Opd))
  | buildSlice (len : Nat) (zero : List Value) (parts : List (Nat × Nat × Opd))
  | load (agg : Option Nat) (addr : Opd)
  | store (n : Nat) (addr x : Opd)
  | nilCheck (x : Opd)
  | bin (op : BinOp) (x y : Opd)
  | eqBool (neg : Bool) (x y : Opd)
  | eqAgg (neg : Bool) (ks : List AK) (x y : Opd)
  | eqNil (k : EqK) (neg : Bool) (x y : Opd)
  | un (op : UnOp) (x : Opd)
  | conv (k : IntKind) (x : Opd)
  | makeFunc (fn : Nat) (first captured : List Opd)
  | makeMap
  | makeSlice (zero : List Value) (bytes : Nat) (len cap : Opd)
  | sliceS (esize : Nat) (x : Opd) (lo hi mx : Option Opd)
  | sliceA (n esize : Nat) (x : Opd) (lo hi mx : Option Opd)
  | fieldAddr (off : Nat) (x : Opd)
  | part (off : Nat) (agg : Option Nat) (x : Opd)
  | indexAddrA (n esize : Nat) (x i : Opd)
  | indexAddrS (esize : Nat) (x i : Opd)
  | indexA (n esize : Nat) (agg : Option Nat) (x i : Opd)
  | indexStr (x i : Opd)
  | lookup (flat : KS) (zero : Value) (ok : Bool) (m k : Opd)
  | mapUpdate (flat : KS) (m k x : Opd)
  | mapEntry (flat : KS) (zero : Value) (m k : Opd)
  | entryStore (m s x : Opd)
  | extract (x : Opd) (i : Nat)
  | len (str : Bool) (x : Opd)
  | lenC (n : Nat)
  | append (esize bytes : Nat) (s x : Opd)
  | minmax (mx : Bool) (x : Opd) (more : List Opd)
  | call (f : Opd) (args : List Opd)
  | bad
  deriving Inhabited

structure AOper where
  dst : Option Nat
  op : AOp
  guard : Option (Nat × Bool)
  seqd : Bool
  late : List Opd
  deriving Inhabited

inductive ACode where
  | skip
  | region (drawn : Bool) (ops : List AOper)
  | seq (a b : ACode)
  | cond (c : Opd) (a b : ACode)
  | block (id : Nat) (c : ACode)
  | loop (c : ACode)
  | rangeFunc (f : Opd) (params : List Nat) (assign body : ACode)
  | exit (id : Nat)
  | scope (c : ACode)
  | ret
  | bad
  deriving Inhabited

inductive Jump where | exit (id : Nat) | ret
inductive AExit where | normal | exit (id : Nat) | ret
def AExit.jump : AExit → Option Jump
  | .normal => none | .exit id => some (.exit id) | .ret => some .ret
def Jump.exit' : Jump → AExit
  | .exit id => .exit id | .ret => .ret
def AExit.leave (id : Nat) : AExit → AExit
  | .exit i => if i = id then .normal else .exit i
  | e => e
def AExit.goesOn : AExit → Bool
  | .normal => true
  | _ => false
def AExit.stateAfter : AExit → LoopState
  | .normal => .ready
  | _ => .done
def pendExit : Option Jump → AExit
  | none => .normal
  | some j => j.exit'

structure ALoop where
  fr : Fr
  params : List Nat
  assign : ACode
  body : ACode
  state : LoopState
  pending : Option Jump

inductive AObj where
  | cells (c : List Value)
  | map (es : List (Value × Value × Nat)) (clock : Nat)
  | loop (l : ALoop)
  | junk
abbrev AH := Array AObj

def ptr (b o : Nat) : Value := .pointer (some ⟨b, o, none⟩)
def cellAt (h : AH) (b o : Nat) : Option Value :=
  match h[b]? with | some (.cells c) => c[o]? | _ => none
def cellsAt (h : AH) (b o n : Nat) : Option (List Value) :=
  match h[b]? with | some (.cells c) => if o + n ≤ c.length then some ((c.drop o).take n) else none | _ => none
def splice (c : List Value) (o : Nat) (vs : List Value) : List Value := c.take o ++ vs ++ c.drop (o + vs.length)
def setCells (lo : Nat) (h : AH) (b o : Nat) (vs : List Value) : Option AH :=
  match h[b]? with
  | some (.cells c) => if lo ≤ b ∧ o + vs.length ≤ c.length then some (h.setIfInBounds b (.cells (splice c o vs))) else none
  | _ => none
def scal : Value → Bool
  | .agg _ | .tuple _ => false
  | _ => true
def fillL : List (Nat × Nat × Value) → List Value → Option (List Value)
  | [], c => some c
  | (off, size, v) :: r, c =>
    if v.cells.size = size ∧ off + size ≤ c.length then fillL r (splice c off v.cells.toList) else none

def atomEq : AK → Value → Value → Option Bool
  | .int, .int k a, .int k' b => if k = k' then some (a == b) else none
  | .bool, .bool a, .bool b => some (a == b)
  | .str, .string a, .string b => some (a == b)
  | _, _, _ => none
def atomsEq : List AK → List Value → List Value → Option Bool
  | [], [], [] => some true
  | k :: ks, x :: xs, y :: ys => match atomEq k x y, atomsEq ks xs ys with | some a, some b => some (a && b) | _, _ => none
  | _, _, _ => none
/-- Equality of keys: atoms, or aggregates of atoms. -/
def keyEq (s : KS) (x y : Value) : Option Bool :=
  match s, x, y with
  | .one k, x, y => atomEq k x y
  | .agg ks, .agg xs, .agg ys => atomsEq ks xs.toList ys.toList
  | _, _, _ => none
def keyOk (s : KS) (x : Value) : Bool := keyEq s x x == some true
def findK (flat : KS) (k : Value) : List (Value × Value × Nat) → Nat → Option (Option (Nat × Value))
  | [], _ => some none
  | e :: es, i => match keyEq flat k e.1 with
    | some true => some (some (i, e.2.1))
    | some false => findK flat k es (i + 1)
    | none => none

def binInt (op : BinOp) (k : IntKind) (a b : Int) : Option Value :=
  match op with
  | .add => some (.int k (k.wrap (a + b)))
  | .sub => some (.int k (k.wrap (a - b)))
  | .mul => some (.int k (k.wrap (a * b)))
  | .quo => if b = 0 then none else some (.int k (k.wrap (a.tdiv b)))
  | .rem => if b = 0 then none else some (.int k (a.tmod b))
  | .eql => some (.bool (a == b))
  | .neq => some (.bool (a != b))
  | .lss => some (.bool (a < b))
  | .leq => some (.bool (a ≤ b))
  | .gtr => some (.bool (a > b))
  | .geq => some (.bool (a ≥ b))
  | .shl => if b < 0 then none else some (.int k (k.wrap (a * 2 ^ min b.toNat k.bits)))
  | .shr => if b < 0 then none else some (.int k (a.fdiv (2 ^ min b.toNat k.bits)))
  | .and => some (.int k (k.wrap (BitVec.ofInt k.bits a &&& BitVec.ofInt k.bits b).toNat))
  | .or => some (.int k (k.wrap (BitVec.ofInt k.bits a ||| BitVec.ofInt k.bits b).toNat))
  | .andNot => some (.int k (k.wrap (BitVec.ofInt k.bits a &&& ~~~BitVec.ofInt k.bits b).toNat))
  | _ => none
def binStr (op : BinOp) (a b : ByteArray) : Option Value :=
  match op with
  | .add => if a.size + b.size ≤ 2 ^ 62 then some (.string (a ++ b)) else none
  | .eql => some (.bool (a.toList == b.toList))
  | .neq => some (.bool (!(a.toList == b.toList)))
  | .lss => some (.bool (Op.bytesLess a.toList b.toList))
  | .leq => some (.bool (Op.bytesLess a.toList b.toList || a.toList == b.toList))
  | .gtr => some (.bool (!(Op.bytesLess a.toList b.toList || a.toList == b.toList)))
  | .geq => some (.bool (!Op.bytesLess a.toList b.toList))
  | _ => none
def binA (op : BinOp) (x y : Value) : Option Value :=
  match x, y with
  | .int k a, .int k' b => if k = k' then binInt op k a b else none
  | .string a, .string b => binStr op a b
  | _, _ => none
def unA (op : UnOp) (x : Value) : Option Value :=
  match op, x with
  | .neg, .int k n => some (.int k (k.wrap (0 - n)))
  | .not, .bool b => some (.bool !b)
  | _, _ => none
def isNil (k : EqK) (x : Value) : Option Bool :=
  match k, x with
  | .slice, .slice a _ _ => some a.isNone
  | .map, .map a => some a.isNone
  | .func, .nilFunc => some true
  | .func, .func _ _ _ => some false
  | .ptr, .pointer a => some a.isNone
  | _, _ => none
def eqNilA (k : EqK) (x y : Value) : Option Bool :=
  match isNil k x, isNil k y with
  | some true, some b => some b
  | some false, some true => some false
  | _, _ => none
def minmax2 (mx : Bool) (x y : Value) : Option Value :=
  match x, y with
  | .int k a, .int k' b => if k = k' then some (.int k (if mx then (if a < b then b else a) else (if b < a then b else a))) else none
  | _, _ => none

def bound (x : Value) (y : Nat) : Option Nat :=
  match x with
  | .int _ i => if 0 ≤ i ∧ i ≤ y then some i.toNat else none
  | _ => none
def optBound (x : Option Value) (y dflt : Nat) : Option Nat :=
  match x with | none => some dflt | some v => bound v y
/-- low, high, max of a slice expression. -/
def slBounds (len cap : Nat) (lo hi mx : Option Value) : Option (Nat × Nat × Nat) :=
  match optBound mx (if openCap ≤ cap then len else cap) cap with
  | none => none
  | some m =>
    match (match hi, mx with
        | some v, some _ => bound v m
        | some v, none => bound v (if openCap ≤ cap then len else cap)
        | none, none => some len
        | none, some _ => none) with
    | none => none
    | some hh =>
      match optBound lo hh 0 with
      | none => none
      | some l => some (l, hh, m)
def sliceV (esize : Nat) (a : Option Addr) (len cap : Nat) (lo hi mx : Option Value) : Option Value :=
  match slBounds len cap lo hi mx with
  | none => none
  | some (l, hh, m) =>
    if openCap ≤ cap ∧ m = cap then
      (if l = 0 ∨ l < len then some (.slice (a.map (·.add (l * esize))) (hh - l) cap) else none)
    else some (.slice (if m = l then a else a.map (·.add (l * esize))) (hh - l) (m - l))

def elemsOf (h : AH) (esize : Nat) (x : Value) : Option (Nat × List Value) :=
  match x with
  | .slice none n _ => if n = 0 then some (0, []) else none
  | .slice (some ⟨b, o, none⟩) n _ => (cellsAt h b o (n * esize)).map fun c => (n, c)
  | _ => none

def fits (need bytes : Nat) : Bool := 0 < bytes && (2 * need + 192) * bytes ≤ 2 ^ 47

def appendA (lo : Nat) (h : AH) (esize bytes : Nat) (s x : Value) : Option (Value × AH) :=
  match elemsOf h esize x with
  | none => none
  | some (n, new) =>
    match s with
    | .slice none sl sc =>
      if sl = 0 ∧ sc = 0 then
        (if n = 0 then some (.slice none 0 0, h)
         else if fits n bytes then some (.slice (some ⟨h.size, 0, none⟩) n (openCap + esize), h.push (.cells new)) else none)
      else none
    | .slice (some ⟨b, o, none⟩) sl sc =>
      if n = 0 then (if sl ≤ sc then some (.slice (some ⟨b, o, none⟩) sl sc, h) else none)
      else if openCap ≤ sc then
        match h[b]? with
        | some (.cells c) =>
          if sc = openCap + esize ∧ esize ≠ 0 ∧ lo ≤ b ∧ o + sl * esize = c.length ∧ fits (sl + n) bytes = true ∧ new.all scal = true then
            some (.slice (some ⟨h.size, 0, none⟩) (sl + n) (openCap + esize), (h.setIfInBounds b .junk).push (.cells (c.drop o ++ new)))
          else none
        | _ => none
      else if sl + n ≤ sc then
        if new.all scal = true then (setCells lo h b (o + sl * esize) new).map fun h' => (.slice (some ⟨b, o, none⟩) (sl + n) sc, h') else none
      else
        match cellsAt h b o (sl * esize) with
        | some old => if fits (sl + n) bytes then some (.slice (some ⟨h.size, 0, none⟩) (sl + n) (openCap + esize), h.push (.cells (old ++ new))) else none
        | none => none
    | _ => none

def partL (c : List Value) (off : Nat) : Option Nat → Option Value
  | none => c[off]?
  | some n => some (.agg (((c.drop off).take n).toArray))

def mapEs (h : AH) (m : Value) : Option (List (Value × Value × Nat)) :=
  match m with
  | .map none => some []
  | .map (some r) => (match h[r]? with | some (.map es _) => some es | _ => none)
  | _ => none
def lookRes (ok : Bool) (z : Value) (f : Option (Nat × Value)) : Value :=
  match f with
  | some (_, v) => if ok then .tuple #[v, .bool true] else v
  | none => if ok then .tuple #[z, .bool false] else z
def updMap (h : AH) (r : Nat) (es : List (Value × Value × Nat)) (clock : Nat) (k x : Value) (f : Option (Nat × Value)) : AH :=
  match f with
  | some (i, _) => h.setIfInBounds r (.map (es.modify i fun e => (k, x, e.2.2)) clock)
  | none => h.setIfInBounds r (.map (es ++ [(k, x, clock)]) (clock + 1))
def entMap (h : AH) (r : Nat) (es : List (Value × Value × Nat)) (clock : Nat) (k z : Value) (f : Option (Nat × Value)) : Value × AH :=
  match f with
  | some (i, v) => (.tuple #[v, .int .i64 (((es[i]?).map (·.2.2)).getD 0)], h.setIfInBounds r (.map (es.modify i fun e => (k, e.2)) clock))
  | none => (.tuple #[z, .int .i64 clock], h.setIfInBounds r (.map (es ++ [(k, z, clock)]) (clock + 1)))

def aop (lo : Nat) (op : AOp) (fr : Fr) (h : AH) : Option (Value × AH) :=
  match op with
  | .mov x => some (x.ev fr, h)
  | .pick c a b => match c.ev fr with | .bool t => some (if t then a.ev fr else b.ev fr, h) | _ => none
  | .alloc z => some (ptr h.size 0, h.push (.cells z))
  | .box x => some (ptr h.size 0, h.push (.cells (x.ev fr).cells.toList))
  | .build z ps => (fillL (ps.map fun p => (p.1, p.2.1, p.2.2.ev fr)) z).map fun c => (.agg c.toArray, h)
  | .buildSlice n z ps => (fillL (ps.map fun p => (p.1, p.2.1, p.2.2.ev fr)) z).map fun c => (.slice (some ⟨h.size, 0, none⟩) n n, h.push (.cells c))
  | .load none a => match a.ev fr with | .pointer (some ⟨b, o, none⟩) => (cellAt h b o).map fun v => (v, h) | _ => none
  | .load (some n) a => match a.ev fr with | .pointer (some ⟨b, o, none⟩) => (cellsAt h b o n).map fun c => (.agg c.toArray, h) | _ => none
  | .store n a x => match a.ev fr with
    | .pointer (some ⟨b, o, none⟩) =>
      if (x.ev fr).cells.size = n ∧ (x.ev fr).cells.toList.all scal = true then (setCells lo h b o (x.ev fr).cells.toList).map fun h' => (undef, h') else none
    | _ => none
  | .nilCheck x => match x.ev fr with | .pointer (some a) => some (.pointer (some a), h) | _ => none
  | .bin op x y => (binA op (x.ev fr) (y.ev fr)).map fun v => (v, h)
  | .eqBool neg x y => match x.ev fr, y.ev fr with | .bool a, .bool b => some (.bool (if neg then !(a == b) else a == b), h) | _, _ => none
  | .eqAgg neg n x y => (keyEq (.agg n) (x.ev fr) (y.ev fr)).map fun b => (.bool (if neg then !b else b), h)
  | .eqNil k neg x y => (eqNilA k (x.ev fr) (y.ev fr)).map fun b => (.bool (if neg then !b else b), h)
  | .un op x => (unA op (x.ev fr)).map fun v => (v, h)
  | .conv k x => match x.ev fr with | .int _ n => some (.int k (k.wrap n), h) | _ => none
  | .makeFunc fn first cap => some (.func (.func fn) (first.map (·.ev fr)).toArray (cap.map (·.ev fr)).toArray, h)
  | .makeMap => some (.map (some h.size), h.push (.map [] 0))
  | .makeSlice z bytes len cap => match len.ev fr, cap.ev fr with
    | .int .i64 l, .int .i64 c =>
      if 0 ≤ l ∧ l ≤ c ∧ c.toNat * bytes ≤ 2 ^ 40 ∧ c.toNat ≤ 2 ^ 40 then
        some (.slice (some ⟨h.size, 0, none⟩) l.toNat c.toNat, h.push (.cells ((List.range (c.toNat * z.length)).map fun i => z.getD (i % z.length) undef)))
      else none
    | _, _ => none
  | .sliceS e x lo' hi mx => match x.ev fr with
    | .slice a len cap => if (a.isSome ∨ (len = 0 ∧ cap = 0)) ∧ (cap < openCap ∨ cap = openCap ∨ cap = openCap + e) then (sliceV e a len cap (lo'.map (·.ev fr)) (hi.map (·.ev fr)) (mx.map (·.ev fr))).map fun v => (v, h) else none
    | _ => none
  | .sliceA n e x lo' hi mx => match x.ev fr with
    | .pointer (some a) => (sliceV e (some a) n n (lo'.map (·.ev fr)) (hi.map (·.ev fr)) (mx.map (·.ev fr))).map fun v => (v, h)
    | _ => none
  | .fieldAddr off x => match x.ev fr with | .pointer (some a) => some (.pointer (some (a.add off)), h) | _ => none
  | .part off agg x => match x.ev fr with
    | .agg cs => (partL cs.toList off agg).map fun v => (v, h)
    | _ => none
  | .indexAddrA n e x i => match x.ev fr, i.ev fr with
    | .pointer (some a), .int _ k => if 0 ≤ k ∧ k < n then some (.pointer (some (a.add (k.toNat * e))), h) else none
    | _, _ => none
  | .indexAddrS e x i => match x.ev fr, i.ev fr with
    | .slice (some a) len _, .int _ k => if 0 ≤ k ∧ k < len then some (.pointer (some (a.add (k.toNat * e))), h) else none
    | _, _ => none
  | .indexA n e agg x i => match x.ev fr, i.ev fr with
    | .agg cs, .int _ k => if 0 ≤ k ∧ k < n then (partL cs.toList (k.toNat * e) agg).map fun v => (v, h) else none
    | _, _ => none
  | .indexStr x i => match x.ev fr, i.ev fr with
    | .string s, .int _ k => if 0 ≤ k then (s[k.toNat]?).map fun b => (.int .u8 b.toNat, h) else none
    | _, _ => none
  | .lookup flat z ok m k =>
    match mapEs h (m.ev fr) with
    | none => none
    | some es => if keyOk flat (k.ev fr) = false then none else (findK flat (k.ev fr) es 0).map fun f => (lookRes ok z f, h)
  | .mapUpdate flat m k x => match m.ev fr with
    | .map (some r) => if lo ≤ r ∧ keyOk flat (k.ev fr) = true then (match h[r]? with
      | some (.map es clock) => (findK flat (k.ev fr) es 0).map fun f => (undef, updMap h r es clock (k.ev fr) (x.ev fr) f)
      | _ => none) else none
    | _ => none
  | .mapEntry flat z m k => match m.ev fr with
    | .map (some r) => if lo ≤ r ∧ keyOk flat (k.ev fr) = true then (match h[r]? with
      | some (.map es clock) => (findK flat (k.ev fr) es 0).map fun f => entMap h r es clock (k.ev fr) z f
      | _ => none) else none
    | _ => none
  | .entryStore m s x => match m.ev fr, s.ev fr with
    | .map (some r), .int _ born => if lo ≤ r then (match h[r]? with
      | some (.map es clock) => (match es.findIdx? (fun e => (e.2.2 : Int) == born) with
        | some i => some (undef, h.setIfInBounds r (.map (es.modify i fun e => (e.1, x.ev fr, e.2.2)) clock))
        | none => none)
      | _ => none) else none
    | _, _ => none
  | .extract x i => match x.ev fr with | .tuple vs => (vs[i]?).map fun v => (v, h) | _ => none
  | .len false x => match x.ev fr with | .slice _ n _ => some (.int .i64 n, h) | _ => none
  | .len true x => match x.ev fr with | .string s => some (.int .i64 s.size, h) | _ => none
  | .lenC n => some (.int .i64 n, h)
  | .append e bytes s x => appendA lo h e bytes (s.ev fr) (x.ev fr)
  | .minmax mx x more => (more.foldlM (fun a y => minmax2 mx a (y.ev fr)) (x.ev fr)).map fun v => (v, h)
  | .call _ _ | .bad => none

def wantedA (g : Option (Nat × Bool)) (fr : Fr) : Bool :=
  match g with
  | none => true
  | some (s, want) => match fr s with | .bool b => b == want | _ => false

/-- Operations that never turn a block that lay. -/
def AOp.still : AOp → Bool
  | .store .. | .mapUpdate .. | .mapEntry .. | .entryStore .. | .append .. | .call .. => false
  | _ => true

structure AFn where
  ntmps : Nat
  results : List (Nat × Option (Option Nat))
  body : ACode

/-- A result: a slot, or the variable whose address lies in a slot. -/
def resultA (fr : Fr) (h : AH) (r : Nat × Option (Option Nat)) : Option Value :=
  match r.2 with
  | none => some (fr r.1)
  | some agg => match fr r.1 with
    | .pointer (some ⟨b, o, none⟩) => (match agg with
      | none => cellAt h b o
      | some n => (cellsAt h b o n).map fun c => .agg c.toArray)
    | _ => none
def resultsA (rs : List (Nat × Option (Option Nat))) (fr : Fr) (h : AH) : Option Value :=
  match rs.mapM (resultA fr h) with
  | some [v] => some v
  | some vs => some (.tuple vs.toArray)
  | none => none

def argsFr (args : List Value) : Fr := fun i => args.getD i undef
def setParams (fr : Fr) : List Nat → List Value → Fr
  | p :: ps, v :: vs => setParams (upd fr p v) ps vs
  | _, _ => fr

def Grow (h h1 : AH) : Prop := h.size ≤ h1.size ∧ ∀ b, b < h.size → h1[b]? = h[b]?

inductive Cfg where
  | ops (l : List AOper) (fr : Fr) (h : AH)
  | opsD (l : List AOper) (fr : Fr) (h : AH)
  | code (c : ACode) (fr : Fr) (h : AH)
  | fn (v : Value) (args : List Value) (h : AH)
inductive Res where
  | fr (e : AExit) (fr : Fr) (h : AH)
  | v (v : Value) (h : AH)

/-- An append to it makes a block of its own, or takes the old one's place. -/
def openS : Value → Bool
  | .slice none _ _ => true
  | .slice (some _) _ c => decide (openCap ≤ c)
  | _ => false
def atomV : Value → Bool
  | .int _ _ | .bool _ => true
  | _ => false
/-- What a map says of a key is a number or a truth value, if it says anything. -/
def lookAtom (h : AH) (fl : KS) (m k : Value) : Bool :=
  match mapEs h m with
  | some es => (match findK fl k es 0 with
    | some (some x) => atomV x.2
    | some none => true
    | none => false)
  | none => false
/-- Does a store to this block leave these addresses' blocks alone? -/
def lateOk (o : AOper) (fr : Fr) (h : AH) : Prop :=
  match o.op with
  | .store _ a _ => match a.ev fr with
    | .pointer (some p) => ∀ x ∈ o.late, match x.ev fr with | .pointer (some q) => q.block ≠ p.block | _ => False
    | _ => False
  | .append _ _ s _ => o.late = [] ∨ openS (s.ev fr) = true
  | .mapEntry fl _ m k => o.late = [] ∨ lookAtom h fl (m.ev fr) (k.ev fr) = true
  | _ => o.late = []

/-- Less is known of memory. -/
def Less (h h' : AH) : Prop := h'.size = h.size ∧ ∀ b : Nat, h'[b]? = h[b]? ∨ (b < h.size ∧ h'[b]? = some .junk)
/-- The functions' code; calls whose answer is known, and that leave all memory as it is; calls of which a contract is known. -/
structure Env where
  fn : Nat → Option AFn
  pure : Nat → List Value → Value → AH → Prop
  ext : Nat → Nat → List Value → AH → Value → AH → Prop

inductive B (G : Env) (lo : Nat) : Cfg → Res → Prop where
  | ops_nil {fr h} : B G lo (.ops [] fr h) (.fr .normal fr h)
  | ops_skip {o os fr h r} (hw : wantedA o.guard fr = false) (ht : B G lo (.ops os (putF fr o.dst undef) h) r) : B G lo (.ops (o :: os) fr h) r
  | ops_op {o os fr h v h1 r} (hw : wantedA o.guard fr = true) (ho : aop lo o.op fr h = some (v, h1)) (ht : B G lo (.ops os (putF fr o.dst v) h1) r) :
      B G lo (.ops (o :: os) fr h) r
  | ops_call {o os fr h f args v h1 r} (hw : wantedA o.guard fr = true) (he : o.op = .call f args) (ho : B G lo (.fn (f.ev fr) (args.map (·.ev fr)) h) (.v v h1))
      (ht : B G lo (.ops os (putF fr o.dst v) h1) r) : B G lo (.ops (o :: os) fr h) r
  | opsD_nil {fr h} : B G lo (.opsD [] fr h) (.fr .normal fr h)
  | opsD_skip {o os fr h r} (hw : wantedA o.guard fr = false) (ht : B G lo (.opsD os (putF fr o.dst undef) h) r) : B G lo (.opsD (o :: os) fr h) r
  | opsD_op {o os fr h v h1 r} (hw : wantedA o.guard fr = true) (ho : aop lo o.op fr h = some (v, h1)) (hd : o.op.still = true ∨ Grow h h1 ∨ (o.seqd = true ∧ lateOk o fr h))
      (ht : B G lo (.opsD os (putF fr o.dst v) h1) r) : B G lo (.opsD (o :: os) fr h) r
  | opsD_call {o os fr h f args v h1 r} (hw : wantedA o.guard fr = true) (he : o.op = .call f args) (ho : B G lo (.fn (f.ev fr) (args.map (·.ev fr)) h) (.v v h1))
      (hd : Grow h h1 ∨ (o.seqd = true ∧ o.late = []))
      (ht : B G lo (.opsD os (putF fr o.dst v) h1) r) : B G lo (.opsD (o :: os) fr h) r
  | skip {fr h} : B G lo (.code .skip fr h) (.fr .normal fr h)
  | region {ops fr h r} (hb : B G lo (.ops ops fr h) r) : B G lo (.code (.region false ops) fr h) r
  | regionD {ops fr h r} (hb : B G lo (.opsD ops fr h) r) : B G lo (.code (.region true ops) fr h) r
  | seq {a b fr h fr1 h1 r} (ha : B G lo (.code a fr h) (.fr .normal fr1 h1)) (hb : B G lo (.code b fr1 h1) r) : B G lo (.code (.seq a b) fr h) r
  | seq_out {a b fr h e fr1 h1} (ha : B G lo (.code a fr h) (.fr e fr1 h1)) (he : e ≠ .normal) : B G lo (.code (.seq a b) fr h) (.fr e fr1 h1)
  | cond_t {c a b fr h r} (hc : c.ev fr = .bool true) (ha : B G lo (.code a fr h) r) : B G lo (.code (.cond c a b) fr h) r
  | cond_f {c a b fr h r} (hc : c.ev fr = .bool false) (hb : B G lo (.code b fr h) r) : B G lo (.code (.cond c a b) fr h) r
  | block {id c fr h e fr1 h1} (hb : B G lo (.code c fr h) (.fr e fr1 h1)) : B G lo (.code (.block id c) fr h) (.fr (e.leave id) fr1 h1)
  | loop {c fr h fr1 h1 r} (ha : B G lo (.code c fr h) (.fr .normal fr1 h1)) (hb : B G lo (.code (.loop c) fr1 h1) r) : B G lo (.code (.loop c) fr h) r
  | loop_out {c fr h e fr1 h1} (ha : B G lo (.code c fr h) (.fr e fr1 h1)) (he : e ≠ .normal) : B G lo (.code (.loop c) fr h) (.fr e fr1 h1)
  | exit {id fr h} : B G lo (.code (.exit id) fr h) (.fr (.exit id) fr h)
  | ret {fr h} : B G lo (.code .ret fr h) (.fr .ret fr h)
  | scope {c fr h r} (hb : B G lo (.code c fr h) r) : B G lo (.code (.scope c) fr h) r
  | rangeFunc {f ps assign body fr h g first cap v h2 L} (hf : f.ev fr = .func (.func g) first cap)
      (hc : B G lo (.fn (.func (.func g) first cap) [.func (.yield h.size) #[] #[]] (h.push (.loop ⟨fr, ps, assign, body, .ready, none⟩))) (.v v h2))
      (hl : h2[h.size]? = some (.loop L)) (hs : L.state ≠ .busy) :
      B G lo (.code (.rangeFunc f ps assign body) fr h)
        (.fr (pendExit L.pending) fr (h2.setIfInBounds h.size (.loop { L with state := .exhausted })))
  | weak {c fr h h' r} (hk : Less h h') (hb : B G lo (.code c fr h') r) : B G lo (.code c fr h) r
  | fn_pure {f args v h} (hp : G.pure f args v h) : B G lo (.fn (.func (.func f) #[] #[]) args h) (.v v h)
  | fn_ext {f args h v h1} (hp : G.ext lo f args h v h1) : B G lo (.fn (.func (.func f) #[] #[]) args h) (.v v h1)
  | fn_func {f first cap args h F e fr1 h1 v} (hG : G.fn f = some F) (hb : B G lo (.code F.body (argsFr (first.toList ++ args ++ cap.toList)) h) (.fr e fr1 h1))
      (hn : (first.toList ++ args ++ cap.toList).length ≤ F.ntmps)
      (he : e = .normal ∨ e = .ret) (hr : resultsA F.results fr1 h1 = some v) : B G lo (.fn (.func (.func f) first cap) args h) (.v v h1)
  | fn_yield {l args h L fr1 h1 L1 e fr2 h2 L2} (hlo : lo ≤ l) (hl : h[l]? = some (.loop L)) (hn : args.length = L.params.length)
      (ha : B G lo (.code L.assign (setParams L.fr L.params args) h) (.fr .normal fr1 h1))
      (hl1 : h1[l]? = some (.loop L1)) (hs : L1.state = .ready)
      (hb : B G lo (.code L.body fr1 (h1.setIfInBounds l (.loop { L1 with state := .busy }))) (.fr e fr2 h2))
      (hl2 : h2[l]? = some (.loop L2)) :
      B G lo (.fn (.func (.yield l) #[] #[]) args h)
        (.v (.bool e.goesOn) (h2.setIfInBounds l (.loop { L2 with state := e.stateAfter, pending := e.jump })))
end Go.RS

/- From the loaded program's code to the abstract IR. -/
namespace Go.RS
open Go

def closedS : Value → Bool
  | .bool _ | .int _ _ | .string _ | .pointer none | .map none | .nilFunc | .nilIface => true
  | .slice none _ _ => true
  | .func (.func _) f c => f.isEmpty && c.isEmpty
  | _ => false
def closedV : Value → Bool
  | .agg cs => cs.all closedS
  | .tuple cs => cs.all closedS
  | v => closedS v

def lowOpd (P : Program) : Operand → Option Opd
  | .tmp t => some (.t t)
  | .const v => if closedV v then some (.c v) else none
  | .global g => if g < P.globals.size then some (.c (ptr g 0)) else none
  | .func f => some (.c (.func (.func f) #[] #[]))

def szOf (P : Program) (t : TypeId) : Option Nat := (P.info? t).map (·.size)
def zeroOf (P : Program) (t : TypeId) : Option Value := (P.info? t).bind (·.zero)
def isAggD : TypeDesc → Bool
  | .struct _ | .array _ _ => true
  | _ => false
def aggSz (P : Program) (t : TypeId) : Option (Option Nat) :=
  (P.underlying t).bind fun d => if isAggD d then (szOf P t).map some else some none

def atomK : TypeDesc → Option AK
  | .bool => some .bool
  | .int _ => some .int
  | .string => some .str
  | _ => none
def flatF (P : Program) (rc : TypeId → Option (List AK)) : List Field → Nat → Option (List AK)
  | [], _ => some []
  | f :: fs, off =>
    if f.name ≠ "_" ∧ f.offset = off then
      (rc f.type).bind fun ks => if szOf P f.type = some ks.length then (flatF P rc fs (off + ks.length)).map (ks ++ ·) else none
    else none
/-- The kinds of the cells of a type that holds atoms alone, one behind the other. -/
def flatT (P : Program) : Nat → TypeId → Option (List AK)
  | 0, _ => none
  | d + 1, t =>
    match P.underlying t with
    | some (.struct fs) => if P.stoodInHeld t then none else flatF P (flatT P d) fs.toList 0
    | some (.array n e) =>
      (flatT P d e).bind fun ks => if szOf P e = some ks.length then some (List.replicate n ks).flatten else none
    | some desc => (atomK desc).bind fun k => if szOf P t = some 1 then some [k] else none
    | none => none
def keyShape (P : Program) (t : TypeId) : Option KS :=
  (P.underlying t).bind fun d => match atomK d with
    | some k => some (.one k)
    | none => if isAggD d then (flatT P 50 t).map .agg else none

def eqOp (P : Program) (neg : Bool) (t : TypeId) (x y : Opd) : Option AOp :=
  (P.underlying t).bind fun d => match d with
    | .int _ | .string => some (.bin (if neg then .neq else .eql) x y)
    | .bool => some (.eqBool neg x y)
    | .slice _ => some (.eqNil .slice neg x y)
    | .map _ _ => some (.eqNil .map neg x y)
    | .func _ _ _ => some (.eqNil .func neg x y)
    | .struct _ | .array _ _ => if P.eqGuardType P.depth t then none else (flatT P 50 t).map fun ks => .eqAgg neg ks x y
    | _ => none

def lowBin (P : Program) (op : BinOp) (t : TypeId) (x y : Opd) : Option AOp :=
  match op with
  | .eql => eqOp P false t x y
  | .neq => eqOp P true t x y
  | .add | .sub | .mul | .quo | .rem | .lss | .leq | .gtr | .geq | .shl | .shr | .and | .or | .andNot => some (.bin op x y)
  | _ => none

def placesOf (P : Program) (t : TypeId) : Option (Nat → Option (Nat × Nat)) :=
  (P.underlying t).bind fun d => match d with
    | .struct fs => if fs.all fun f => (P.info? f.type).isSome then some fun i => (fs[i]?).bind fun f => (szOf P f.type).map fun s => (f.offset, s) else none
    | .array _ e => (szOf P e).map fun s i => some (i * s, s)
    | _ => none
def lowParts (P : Program) (place : Nat → Option (Nat × Nat)) : List (Nat × Operand) → Option (List (Nat × Nat × Opd))
  | [] => some []
  | (i, x) :: r => do
    let (off, s) ← place i
    let x ← lowOpd P x
    let r ← lowParts P place r
    some ((off, s, x) :: r)

def lowOpt (P : Program) : Option Operand → Option (Option Opd)
  | none => some none
  | some x => (lowOpd P x).map some
def lowList (P : Program) : List Operand → Option (List Opd)
  | [] => some []
  | x :: r => do let x ← lowOpd P x; let r ← lowList P r; some (x :: r)

def lowBuiltin (P : Program) (b : Builtin) (c : Call) : Option AOp :=
  match b with
  | .len =>
    match c.argTypes.toList, c.args.toList with
    | t :: _, [x] => do
      let d ← P.underlying t
      let x ← lowOpd P x
      match d with
      | .string => some (.len true x)
      | .slice _ => some (.len false x)
      | .array n _ => some (.lenC n)
      | _ => none
    | _, _ => none
  | .append =>
    match c.argTypes.toList, c.args.toList with
    | [t, u], [s, x] => do
      let d ← P.underlying t
      let du ← P.underlying u
      match d, du with
      | .slice e, .slice _ => do
        let i ← P.info? e
        if (i.zero.map fun z => decide (z.cells.size = i.size)).getD false then some (.append i.size i.bytes (← lowOpd P s) (← lowOpd P x)) else none
      | _, _ => none
    | _, _ => none
  | .min => match c.args.toList with
    | x :: r => do some (.minmax false (← lowOpd P x) (← lowList P r))
    | [] => none
  | .max => match c.args.toList with
    | x :: r => do some (.minmax true (← lowOpd P x) (← lowList P r))
    | [] => none
  | _ => none
def lowCall (P : Program) (c : Call) : Option AOp :=
  match c.callee with
  | .value f => do some (.call (← lowOpd P f) (← lowList P c.args.toList))
  | .invoke _ _ => none
  | .builtin b => lowBuiltin P b c

def lowOp (P : Program) (o : Op) : Option AOp :=
  match o with
  | .move x | .assign x => (lowOpd P x).map .mov
  | .pick c a b => do some (.pick (← lowOpd P c) (← lowOpd P a) (← lowOpd P b))
  | .alloc t => (zeroOf P t).bind fun z => if z.cells.all closedS then some (.alloc z.cells.toList) else none
  | .box _ x => (lowOpd P x).map .box
  | .build t parts => do
    let z ← zeroOf P t
    let place ← placesOf P t
    let ps ← lowParts P place parts.toList
    if z.cells.all closedS then some (.build z.cells.toList ps) else none
  | .buildSlice t n parts => do
    let .slice e ← P.underlying t | none
    let s ← szOf P e
    let z ← zeroOf P e
    let ps ← lowParts P (fun i => some (i * s, s)) parts.toList
    if z.cells.all closedS ∧ n * s ≤ 2 ^ 24 ∧ z.cells.size = s ∧ s ≠ 0 then
      some (.buildSlice n ((List.range (n * s)).map fun i => z.cells.toList.getD (i % s) undef) ps) else none
  | .load t a => do some (.load (← aggSz P t) (← lowOpd P a))
  | .store t a x => do some (.store (← szOf P t) (← lowOpd P a) (← lowOpd P x))
  | .nilCheck x => (lowOpd P x).map .nilCheck
  | .binOp op t x y _ => do lowBin P op t (← lowOpd P x) (← lowOpd P y)
  | .unOp op _ x => (lowOpd P x).map (.un op)
  | .convert s d x => do
    let .int _ ← P.underlying s | none
    let .int k ← P.underlying d | none
    some (.conv k (← lowOpd P x))
  | .makeFunc (.func f) first cap => do some (.makeFunc f (← lowList P first.toList) (← lowList P cap.toList))
  | .makeMap _ none => some .makeMap
  | .makeSlice t l c => do
    let .slice e ← P.underlying t | none
    let i ← P.info? e
    let z ← i.zero
    if z.cells.all closedS ∧ z.cells.size = i.size ∧ i.size ≠ 0 then some (.makeSlice z.cells.toList i.bytes (← lowOpd P l) (← lowOpd P c)) else none
  | .slice t x lo hi mx => do
    let d ← P.underlying t
    let x ← lowOpd P x
    let lo ← lowOpt P lo
    let hi ← lowOpt P hi
    let mx ← lowOpt P mx
    match d with
    | .array n e => do if n < openCap then some (.sliceA n (← szOf P e) x lo hi mx) else none
    | .slice e => do some (.sliceS (← szOf P e) x lo hi mx)
    | _ => none
  | .fieldAddr s x f => do
    let .struct fs ← P.underlying s | none
    let f ← fs[f]?
    let n ← szOf P f.type
    if n = 0 then none else some (.fieldAddr f.offset (← lowOpd P x))
  | .field t x f => do
    let .struct fs ← P.underlying t | none
    let f ← fs[f]?
    some (.part f.offset (← aggSz P f.type) (← lowOpd P x))
  | .indexAddr t x i => do
    let d ← P.underlying t
    let x ← lowOpd P x
    let i ← lowOpd P i
    match d with
    | .array n e => do some (.indexAddrA n (← szOf P e) x i)
    | .slice e => do some (.indexAddrS (← szOf P e) x i)
    | _ => none
  | .index t x i => do
    let d ← P.underlying t
    let x ← lowOpd P x
    let i ← lowOpd P i
    match d with
    | .array n e => do some (.indexA n (← szOf P e) (← aggSz P e) x i)
    | .string => some (.indexStr x i)
    | _ => none
  | .lookup t m k ok => do
    let .map kt e ← P.underlying t | none
    let z ← zeroOf P e
    if closedV z then some (.lookup (← keyShape P kt) z ok (← lowOpd P m) (← lowOpd P k)) else none
  | .mapUpdate t m k x | .insert t m k x => do
    let .map kt _ ← P.underlying t | none
    some (.mapUpdate (← keyShape P kt) (← lowOpd P m) (← lowOpd P k) (← lowOpd P x))
  | .mapEntry t m k => do
    let .map kt e ← P.underlying t | none
    let z ← zeroOf P e
    if closedV z then some (.mapEntry (← keyShape P kt) z (← lowOpd P m) (← lowOpd P k)) else none
  | .entryStore _ m s x => do some (.entryStore (← lowOpd P m) (← lowOpd P s) (← lowOpd P x))
  | .extract x i => do some (.extract (← lowOpd P x) i)
  | .call c => lowCall P c
  | _ => none

/-- Slots that an operation reads or writes, its guard's slot among them. -/
def opdSlots (x : Operand) : List Nat := match x with | .tmp t => [t] | _ => []
def guardSlot (ops : Array Oper) (o : Oper) : Option (Option (Nat × Bool)) :=
  match o.guard with
  | none => some none
  | some (j, want) => ((ops[j]?).bind (·.dst)).map fun d => some (d, want)
def readsOf (ops : Array Oper) (o : Oper) : List Nat :=
  o.op.operands.toList.flatMap opdSlots ++ (match o.guard with | some (j, _) => ((ops[j]?).bind (·.dst)).toList | none => [])

/-- Does an operation look at memory, or turn it? -/
def AOp.sens : AOp → Bool
  | .load .. | .store .. | .lookup .. | .mapUpdate .. | .mapEntry .. | .entryStore .. | .append .. | .call .. | .bad => true
  | _ => false
def lowOper (P : Program) (N : Nat) (ops : Array Oper) (o : Oper) : Option (AOp × Option (Nat × Bool)) := do
  let op ← lowOp P o.op
  let g ← guardSlot ops o
  if o.dst.all (· < N) then some (op, g) else none

def badOper : AOper := { dst := none, op := .bad, guard := none, seqd := false, late := [] }

/-- Are two operations of a drawn region (i before j in the text) bound to that order? -/
def ordB (b : Array Nat) (i j : Nat) : Bool := (b.getD j 0).testBit i
/-- For each pair i < j: the order is bound, or no slot of one is written by the other. -/
def slotsOk (b : Array Nat) (ops : Array Oper) : Bool :=
  (List.range ops.size).all fun j => (List.range j).all fun i =>
    ordB b i j ||
    (match ops[i]?, ops[j]? with
     | some x, some y =>
       (match x.dst with | some d => !(readsOf ops y).contains d && y.dst != some d | none => true) &&
       (match y.dst with | some d => !(readsOf ops x).contains d | none => true)
     | _, _ => false)
def edgesOk (ops : Array Oper) : Bool :=
  (List.range ops.size).all fun j => match ops[j]? with
    | some o => o.after.all fun e => !Region.binds .any e || e.on < j
    | none => true
/-- Does an operation look at memory, turn it, or make a block? -/
def AOp.mem : AOp → Bool
  | .alloc .. | .box .. | .buildSlice .. | .makeSlice .. | .makeMap => true
  | op => op.sens
def unbound (b : Array Nat) (low : Array AOp) (j i : Nat) : Bool := !(i == j || ordB b i j || ordB b j i || !(low.getD i .bad).mem)
/-- A load that need not come before a store: its address. -/
def lateCand (low : Array AOp) (ops : Array Oper) (j i : Nat) : Option Opd :=
  match low.getD j .bad, low.getD i .bad with
  | .store _ _ _, .load _ a =>
    if i < j && (match a with
        | .t s => (List.range low.size).all fun k => k < i || ((ops[k]?).bind (·.dst)) != some s
        | .c _ => true) then some a else none
  | _, _ => none
/-- A new variable, made behind a writer in the text, that may be made before it in a run. -/
def AOp.isAlloc : AOp → Bool
  | .alloc _ => true
  | _ => false
/-- An append, and a load behind it in the text that may come before it in a run. -/
def earlyL : AOp → AOp → Bool
  | .append _ _ _ _, .load _ _ => true
  | _, _ => false
def ksEq : KS → KS → Bool
  | .one a, .one b => a == b
  | .agg a, .agg b => a == b
  | _, _ => false
def zEq : Value → Value → Bool
  | .int k n, .int k' n' => k == k' && n == n'
  | .bool a, .bool b => a == b
  | _, _ => false
def opdEq : Opd → Opd → Bool
  | .t a, .t b => a == b
  | _, _ => false
def keptFrom (ops : Array Oper) (i : Nat) : Opd → Bool
  | .t s => (List.range ops.size).all fun k => k < i || ((ops[k]?).bind (·.dst)) != some s
  | .c _ => true
/-- An entry that is made for a key, and a look at the same key ahead of it in the text that may come behind it in a run. -/
def lateLook (low : Array AOp) (ops : Array Oper) (j i : Nat) : Bool :=
  match low.getD j .bad, low.getD i .bad with
  | .mapEntry fl z m k, .lookup fl' z' ok m' k' => i < j && !ok && ksEq fl fl' && zEq z z' && opdEq m m' && opdEq k k' && keptFrom ops i m' && keptFrom ops i k'
  | _, _ => false
def seqOf (b : Array Nat) (low : Array AOp) (ops : Array Oper) (j : Nat) : Bool :=
  (List.range low.size).all fun i => !(unbound b low j i) || (lateCand low ops j i).isSome || (j < i && (low.getD i .bad).isAlloc) || (j < i && earlyL (low.getD j .bad) (low.getD i .bad)) || lateLook low ops j i
def lateList (b : Array Nat) (low : Array AOp) (ops : Array Oper) (j : Nat) : List Opd :=
  ((List.range low.size).filterMap fun i => if unbound b low j i then lateCand low ops j i else none) ++
    (if (List.range low.size).any (fun i => unbound b low j i && ((j < i && earlyL (low.getD j .bad) (low.getD i .bad)) || lateLook low ops j i)) then [.c undef] else [])
def opdSlot : Opd → List Nat
  | .t s => [s]
  | .c _ => []
def AOp.opds : AOp → List Opd
  | .mov x | .box x | .nilCheck x | .un _ x | .conv _ x | .fieldAddr _ x | .part _ _ x | .extract x _ | .len _ x => [x]
  | .pick c a b => [c, a, b]
  | .alloc _ | .makeMap | .lenC _ | .bad => []
  | .build _ ps | .buildSlice _ _ ps => ps.map (·.2.2)
  | .load _ a => [a]
  | .store _ a x => [a, x]
  | .bin _ x y | .eqBool _ x y | .eqAgg _ _ x y | .eqNil _ _ x y => [x, y]
  | .makeFunc _ f c => f ++ c
  | .makeSlice _ _ l c => [l, c]
  | .sliceS _ x lo hi mx | .sliceA _ _ x lo hi mx => x :: (lo.toList ++ hi.toList ++ mx.toList)
  | .indexAddrA _ _ x i | .indexAddrS _ x i | .indexA _ _ _ x i | .indexStr x i => [x, i]
  | .lookup _ _ _ m k => [m, k]
  | .mapUpdate _ m k x => [m, k, x]
  | .mapEntry _ _ m k => [m, k]
  | .entryStore m s x => [m, s, x]
  | .append _ _ s x => [s, x]
  | .minmax _ x r => x :: r
  | .call f as => f :: as

def lowText (P : Program) (N : Nat) (ops : Array Oper) (o : Oper) : AOper :=
  match lowOper P N ops o with
  | some (op, g) => { dst := o.dst, op, guard := g, seqd := false, late := [] }
  | none => badOper
def lowsOf (P : Program) (N : Nat) (ops : Array Oper) : Array AOp := ops.map fun o => ((lowOper P N ops o).map (·.1)).getD .bad
def lowDrawn (P : Program) (N : Nat) (ops : Array Oper) (j : Nat) (o : Oper) : AOper :=
  match lowOper P N ops o with
  | some (op, g) => { dst := o.dst, op, guard := g, seqd := seqOf (Region.before ops) (lowsOf P N ops) ops j, late := lateList (Region.before ops) (lowsOf P N ops) ops j }
  | none => badOper
/-- Does the drawn order leave the slots alone, and is each operation understood? -/
def drawOk (P : Program) (N : Nat) (ops : Array Oper) : Bool :=
  slotsOk (Region.before ops) ops && edgesOk ops &&
  ops.all fun o => match lowOper P N ops o with
    | some (op, _) => op.opds.all fun x => (opdSlot x).all fun s => (readsOf ops o).contains s
    | none => false
def lowRegion (P : Program) (N : Nat) (ops : Array Oper) (draw : Bool) : List AOper :=
  if draw = false then ops.toList.map (lowText P N ops)
  else if drawOk P N ops then ops.toList.zipIdx.map fun p => lowDrawn P N ops p.2 p.1
  else [badOper]

def lowC (P : Program) (N : Nat) : Code → ACode
  | .skip => .skip
  | .region _ ops draw => .region draw (lowRegion P N ops draw)
  | .seq a b => .seq (lowC P N a) (lowC P N b)
  | .cond c a b => match lowOpd P c with | some c => .cond c (lowC P N a) (lowC P N b) | none => .bad
  | .block id c => .block id (lowC P N c)
  | .loop c => .loop (lowC P N c)
  | .rangeFunc f ps a b => match lowOpd P f with
    | some f => if ps.all (· < N) then .rangeFunc f ps.toList (lowC P N a) (lowC P N b) else .bad
    | none => .bad
  | .exit id => .exit id
  | .scope c => .scope (lowC P N c)
  | .label _ => .skip
  | .goto _ => .bad
  | .ret => .ret
  | .refuse _ => .bad

def lowRes (P : Program) : ResultVar → Option (Nat × Option (Option Nat))
  | .tmp t => some (t, none)
  | .cell a t => (aggSz P t).map fun s => (a, some s)
def lowFn (P : Program) (f : Nat) : Option AFn := do
  let fn ← P.funcs[f]?
  let c ← fn.body
  let rs ← fn.results.toList.mapM (lowRes P)
  if fn.name == "runtime.NumGoroutine" then none else
  some { ntmps := fn.ntmps, results := rs, body := lowC P fn.ntmps c }
end Go.RS

/- Abstract values and memory against real ones: blocks renamed, capacities unknown. -/
namespace Go.RS
open Go

/-- Abstract block: the real block, the offset and the block's size. -/
abbrev Bij := Nat → Option (Nat × (Nat × Nat))
def BLe (β γ : Bij) : Prop := ∀ b x, β b = some x → γ b = some x
theorem BLe.refl (β : Bij) : BLe β β := fun _ _ h => h
theorem BLe.trans {α β γ : Bij} (h : BLe α β) (k : BLe β γ) : BLe α γ := fun b x hx => k b x (h b x hx)

structure ARel (β : Bij) (a a' : Addr) : Prop where
  s : a.spot = none
  s' : a'.spot = none
  at_ : ∃ d, β a.block = some (a'.block, d) ∧ a'.off = d.1 + a.off
inductive FnRel (β : Bij) : Fn → Fn → Prop where
  | func (f : Nat) : FnRel β (.func f) (.func f)
  | yield {l l' : Nat} (h : β l = some (l', (0, 0))) : FnRel β (.yield l) (.yield l')
def CapRel (β : Bij) (a : Addr) (n c c' : Nat) : Prop := n < openCap ∧ ((c < openCap ∧ c' = c ∧ n ≤ c) ∨ (∃ s, c = openCap + s ∧ n ≤ c' ∧ (0 < s → ∃ r d, β a.block = some (r, d) ∧ d.1 + a.off + c' * s ≤ d.2)))

inductive VRel (β : Bij) : Value → Value → Prop where
  | bool (b : Bool) : VRel β (.bool b) (.bool b)
  | int (k : IntKind) (n : Int) : VRel β (.int k n) (.int k n)
  | string (s : ByteArray) : VRel β (.string s) (.string s)
  | ptr0 : VRel β (.pointer none) (.pointer none)
  | ptr {a a' : Addr} (h : ARel β a a') : VRel β (.pointer (some a)) (.pointer (some a'))
  | sl0 (n c : Nat) : VRel β (.slice none n c) (.slice none n c)
  | sl {a a' : Addr} {n c c' : Nat} (h : ARel β a a') (hc : CapRel β a n c c') : VRel β (.slice (some a) n c) (.slice (some a') n c')
  | sle (a a' : Addr) : VRel β (.slice (some a) 0 0) (.slice (some a') 0 0)
  | map0 : VRel β (.map none) (.map none)
  | map {r r' : Nat} (h : β r = some (r', (0, 0))) : VRel β (.map (some r)) (.map (some r'))
  | nilFunc : VRel β .nilFunc .nilFunc
  | func {f f' : Fn} {x x' c c' : Array Value} (hf : FnRel β f f') (s1 : x.size = x'.size) (h1 : ∀ (i : Nat) (v v' : Value), x[i]? = some v → x'[i]? = some v' → VRel β v v')
      (s2 : c.size = c'.size) (h2 : ∀ (i : Nat) (v v' : Value), c[i]? = some v → c'[i]? = some v' → VRel β v v') : VRel β (.func f x c) (.func f' x' c')
  | nilIface : VRel β .nilIface .nilIface
  | agg {x x' : Array Value} (s : x.size = x'.size) (h : ∀ (i : Nat) (v v' : Value), x[i]? = some v → x'[i]? = some v' → VRel β v v') : VRel β (.agg x) (.agg x')
  | tuple {x x' : Array Value} (s : x.size = x'.size) (h : ∀ (i : Nat) (v v' : Value), x[i]? = some v → x'[i]? = some v' → VRel β v v') : VRel β (.tuple x) (.tuple x')

theorem ARel.mono {β γ : Bij} (hl : BLe β γ) {a a' : Addr} (h : ARel β a a') : ARel γ a a' :=
  ⟨h.s, h.s', let ⟨d, h1, h2⟩ := h.at_; ⟨d, hl _ _ h1, h2⟩⟩
theorem FnRel.mono {β γ : Bij} (hl : BLe β γ) {a a' : Fn} (h : FnRel β a a') : FnRel γ a a' := by
  cases h with
  | func f => exact .func f
  | yield h => exact .yield (hl _ _ h)
theorem CapRel.mono {β γ : Bij} (hl : BLe β γ) {a : Addr} {n c c' : Nat} (h : CapRel β a n c c') : CapRel γ a n c c' :=
  ⟨h.1, h.2.imp id fun ⟨s, h1, h2, h3⟩ => ⟨s, h1, h2, fun hs => let ⟨r, d, h4, h5⟩ := h3 hs; ⟨r, d, hl _ _ h4, h5⟩⟩⟩
theorem VRel.mono {β γ : Bij} (hl : BLe β γ) {v v' : Value} (h : VRel β v v') : VRel γ v v' := by
  induction h with
  | bool b => exact .bool b
  | int k n => exact .int k n
  | string s => exact .string s
  | ptr0 => exact .ptr0
  | ptr h => exact .ptr (h.mono hl)
  | sl0 n c => exact .sl0 n c
  | sl h hc => exact .sl (h.mono hl) (hc.mono hl)
  | sle a a' => exact .sle a a'
  | map0 => exact .map0
  | map h => exact .map (hl _ _ h)
  | nilFunc => exact .nilFunc
  | func hf s1 _ s2 _ i1 i2 => exact .func (hf.mono hl) s1 i1 s2 i2
  | nilIface => exact .nilIface
  | agg s _ ih => exact .agg s ih
  | tuple s _ ih => exact .tuple s ih
theorem VRel.undef (β : Bij) : VRel β undef undef := .tuple rfl (fun i v v' h => by simp at h)

/-- Lists of values. -/
def LRel (β : Bij) (xs ys : List Value) : Prop := xs.length = ys.length ∧ ∀ (i : Nat) (v v' : Value), xs[i]? = some v → ys[i]? = some v' → VRel β v v'
theorem LRel.mono {β γ : Bij} (hl : BLe β γ) {xs ys : List Value} (h : LRel β xs ys) : LRel γ xs ys := ⟨h.1, fun i v v' a b => (h.2 i v v' a b).mono hl⟩
theorem LRel.nil (β : Bij) : LRel β [] [] := ⟨rfl, fun i v v' h => by simp at h⟩
theorem LRel.cons {β : Bij} {x y : Value} {xs ys : List Value} (h : VRel β x y) (t : LRel β xs ys) : LRel β (x :: xs) (y :: ys) :=
  ⟨by simp [t.1], fun i v v' a b => by
    cases i with
    | zero => simp at a b; subst a b; exact h
    | succ i => simp at a b; exact t.2 i v v' a b⟩
theorem LRel.head {β : Bij} {x y : Value} {xs ys : List Value} (h : LRel β (x :: xs) (y :: ys)) : VRel β x y := h.2 0 x y rfl rfl
theorem LRel.tail {β : Bij} {x y : Value} {xs ys : List Value} (h : LRel β (x :: xs) (y :: ys)) : LRel β xs ys :=
  ⟨by simpa using h.1, fun i v v' a b => h.2 (i + 1) v v' (by simpa using a) (by simpa using b)⟩
theorem LRel.append {β : Bij} {a b c d : List Value} (h : LRel β a b) (k : LRel β c d) : LRel β (a ++ c) (b ++ d) := by
  refine ⟨by simp [h.1, k.1], fun i v v' x y => ?_⟩
  by_cases hi : i < a.length
  · rw [List.getElem?_append_left hi] at x
    rw [List.getElem?_append_left (h.1 ▸ hi)] at y
    exact h.2 i v v' x y
  · rw [List.getElem?_append_right (by omega)] at x
    rw [List.getElem?_append_right (by rw [← h.1]; omega), ← h.1] at y
    exact k.2 _ v v' x y
theorem LRel.take {β : Bij} {a b : List Value} (h : LRel β a b) (n : Nat) : LRel β (a.take n) (b.take n) := by
  refine ⟨by simp [h.1], fun i v v' x y => ?_⟩
  rw [List.getElem?_take] at x y
  split at x
  · rename_i hi; rw [if_pos hi] at y; exact h.2 i v v' x y
  · cases x
theorem LRel.drop {β : Bij} {a b : List Value} (h : LRel β a b) (n : Nat) : LRel β (a.drop n) (b.drop n) := by
  refine ⟨by simp [h.1], fun i v v' x y => ?_⟩
  rw [List.getElem?_drop] at x y
  exact h.2 _ v v' x y
theorem LRel.get {β : Bij} {a b : List Value} (h : LRel β a b) {i : Nat} {v : Value} (x : a[i]? = some v) : ∃ v', b[i]? = some v' ∧ VRel β v v' := by
  have hi : i < a.length := (List.getElem?_eq_some_iff.1 x).1
  have hb : i < b.length := h.1 ▸ hi
  exact ⟨b[i], List.getElem?_eq_getElem hb, h.2 i v _ x (List.getElem?_eq_getElem hb)⟩
theorem LRel.splice {β : Bij} {a b c d : List Value} (h : LRel β a b) (k : LRel β c d) (o : Nat) : LRel β (splice a o c) (splice b o d) := by
  unfold RS.splice
  rw [k.1]
  exact ((h.take o).append k).append (h.drop _)
theorem LRel.map {α : Type} {β : Bij} {f g : α → Value} {l : List α} (h : ∀ x ∈ l, VRel β (f x) (g x)) : LRel β (l.map f) (l.map g) := by
  induction l with
  | nil => exact .nil β
  | cons x l ih => exact .cons (h x (by simp)) (ih fun y hy => h y (by simp [hy]))
theorem VRel.agg' {β : Bij} {x x' : Array Value} (h : LRel β x.toList x'.toList) : VRel β (.agg x) (.agg x') :=
  .agg (by simpa using h.1) (fun i v v' a b => h.2 i v v' (by simpa using a) (by simpa using b))
theorem VRel.tuple' {β : Bij} {x x' : Array Value} (h : LRel β x.toList x'.toList) : VRel β (.tuple x) (.tuple x') :=
  .tuple (by simpa using h.1) (fun i v v' a b => h.2 i v v' (by simpa using a) (by simpa using b))
theorem arr_rel {β : Bij} {x x' : Array Value} (s : x.size = x'.size) (h : ∀ (i : Nat) (v v' : Value), x[i]? = some v → x'[i]? = some v' → VRel β v v') : LRel β x.toList x'.toList :=
  ⟨by simpa using s, fun i v v' a b => h i v v' (by simpa using a) (by simpa using b)⟩
theorem VRel.cells {β : Bij} {v v' : Value} (h : VRel β v v') : LRel β v.cells.toList v'.cells.toList := by
  cases h <;> first
    | (rename_i s h; exact arr_rel s h)
    | (simp only [Value.cells]; exact .cons (.sle _ _) (.nil β))
    | (simp only [Value.cells]; exact .cons (by constructor <;> assumption) (.nil β))
theorem VRel.scal {β : Bij} {v v' : Value} (h : VRel β v v') : scal v' = scal v := by cases h <;> rfl
theorem VRel.cells_size {β : Bij} {v v' : Value} (h : VRel β v v') : v'.cells.size = v.cells.size := by
  have := h.cells.1
  simpa using this.symm
theorem closedS_rel {β : Bij} {v : Value} (h : closedS v = true) : VRel β v v := by
  cases v with
  | bool b => exact .bool b
  | int k n => exact .int k n
  | string s => exact .string s
  | pointer a => cases a <;> simp [closedS] at h; exact .ptr0
  | slice a n c => cases a <;> simp [closedS] at h; exact .sl0 n c
  | map r => cases r <;> simp [closedS] at h; exact .map0
  | nilFunc => exact .nilFunc
  | nilIface => exact .nilIface
  | func f x c =>
    cases f <;> simp [closedS] at h
    obtain ⟨rfl, rfl⟩ := h
    exact .func (.func _) rfl (fun i v v' h => by simp at h) rfl (fun i v v' h => by simp at h)
  | _ => simp [closedS] at h
theorem closedL_rel {β : Bij} {xs : List Value} (h : xs.all closedS = true) : LRel β xs xs :=
  ⟨rfl, fun i v v' a b => by
    rw [a] at b; cases b
    exact closedS_rel (List.all_eq_true.1 h v (List.mem_of_getElem? a))⟩
theorem closedV_rel {β : Bij} {v : Value} (h : closedV v = true) : VRel β v v := by
  cases v with
  | agg cs => exact .agg' (closedL_rel (by simpa [closedV] using h))
  | tuple cs => exact .tuple' (closedL_rel (by simpa [closedV] using h))
  | _ => exact closedS_rel h

/-- Frames. -/
def FRel (β : Bij) (fr : Fr) (tmps : Array Value) : Prop := ∀ i, VRel β (fr i) (tmps.getD i undef)
theorem FRel.mono {β γ : Bij} (hl : BLe β γ) {fr : Fr} {tmps : Array Value} (h : FRel β fr tmps) : FRel γ fr tmps := fun i => (h i).mono hl
theorem FRel.set {β : Bij} {fr : Fr} {tmps : Array Value} (h : FRel β fr tmps) {d : Nat} {v v' : Value} (hd : d < tmps.size) (hv : VRel β v v') :
    FRel β (upd fr d v) (tmps.setIfInBounds d v') := by
  intro i
  unfold upd
  by_cases hi : i = d
  · subst hi; simp [hd]; exact hv
  · simp only [hi, if_false]
    have := h i
    rw [Array.getD_eq_getD_getElem?] at this ⊢
    rw [Array.getElem?_setIfInBounds_ne (Ne.symm hi)]
    exact this

def JRel : Option Jump → Option Code → Prop
  | none, none => True
  | some (.exit id), some (.exit id') => id' = id
  | some .ret, some .ret => True
  | _, _ => False

structure LoopRel (P : Program) (β : Bij) (L : ALoop) (L' : Loop) : Prop where
  fr : FRel β L.fr L'.tmps
  ps : L'.params.toList = L.params
  pb : ∀ p ∈ L.params, p < L'.tmps.size
  a : lowC P L'.tmps.size L'.assign = L.assign
  b : lowC P L'.tmps.size L'.body = L.body
  st : L'.state = L.state
  pj : JRel L.pending L'.pending

def ERel (β : Bij) (es : List (Value × Value × Nat)) (es' : Array MapEntry) : Prop :=
  es'.size = es.length ∧ ∀ (i : Nat) (e : Value × Value × Nat) (e' : MapEntry), es[i]? = some e → es'[i]? = some e' → VRel β e.1 e'.key ∧ VRel β e.2.1 e'.val ∧ e'.born = e.2.2

/-- An abstract object against the object that lies in a real heap. -/
def objSize : Obj → Nat
  | .cells c _ _ => c.size
  | _ => 0
def ORel (P : Program) (β : Bij) (wr : Prop) (o : AObj) (x : Option Obj) (d : Nat × Nat) : Prop :=
  match o with
  | .cells c => ∃ c' e fz, x = some (.cells c' e fz) ∧ (wr → fz = (0, 0)) ∧ c'.size = d.2 ∧ ∀ (i : Nat) (v : Value), c[i]? = some v → ∃ v', c'[d.1 + i]? = some v' ∧ VRel β v v'
  | .map es clock => d = (0, 0) ∧ ∃ es', x = some (.map es' clock) ∧ ERel β es es'
  | .loop L => d = (0, 0) ∧ ∃ L', x = some (.loop L') ∧ LoopRel P β L L'
  | .junk => True

theorem ORel.mono {P : Program} {β γ : Bij} (hl : BLe β γ) {wr : Prop} {o : AObj} {x : Option Obj} {d : Nat × Nat} (h : ORel P β wr o x d) : ORel P γ wr o x d := by
  cases o with
  | cells c =>
    obtain ⟨c', e, fz, h1, h2, h2', h3⟩ := h
    exact ⟨c', e, fz, h1, h2, h2', fun i v hv => let ⟨v', a, b⟩ := h3 i v hv; ⟨v', a, b.mono hl⟩⟩
  | map es clock =>
    obtain ⟨hd, es', h1, h2, h3⟩ := h
    exact ⟨hd, es', h1, h2, fun i e e' a b => let ⟨x, y, z⟩ := h3 i e e' a b; ⟨x.mono hl, y.mono hl, z⟩⟩
  | loop L =>
    obtain ⟨hd, L', h1, h2⟩ := h
    exact ⟨hd, L', h1, ⟨h2.fr.mono hl, h2.ps, h2.pb, h2.a, h2.b, h2.st, h2.pj⟩⟩
  | junk => trivial

structure HRel (P : Program) (lo n0 : Nat) (β : Bij) (h : AH) (w : World) : Prop where
  dom : ∀ b r d, β b = some (r, d) → b < h.size ∧ r < w.heap.size
  obj : ∀ b r d o, β b = some (r, d) → h[b]? = some o → ORel P β (lo ≤ b) o w.heap[r]? d
  img : ∀ b r d, lo ≤ b → β b = some (r, d) → n0 ≤ r
  low : ∀ b r d, b < lo → β b = some (r, d) → r < n0
  inj : ∀ b b' r d d', lo ≤ b → lo ≤ b' → β b = some (r, d) → β b' = some (r, d') → h[b]? ≠ some .junk → h[b']? ≠ some .junk → b = b'
  glob : ∀ g, g < P.globals.size → ∃ z, β g = some (g, (0, z))
  los : lo ≤ h.size
  n0s : n0 ≤ w.heap.size

/-- What a run has done: only blocks of its own are turned. -/
structure Ext (lo : Nat) (β : Bij) (h : AH) (w : World) (β1 : Bij) (h1 : AH) (w1 : World) : Prop where
  agree : ∀ b, b < h.size → β1 b = β b
  hs : h.size ≤ h1.size
  ws : w.heap.size ≤ w1.heap.size
  junk : ∀ (b : Nat) (x : Nat × (Nat × Nat)), β b = some x → h[b]? = some .junk → h1[b]? = some .junk
  keep : ∀ r : Nat, r < w.heap.size → (∀ (b : Nat) (d : Nat × Nat), lo ≤ b → β b = some (r, d) → h[b]? = some .junk) → w1.heap[r]? = w.heap[r]?
  fresh : ∀ (b r : Nat) (d : Nat × Nat), h.size ≤ b → β1 b = some (r, d) → w.heap.size ≤ r ∨ ∃ (b0 : Nat) (d0 : Nat × Nat), lo ≤ b0 ∧ β b0 = some (r, d0) ∧ h[b0]? ≠ some .junk
  lps : ∀ (r : Nat) (L : Loop), w.heap[r]? = some (.loop L) → ∃ L' : Loop, w1.heap[r]? = some (.loop L')
  env : w1.os = w.os ∧ w1.tape = w.tape ∧ w1.output = w.output

section
variable {P : Program} {lo n0 : Nat} {β β1 β2 : Bij} {h h1 h2 : AH} {w w1 w2 : World}

theorem Ext.le (e : Ext lo β h w β1 h1 w1) (R : HRel P lo n0 β h w) : BLe β β1 := fun b x hx => by
  obtain ⟨r, d⟩ := x
  rw [e.agree b (R.dom b r d hx).1]; exact hx
theorem Ext.refl (R : HRel P lo n0 β h w) : Ext lo β h w β h w :=
  ⟨fun _ _ => rfl, Nat.le_refl _, Nat.le_refl _, fun _ _ _ h => h, fun _ _ _ => rfl, fun b r d hb hx => (by have := (R.dom b r d hx).1; omega), fun r L hL => ⟨L, hL⟩, rfl, rfl, rfl⟩
theorem Ext.trans (e : Ext lo β h w β1 h1 w1) (f : Ext lo β1 h1 w1 β2 h2 w2) : Ext lo β h w β2 h2 w2 := by
  refine ⟨fun b hb => (f.agree b (Nat.lt_of_lt_of_le hb e.hs)).trans (e.agree b hb), Nat.le_trans e.hs f.hs, Nat.le_trans e.ws f.ws, fun b x hx hb => f.junk b x (by rw [e.agree b (Array.getElem?_eq_some_iff.1 hb).1]; exact hx) (e.junk b x hx hb), ?_, ?_, fun r L hL => (let ⟨L1, h1⟩ := e.lps r L hL; f.lps r L1 h1), ?_⟩
  · intro r hr hk
    have h1' := e.keep r hr hk
    refine (f.keep r (Nat.lt_of_lt_of_le hr e.ws) fun b d hlo hb => ?_).trans h1'
    by_cases hbh : b < h.size
    · rw [e.agree b hbh] at hb
      exact e.junk b _ hb (hk b d hlo hb)
    · rcases e.fresh b r d (by omega) hb with h2 | ⟨b0, d0, hl0, h3, h4⟩
      · omega
      · exact absurd (hk b0 d0 hl0 h3) h4
  · intro b r d hb hx
    by_cases hb1 : b < h1.size
    · rw [f.agree b hb1] at hx
      exact e.fresh b r d hb hx
    · rcases f.fresh b r d (by omega) hx with h2 | ⟨b0, d0, hl0, h3, h4⟩
      · exact .inl (Nat.le_trans e.ws h2)
      · by_cases hb0 : b0 < h.size
        · rw [e.agree b0 hb0] at h3
          exact .inr ⟨b0, d0, hl0, h3, fun hj => h4 (e.junk b0 _ h3 hj)⟩
        · exact e.fresh b0 r d0 (by omega) h3
  · exact ⟨f.env.1.trans e.env.1, f.env.2.1.trans e.env.2.1, f.env.2.2.trans e.env.2.2⟩

/-- A world that differs in the count of draws alone. -/
theorem HRel.drew (R : HRel P lo n0 β h w) (k : Nat) : HRel P lo n0 β h { w with drawn := k } :=
  ⟨R.dom, R.obj, R.img, R.low, R.inj, R.glob, R.los, R.n0s⟩
theorem Ext.drew (e : Ext lo β h w β1 h1 w1) (k : Nat) : Ext lo β h w β1 h1 { w1 with drawn := k } :=
  ⟨e.agree, e.hs, e.ws, e.junk, e.keep, e.fresh, e.lps, e.env⟩
def bset (β : Bij) (b : Nat) (x : Nat × (Nat × Nat)) : Bij := fun c => if c = b then some x else β c
@[simp] theorem bset_same (β : Bij) (b : Nat) (x : Nat × (Nat × Nat)) : bset β b x b = some x := by simp [bset]
theorem bset_other (β : Bij) {b c : Nat} (x : Nat × (Nat × Nat)) (hc : c ≠ b) : bset β b x c = β c := by simp [bset, hc]
theorem bset_le (R : HRel P lo n0 β h w) (x : Nat × (Nat × Nat)) : BLe β (bset β h.size x) := fun b y hy => by
  obtain ⟨r, d⟩ := y
  have := (R.dom b r d hy).1
  rw [bset_other β x (by omega)]; exact hy

/-- A new block on both sides. -/
theorem HRel.alloc (R : HRel P lo n0 β h w) (o : AObj) (o' : Obj) (ho : ORel P β True o (some o') (0, objSize o')) :
    HRel P lo n0 (bset β h.size (w.heap.size, (0, objSize o'))) (h.push o) { w with heap := w.heap.push o' } ∧
    Ext lo β h w (bset β h.size (w.heap.size, (0, objSize o'))) (h.push o) { w with heap := w.heap.push o' } := by
  have hle := bset_le R (w.heap.size, (0, objSize o'))
  have hold : ∀ b r d, b ≠ h.size → bset β h.size (w.heap.size, (0, objSize o')) b = some (r, d) → β b = some (r, d) := fun b r d hb hx => by rwa [bset_other β _ hb] at hx
  refine ⟨⟨?_, ?_, ?_, ?_, ?_, ?_, ?_, ?_⟩, ⟨?_, ?_, ?_, ?_, ?_, ?_, ?_, ⟨rfl, rfl, rfl⟩⟩⟩
  · intro b r d hx
    by_cases hb : b = h.size
    · subst hb; simp at hx; obtain ⟨rfl, rfl⟩ := hx; simp
    · have := R.dom b r d (hold b r d hb hx); simp; omega
  · intro b r d o2 hx ho2
    by_cases hb : b = h.size
    · subst hb
      simp at hx ho2; obtain ⟨rfl, rfl⟩ := hx; subst ho2
      have := ho.mono hle
      simp only [Array.getElem?_push_size]
      cases o with
      | cells c => obtain ⟨c', e, fz, a, b, b2, c⟩ := this; exact ⟨c', e, fz, a, fun _ => b trivial, b2, c⟩
      | map es clock => exact this
      | loop L => exact this
      | junk => trivial
    · have hx' := hold b r d hb hx
      have hd := R.dom b r d hx'
      rw [Array.getElem?_push, if_neg hb] at ho2
      have := (R.obj b r d o2 hx' ho2).mono hle
      simp only [Array.getElem?_push]
      rw [if_neg (by omega)]
      exact this
  · intro b r d hl hx
    by_cases hb : b = h.size
    · subst hb; simp at hx; obtain ⟨rfl, rfl⟩ := hx; exact R.n0s
    · exact R.img b r d hl (hold b r d hb hx)
  · intro b r d hl hx
    have hb : b ≠ h.size := by have := R.los; omega
    exact R.low b r d hl (hold b r d hb hx)
  · intro b b' r d d' hl hl' hx hx' hj hj'
    by_cases hb : b = h.size
    · by_cases hb' : b' = h.size
      · omega
      · have := R.dom b' r d' (hold b' r d' hb' hx')
        subst hb; simp at hx; omega
    · by_cases hb' : b' = h.size
      · have := R.dom b r d (hold b r d hb hx)
        subst hb'; simp at hx'; omega
      · rw [Array.getElem?_push, if_neg hb] at hj
        rw [Array.getElem?_push, if_neg hb'] at hj'
        exact R.inj b b' r d d' hl hl' (hold b r d hb hx) (hold b' r d' hb' hx') hj hj'
  · intro g hg; obtain ⟨z, hz⟩ := R.glob g hg; exact ⟨z, hle _ _ hz⟩
  · simp; have := R.los; omega
  · simp; have := R.n0s; omega
  · intro b hb; exact bset_other β _ (by omega)
  · simp
  · simp
  · intro b _ _ hb
    have hlt : b < h.size := (Array.getElem?_eq_some_iff.1 hb).1
    rw [Array.getElem?_push, if_neg (by omega)]; exact hb
  · intro r hr _
    show (w.heap.push o')[r]? = _
    rw [Array.getElem?_push, if_neg (by omega)]
  · intro b r d hb hx
    by_cases hb' : b = h.size
    · subst hb'; simp at hx; left; omega
    · have := R.dom b r d (hold b r d hb' hx); omega
  · intro r L hL
    have hlt : r < w.heap.size := (Array.getElem?_eq_some_iff.1 hL).1
    refine ⟨L, ?_⟩
    show (w.heap.push o')[r]? = _
    rw [Array.getElem?_push, if_neg (by omega)]; exact hL

/-- A block of the run's own is turned on both sides. -/
theorem HRel.set (R : HRel P lo n0 β h w) {b r : Nat} {d : Nat × Nat} (hl : lo ≤ b) (hb : β b = some (r, d)) (hj : h[b]? ≠ some .junk) (o : AObj) (o' : Obj) (ho : ORel P β True o (some o') d) (hoj : o ≠ .junk) (hlp : ∀ L : Loop, w.heap[r]? = some (.loop L) → ∃ L' : Loop, o' = .loop L') :
    HRel P lo n0 β (h.setIfInBounds b o) { w with heap := w.heap.setIfInBounds r o' } ∧
    Ext lo β h w β (h.setIfInBounds b o) { w with heap := w.heap.setIfInBounds r o' } := by
  obtain ⟨hbs, hrs⟩ := R.dom b r d hb
  refine ⟨⟨?_, ?_, R.img, R.low, ?_, R.glob, ?_, ?_⟩, ⟨fun _ _ => rfl, by simp, by simp, ?_, ?_, ?_, ?_, ⟨rfl, rfl, rfl⟩⟩⟩
  · intro b2 r2 d2 hx; have := R.dom b2 r2 d2 hx; simpa using this
  · intro b2 r2 d2 o2 hx ho2
    by_cases he : b2 = b
    · subst he
      rw [hb] at hx; cases hx
      simp [hbs] at ho2; subst ho2
      simp only [Array.getElem?_setIfInBounds_self, hrs, if_true]
      cases o with
      | cells c => obtain ⟨c', e, fz, a, b, b2, c⟩ := ho; exact ⟨c', e, fz, a, fun _ => b trivial, b2, c⟩
      | map es clock => exact ho
      | loop L => exact ho
      | junk => trivial
    · rw [Array.getElem?_setIfInBounds_ne (Ne.symm he)] at ho2
      have h0 := R.obj b2 r2 d2 o2 hx ho2
      by_cases hj2 : o2 = .junk
      · subst hj2; trivial
      · have hne : r2 ≠ r := by
          intro hr; subst hr
          by_cases hl2 : lo ≤ b2
          · exact he (R.inj b2 b r2 d2 d hl2 hl hx hb (by rw [ho2]; simpa using hj2) hj)
          · have h1 := R.low b2 r2 d2 (by omega) hx
            have h2 := R.img b r2 d hl hb
            omega
        simp only [Array.getElem?_setIfInBounds_ne (Ne.symm hne)]
        exact h0
  · intro b2 b3 r2 d2 d3 hl2 hl3 hx2 hx3 hj2 hj3
    refine R.inj b2 b3 r2 d2 d3 hl2 hl3 hx2 hx3 ?_ ?_
    · by_cases he : b2 = b
      · subst he; exact hj
      · rwa [Array.getElem?_setIfInBounds_ne (Ne.symm he)] at hj2
    · by_cases he : b3 = b
      · subst he; exact hj
      · rwa [Array.getElem?_setIfInBounds_ne (Ne.symm he)] at hj3
  · simpa using R.los
  · simpa using R.n0s
  · intro b2 _ _ hb2
    by_cases he : b2 = b
    · subst he; exact absurd hb2 hj
    · rw [Array.getElem?_setIfInBounds_ne (Ne.symm he)]; exact hb2
  · intro r2 hr2 hk
    have hne : r2 ≠ r := fun he => by subst he; exact hj (hk b d hl hb)
    show (w.heap.setIfInBounds r o')[r2]? = _
    rw [Array.getElem?_setIfInBounds_ne (Ne.symm hne)]
  · intro b2 r2 d2 hb2 hx
    have := (R.dom b2 r2 d2 hx).1; omega
  · intro r2 L hL
    by_cases he : r2 = r
    · subst he
      obtain ⟨L', hL'⟩ := hlp L hL
      refine ⟨L', ?_⟩
      show (w.heap.setIfInBounds r2 o')[r2]? = _
      rw [Array.getElem?_setIfInBounds_self]; simp only [hrs, if_true, hL']
    · refine ⟨L, ?_⟩
      show (w.heap.setIfInBounds r o')[r2]? = _
      rw [Array.getElem?_setIfInBounds_ne (Ne.symm he)]; exact hL
end
end Go.RS

/- Each operation of the abstract machine is followed by the real one. -/
namespace Go.RS
open Go

section
variable {P : Program} {lo n0 : Nat} {β : Bij} {h h1 : AH} {w : World} {fr : Fr} {a : Act}

theorem opd_rel (R : HRel P lo n0 β h w) (F : FRel β fr a.tmps) {x : Operand} {y : Opd} (hx : lowOpd P x = some y) : VRel β (y.ev fr) (a.eval x) := by
  cases x with
  | tmp t => simp only [lowOpd, Option.some.injEq] at hx; subst hx; exact F t
  | const v =>
    simp only [lowOpd] at hx
    split at hx
    · rename_i hc; cases hx; exact closedV_rel hc
    · cases hx
  | global g =>
    simp only [lowOpd] at hx
    split at hx
    · rename_i hg; cases hx
      obtain ⟨z, hz⟩ := R.glob g hg
      exact .ptr ⟨rfl, rfl, (0, z), hz, by simp⟩
    · cases hx
  | func f =>
    simp only [lowOpd, Option.some.injEq] at hx; subst hx
    exact .func (.func f) rfl (fun i v v' h => by simp at h) rfl (fun i v v' h => by simp at h)

theorem list_rel (R : HRel P lo n0 β h w) (F : FRel β fr a.tmps) : ∀ {xs : List Operand} {ys : List Opd}, lowList P xs = some ys → LRel β (ys.map (·.ev fr)) (xs.map a.eval)
  | [], ys, hx => by simp [lowList] at hx; subst hx; exact .nil β
  | x :: xs, ys, hx => by
    simp only [lowList, Option.bind_eq_bind, Option.bind_eq_some_iff] at hx
    obtain ⟨y, hy, z, hz, he⟩ := hx
    cases he
    exact .cons (opd_rel R F hy) (list_rel R F hz)
theorem opt_rel (R : HRel P lo n0 β h w) (F : FRel β fr a.tmps) {x : Option Operand} {y : Option Opd} (hx : lowOpt P x = some y) :
    (x = none ∧ y = none) ∨ ∃ x' y', x = some x' ∧ y = some y' ∧ VRel β (y'.ev fr) (a.eval x') := by
  cases x with
  | none => simp [lowOpt] at hx; exact .inl ⟨rfl, hx.symm⟩
  | some x =>
    simp only [lowOpt, Option.map_eq_some_iff] at hx
    obtain ⟨y, hy, rfl⟩ := hx
    exact .inr ⟨x, y, rfl, rfl, opd_rel R F hy⟩

/-- What following one operation gives. -/
def OpSim (P : Program) (lo n0 : Nat) (β : Bij) (h : AH) (w : World) (v : Value) (h1 : AH) (r : Result Next) : Prop :=
  ∃ β1 w1 v' nx, r = .ok nx w1 ∧ (nx = .value v' ∨ (nx = .skip ∧ v' = undef)) ∧ VRel β1 v v' ∧ HRel P lo n0 β1 h1 w1 ∧ Ext lo β h w β1 h1 w1

theorem OpSim.quiet (R : HRel P lo n0 β h w) {v v' : Value} (hv : VRel β v v') {r : Result Next} (hr : r = .ok (.value v') w) : OpSim P lo n0 β h w v h r :=
  ⟨β, w, v', .value v', hr, .inl rfl, hv, R, .refl R⟩
theorem OpSim.new (R : HRel P lo n0 β h w) {o : AObj} {o' : Obj} (ho : ORel P β True o (some o') (0, objSize o')) {v v' : Value}
    (hv : VRel (bset β h.size (w.heap.size, (0, objSize o'))) v v') {r : Result Next} (hr : r = .ok (.value v') { w with heap := w.heap.push o' }) : OpSim P lo n0 β h w v (h.push o) r :=
  ⟨_, _, v', .value v', hr, .inl rfl, hv, (R.alloc o o' ho).1, (R.alloc o o' ho).2⟩

theorem cells_new {β : Bij} {c : List Value} {c' : Array Value} {e : TypeId} (h : LRel β c c'.toList) : ORel P β True (.cells c) (some (.cells c' e (0, 0))) (0, objSize (.cells c' e (0, 0))) :=
  ⟨c', e, (0, 0), rfl, fun _ => rfl, rfl, fun i v hv => by
    obtain ⟨v', h1, h2⟩ := h.get hv
    exact ⟨v', by simpa using h1, h2⟩⟩
theorem arel_new {z : Nat} : ARel (bset β h.size (w.heap.size, (0, z))) ⟨h.size, 0, none⟩ ⟨w.heap.size, 0, none⟩ := ⟨rfl, rfl, (0, z), by simp, rfl⟩
theorem ptr_new {z : Nat} : VRel (bset β h.size (w.heap.size, (0, z))) (ptr h.size 0) (.pointer (some ⟨w.heap.size, 0, none⟩)) :=
  .ptr ⟨rfl, rfl, (0, z), by simp, rfl⟩

/-- A cell that reads. -/
theorem cell_rel (R : HRel P lo n0 β h w) {b o : Nat} {v : Value} (hc : cellAt h b o = some v) {a' : Addr} (ha : ARel β ⟨b, o, none⟩ a') :
    ∃ v', w.cell? a' = some v' ∧ VRel β v v' := by
  obtain ⟨_, hs, d, hb, ho⟩ := ha
  unfold cellAt at hc
  split at hc
  · rename_i c hcb
    obtain ⟨c', e, fz, h1, _, _, h3⟩ := R.obj b a'.block d _ hb hcb
    obtain ⟨v', h4, h5⟩ := h3 o v hc
    refine ⟨v', ?_, h5⟩
    unfold World.cell?
    rw [h1]
    simp only [hs, Option.isSome_none, Bool.false_eq_true, if_false]
    rw [ho]; exact h4
  · cases hc
theorem cells_rel (R : HRel P lo n0 β h w) {b o n : Nat} {c : List Value} (hc : cellsAt h b o n = some c) {a' : Addr} (ha : ARel β ⟨b, o, none⟩ a') :
    c.length = n ∧ ∃ c' : List Value, LRel β c c' ∧ ∀ (j : Nat) (v : Value), c'[j]? = some v → w.cell? (a'.add j) = some v := by
  obtain ⟨_, hs, d, hb, ho⟩ := ha
  unfold cellsAt at hc
  split at hc
  · rename_i cs hcb
    split at hc
    · rename_i hlen
      cases hc
      obtain ⟨c', e, fz, h1, _, _, h3⟩ := R.obj b a'.block d _ hb hcb
      have hlen' : ∀ i, i < cs.length → d.1 + i < c'.size := fun i hi => by
        obtain ⟨v', h4, _⟩ := h3 i cs[i] (List.getElem?_eq_getElem hi)
        exact (Array.getElem?_eq_some_iff.1 h4).1
      refine ⟨by simp; omega, (c'.toList.drop (d.1 + o)).take n, ⟨?_, ?_⟩, ?_⟩
      · simp only [List.length_take, List.length_drop, Array.length_toList]
        rcases Nat.eq_zero_or_pos n with hn | hn
        · simp [hn]
        · have := hlen' (o + n - 1) (by omega); omega
      · intro i v v' x y
        rw [List.getElem?_take] at x y
        split at x
        · rename_i hi
          rw [if_pos hi, List.getElem?_drop] at y
          rw [List.getElem?_drop] at x
          obtain ⟨v2, h4, h5⟩ := h3 _ _ x
          rw [← Array.getElem?_toList] at h4
          rw [Nat.add_assoc] at y
          rw [y] at h4; cases h4; exact h5
        · cases x
      · intro j v hv
        rw [List.getElem?_take] at hv
        split at hv
        · rw [List.getElem?_drop] at hv
          unfold World.cell?
          have e1 : (a'.add j).block = a'.block := by unfold Addr.add; split <;> rfl
          have e2 : (a'.add j).spot = none := by unfold Addr.add; split <;> simp [hs]
          have e3 : (a'.add j).off = a'.off + j := by unfold Addr.add; split <;> simp_all
          rw [e1, h1]
          simp only [e2, e3, Option.isSome_none, Bool.false_eq_true, if_false]
          rw [ho, ← Array.getElem?_toList]; exact hv
        · cases hv
    · cases hc
  · cases hc

theorem ARel.add {β : Bij} {x x' : Addr} (h : ARel β x x') (n : Nat) : ARel β (x.add n) (x'.add n) := by
  obtain ⟨h1, h2, d, h3, h4⟩ := h
  unfold Addr.add
  split
  · exact ⟨h1, h2, d, h3, h4⟩
  · exact ⟨rfl, rfl, d, h3, by simp; omega⟩
theorem VRel.ptr_inv {β : Bij} {x : Addr} {v' : Value} (h : VRel β (.pointer (some x)) v') : ∃ x', v' = .pointer (some x') ∧ ARel β x x' := by
  cases h with
  | ptr h => exact ⟨_, rfl, h⟩
theorem VRel.int_inv {β : Bij} {k : IntKind} {n : Int} {v' : Value} (h : VRel β (.int k n) v') : v' = .int k n := by cases h; rfl
theorem VRel.bool_inv {β : Bij} {b : Bool} {v' : Value} (h : VRel β (.bool b) v') : v' = .bool b := by cases h; rfl
theorem VRel.str_inv {β : Bij} {s : ByteArray} {v' : Value} (h : VRel β (.string s) v') : v' = .string s := by cases h; rfl
theorem VRel.agg_inv {β : Bij} {x : Array Value} {v' : Value} (h : VRel β (.agg x) v') : ∃ x', v' = .agg x' ∧ LRel β x.toList x'.toList := by
  cases h with
  | agg s h => exact ⟨_, rfl, arr_rel s h⟩
theorem VRel.tuple_inv {β : Bij} {x : Array Value} {v' : Value} (h : VRel β (.tuple x) v') : ∃ x', v' = .tuple x' ∧ LRel β x.toList x'.toList := by
  cases h with
  | tuple s h => exact ⟨_, rfl, arr_rel s h⟩

/-- A store of cells into a block of the run's own. -/
theorem set_rel (R : HRel P lo n0 β h w) {b o : Nat} {vs vs' : List Value} (hs : setCells lo h b o vs = some h1) (hv : LRel β vs vs') (hsc : vs.all scal = true) {a' : Addr} (ha : ARel β ⟨b, o, none⟩ a') :
    ∃ w1, (storeCells a' vs').run P w = .ok () w1 ∧ HRel P lo n0 β h1 w1 ∧ Ext lo β h w β h1 w1 := by
  obtain ⟨_, hsp, d, hb, ho⟩ := ha
  dsimp only at hb ho
  unfold setCells at hs
  split at hs
  · rename_i c hcb
    split at hs
    · rename_i hlo
      obtain ⟨hlo, hlen⟩ := hlo
      cases hs
      obtain ⟨c', e, fz, g1, g2, gz, g3⟩ := R.obj b a'.block d _ hb hcb
      have hfz := g2 hlo; subst hfz
      have hlen' : ∀ i, i < c.length → d.1 + i < c'.size := fun i hi => by
        obtain ⟨v', h4, _⟩ := g3 i c[i] (List.getElem?_eq_getElem hi)
        exact (Array.getElem?_eq_some_iff.1 h4).1
      have hone : ∀ v ∈ vs', v.oneCell' = true := by
        intro v hv'
        obtain ⟨i, hi⟩ := List.getElem?_of_mem hv'
        have hil : i < vs.length := hv.1 ▸ (List.getElem?_eq_some_iff.1 hi).1
        have h5 := hv.2 i vs[i] v (List.getElem?_eq_getElem hil) hi
        have h6 := h5.scal
        rw [List.all_eq_true.1 hsc vs[i] (by simp)] at h6
        cases v <;> simp_all [RS.scal, Value.oneCell']
      have haddr : a' = ⟨a'.block, a'.off, none⟩ := by obtain ⟨x, y, z⟩ := a'; simp only at hsp; subst hsp; rfl
      by_cases hvs : vs = []
      · subst hvs
        have hnil : vs' = [] := List.eq_nil_of_length_eq_zero hv.1.symm
        subst hnil
        refine ⟨w, by simp [storeCells], ?_⟩
        have : splice c o [] = c := by simp [splice]
        rw [this]
        have he : h.setIfInBounds b (.cells c) = h := by
          apply Array.ext_getElem?
          intro i
          by_cases hi : i = b
          · subst hi
            have hlt : i < h.size := (R.dom i _ _ hb).1
            rw [Array.getElem?_setIfInBounds_self]; simp only [hlt, if_true]; exact hcb.symm
          · rw [Array.getElem?_setIfInBounds_ne (Ne.symm hi)]
        rw [he]
        exact ⟨R, .refl R⟩
      · have hpos : 0 < vs.length := List.length_pos_iff.2 hvs
        have hin : a'.off + 0 + vs'.length ≤ c'.size := by
          have h7 := hlen' (o + vs.length - 1) (by omega)
          rw [ho, ← hv.1]; omega
        have hrun := run_storeCells_at (P := P) a'.block a'.off e vs' 0 c' w g1 hin hone
        rw [← haddr] at hrun
        refine ⟨_, hrun, ?_⟩
        have hw : w.setRow a'.block (c'.toList.take (a'.off + 0) ++ vs' ++ c'.toList.drop (a'.off + 0 + vs'.length)).toArray =
            { w with heap := w.heap.setIfInBounds a'.block (.cells (c'.toList.take a'.off ++ vs' ++ c'.toList.drop (a'.off + vs'.length)).toArray e (0, 0)) } := by
          simp only [World.setRow, Nat.add_zero]
          congr 1
          apply Array.ext_getElem?
          intro i
          by_cases hi : i = a'.block
          · subst hi
            have hlt : a'.block < w.heap.size := (R.dom b _ _ hb).2
            rw [Array.getElem?_modify, if_pos rfl, g1, Array.getElem?_setIfInBounds_self]
            simp only [hlt, if_true, Option.map_some]
          · rw [Array.getElem?_setIfInBounds_ne (Ne.symm hi), Array.getElem?_modify, if_neg (Ne.symm hi)]
        rw [hw]
        refine R.set hlo hb (by rw [hcb]; simp) _ _ ?_ (by simp) (fun L hL => by rw [g1] at hL; cases hL)
        refine ⟨_, _, _, rfl, fun _ => rfl, ?_, fun i v hiv => ?_⟩
        · rw [← gz]; have := hv.1; simp; omega
        simp only [List.getElem?_toArray]
        unfold RS.splice at hiv
        by_cases hi1 : i < o
        · rw [List.append_assoc, List.getElem?_append_left (by simp; omega), List.getElem?_take, if_pos hi1] at hiv
          obtain ⟨v', h8, h9⟩ := g3 i v hiv
          refine ⟨v', ?_, h9⟩
          rw [List.append_assoc, List.getElem?_append_left (by simp; omega), List.getElem?_take, if_pos (by omega), Array.getElem?_toList]
          exact h8
        · by_cases hi2 : i < o + vs.length
          · rw [List.append_assoc, List.getElem?_append_right (by simp; omega), List.getElem?_append_left (by simp; omega)] at hiv
            have hmin : (c.take o).length = o := by simp; omega
            rw [hmin] at hiv
            obtain ⟨v', h8, h9⟩ := hv.get hiv
            refine ⟨v', ?_, h9⟩
            have hmin' : (c'.toList.take a'.off).length = a'.off := by simp; omega
            have hl' := hv.1
            rw [List.append_assoc, List.getElem?_append_right (by rw [hmin']; omega), hmin', List.getElem?_append_left (by omega)]
            rw [show d.1 + i - a'.off = i - o by omega]; exact h8
          · rw [List.getElem?_append_right (by simp; omega), List.getElem?_drop] at hiv
            have hmin : (c.take o ++ vs).length = o + vs.length := by simp; omega
            rw [hmin] at hiv
            rw [show o + vs.length + (i - (o + vs.length)) = i by omega] at hiv
            obtain ⟨v', h8, h9⟩ := g3 i v hiv
            refine ⟨v', ?_, h9⟩
            have hl' := hv.1
            have hmin' : (c'.toList.take a'.off ++ vs').length = a'.off + vs'.length := by simp; omega
            rw [List.getElem?_append_right (by rw [hmin']; omega), hmin', List.getElem?_drop, show a'.off + vs'.length + (d.1 + i - (a'.off + vs'.length)) = d.1 + i by omega, Array.getElem?_toList]
            exact h8
    · cases hs
  · cases hs
end
end Go.RS

/- Each operation of the abstract machine is followed by the real one (2). -/
namespace Go.RS
open Go

section
variable {P : Program} {lo n0 : Nat} {β : Bij} {h h1 : AH} {w : World} {fr : Fr} {a : Act}

def VSim (P : Program) (lo n0 : Nat) (β : Bij) (h : AH) (w : World) (v : Value) (h1 : AH) (r : Result Value) : Prop :=
  ∃ β1 w1 v', r = .ok v' w1 ∧ VRel β1 v v' ∧ HRel P lo n0 β1 h1 w1 ∧ Ext lo β h w β1 h1 w1
def USim (P : Program) (lo n0 : Nat) (β : Bij) (h : AH) (w : World) (h1 : AH) (r : Result Unit) : Prop :=
  ∃ β1 w1, r = .ok () w1 ∧ HRel P lo n0 β1 h1 w1 ∧ Ext lo β h w β1 h1 w1
theorem VSim.quiet (R : HRel P lo n0 β h w) {v v' : Value} (hv : VRel β v v') {r : Result Value} (hr : r = .ok v' w) : VSim P lo n0 β h w v h r :=
  ⟨β, w, v', hr, hv, R, .refl R⟩
theorem VSim.new (R : HRel P lo n0 β h w) {o : AObj} {o' : Obj} (ho : ORel P β True o (some o') (0, objSize o')) {v v' : Value}
    (hv : VRel (bset β h.size (w.heap.size, (0, objSize o'))) v v') {r : Result Value} (hr : r = .ok v' { w with heap := w.heap.push o' }) : VSim P lo n0 β h w v (h.push o) r :=
  ⟨_, _, v', hr, hv, (R.alloc o o' ho).1, (R.alloc o o' ho).2⟩
theorem VSim.op {v : Value} {s : Sem Value} (hs : VSim P lo n0 β h w v h1 (s.run P w)) : OpSim P lo n0 β h w v h1 ((do pure (.value (← s)) : Sem Next).run P w) := by
  obtain ⟨β1, w1, v', hr, hv, hR, hE⟩ := hs
  exact ⟨β1, w1, v', .value v', by simp [hr], .inl rfl, hv, hR, hE⟩
theorem USim.op {s : Sem Unit} (hs : USim P lo n0 β h w h1 (s.run P w)) : OpSim P lo n0 β h w undef h1 ((do s; pure .skip : Sem Next).run P w) := by
  obtain ⟨β1, w1, hr, hR, hE⟩ := hs
  exact ⟨β1, w1, undef, .skip, by simp [hr], .inr ⟨rfl, rfl⟩, .undef _, hR, hE⟩

theorem szOf_run {t : TypeId} {n : Nat} (h : szOf P t = some n) (w : World) : (sizeOf t).run P w = .ok n w := by
  simp only [szOf, Option.map_eq_some_iff] at h
  obtain ⟨i, hi, rfl⟩ := h
  simp [sizeOf, typeInfo, hi]
theorem zeroOf_run {t : TypeId} {z : Value} (h : zeroOf P t = some z) (w : World) : (zeroValue t).run P w = .ok z w := by
  simp only [zeroOf, Option.bind_eq_some_iff] at h
  obtain ⟨i, hi, hz⟩ := h
  simp [zeroValue, typeInfo, hi, hz]
theorem isAgg_run {t : TypeId} {d : TypeDesc} (h : P.underlying t = some d) (w : World) : (isAgg t).run P w = .ok (isAggD d) w := by
  simp only [isAgg, Sem.run_bind, run_underlying h, Result.andThen_ok]
  cases d <;> rfl
theorem sure_run (x : Addr) (w : World) : (Instr.sureAddr (.pointer (some x))).run P w = .ok x w := rfl

theorem loadVar_rel (R : HRel P lo n0 β h w) {t : TypeId} {agg : Option Nat} (ht : aggSz P t = some agg) {b o : Nat} {v : Value}
    (hv : (match agg with | none => cellAt h b o | some n => (cellsAt h b o n).map fun c => .agg c.toArray) = some v) {a' : Addr} (ha : ARel β ⟨b, o, none⟩ a') :
    ∃ v', (loadVar t a').run P w = .ok v' w ∧ VRel β v v' := by
  simp only [aggSz, Option.bind_eq_some_iff] at ht
  obtain ⟨d, hd, ht⟩ := ht
  split at ht
  · rename_i hag
    simp only [Option.map_eq_some_iff] at ht
    obtain ⟨n, hn, rfl⟩ := ht
    simp only [Option.map_eq_some_iff] at hv
    obtain ⟨c, hc, rfl⟩ := hv
    obtain ⟨hlen, c', hcc, hcell⟩ := cells_rel R hc ha
    refine ⟨.agg c'.toArray, ?_, .agg' (by simpa using hcc)⟩
    have hl : n = c'.length := by rw [← hlen, hcc.1]
    simp only [loadVar, Sem.run_bind, isAgg_run hd, Result.andThen_ok, hag, if_true, szOf_run hn]
    rw [hl, run_loadCells_list w a' c' hcell]
    rfl
  · rename_i hag
    cases ht
    obtain ⟨v', h1, h2⟩ := cell_rel R hv ha
    refine ⟨v', ?_, h2⟩
    simp only [loadVar, Sem.run_bind, isAgg_run hd, Result.andThen_ok, hag]
    simp [h1]

theorem op_load (R : HRel P lo n0 β h w) {t : TypeId} {agg : Option Nat} (ht : aggSz P t = some agg) {b o : Nat} {v : Value}
    (hv : (match agg with | none => cellAt h b o | some n => (cellsAt h b o n).map fun c => .agg c.toArray) = some v) {x' : Value} (hx : VRel β (.pointer (some ⟨b, o, none⟩)) x') :
    VSim P lo n0 β h w v h ((Instr.loadAt t x').run P w) := by
  obtain ⟨a', rfl, ha⟩ := hx.ptr_inv
  obtain ⟨v', h1, h2⟩ := loadVar_rel R ht hv ha
  refine .quiet R h2 ?_
  simp only [Instr.loadAt, Sem.run_bind, sure_run, Result.andThen_ok, h1]

theorem op_store (R : HRel P lo n0 β h w) {t : TypeId} {n : Nat} (ht : szOf P t = some n) {b o : Nat} {v v' x' : Value} (hx : VRel β (.pointer (some ⟨b, o, none⟩)) x') (hv : VRel β v v')
    (hn : v.cells.size = n) (hsc : v.cells.toList.all scal = true) (hs : setCells lo h b o v.cells.toList = some h1) :
    USim P lo n0 β h w h1 ((Instr.storeAt t x' v').run P w) := by
  obtain ⟨a', rfl, ha⟩ := hx.ptr_inv
  obtain ⟨w1, hr, hR, hE⟩ := set_rel R hs hv.cells hsc ha
  refine ⟨β, w1, ?_, hR, hE⟩
  have hn' : v'.cells.size = n := by rw [hv.cells_size, hn]
  simp only [Instr.storeAt, Sem.run_bind, sure_run, Result.andThen_ok, storeVar, szOf_run ht, hn', ne_eq, not_true_eq_false, if_false, hr]

theorem op_alloc (R : HRel P lo n0 β h w) {t : TypeId} {z : Value} (hz : zeroOf P t = some z) (hc : z.cells.all closedS = true) :
    VSim P lo n0 β h w (ptr h.size 0) (h.push (.cells z.cells.toList)) ((Instr.alloc t true (.tuple #[])).run P w) := by
  refine .new R (o' := .cells z.cells t (0, 0)) (cells_new (closedL_rel (by simpa using hc))) ptr_new ?_
  simp only [Instr.alloc, Sem.run_bind, zeroOf_run hz, Result.andThen_ok, newVar, newRow, run_newObj, Sem.run_pure]
theorem op_box (R : HRel P lo n0 β h w) (t : TypeId) {v v' : Value} (hv : VRel β v v') :
    VSim P lo n0 β h w (ptr h.size 0) (h.push (.cells v.cells.toList)) ((Instr.box t v').run P w) := by
  refine .new R (o' := .cells v'.cells t (0, 0)) (cells_new hv.cells) ptr_new ?_
  simp only [Instr.box, Sem.run_bind, Result.andThen_ok, newVar, newRow, run_newObj, Sem.run_pure]

/-! ### Values put together -/
theorem zip_set (vs : List Value) : ∀ (off j : Nat) (cells : List Value), off + j + vs.length ≤ cells.length →
    (vs.toArray.zipIdx j).foldl (fun (cs : Array Value) (p : Value × Nat) => cs.setIfInBounds (off + p.2) p.1) cells.toArray = (splice cells (off + j) vs).toArray := by
  induction vs with
  | nil => intro off j cells _; rw [← Array.foldl_toList]; simp [splice]
  | cons v vs ih =>
    intro off j cells hl
    simp only [List.length_cons] at hl
    have e1 : ((v :: vs).toArray.zipIdx j).foldl (fun (cs : Array Value) (p : Value × Nat) => cs.setIfInBounds (off + p.2) p.1) cells.toArray =
        (vs.toArray.zipIdx (j + 1)).foldl (fun (cs : Array Value) (p : Value × Nat) => cs.setIfInBounds (off + p.2) p.1) (cells.toArray.setIfInBounds (off + j) v) := by
      rw [← Array.foldl_toList, ← Array.foldl_toList]
      simp [List.zipIdx_cons]
    rw [e1]
    have e2 : cells.toArray.setIfInBounds (off + j) v = (cells.set (off + j) v).toArray := by simp
    rw [e2, ih off (j + 1) _ (by simp; omega)]
    congr 1
    unfold splice
    apply List.ext_getElem?
    intro i
    have h1 : ((cells.set (off + j) v).take (off + (j + 1))).length = off + (j + 1) := by simp; omega
    have h2 : (cells.take (off + j)).length = off + j := by simp; omega
    by_cases c1 : i < off + j
    · rw [List.append_assoc, List.append_assoc, List.getElem?_append_left (by omega), List.getElem?_append_left (by omega), List.getElem?_take, List.getElem?_take, if_pos (by omega), if_pos c1, List.getElem?_set_ne (by omega)]
    · by_cases c2 : i = off + j
      · subst c2
        rw [List.append_assoc, List.getElem?_append_left (by omega), List.getElem?_take, if_pos (by omega), List.getElem?_set_self (by omega)]
        rw [List.append_assoc, List.getElem?_append_right (by omega), h2]
        simp
      · by_cases c3 : i < off + j + (vs.length + 1)
        · rw [List.append_assoc, List.getElem?_append_right (by omega), h1, List.getElem?_append_left (by omega)]
          rw [List.append_assoc, List.getElem?_append_right (by omega), h2, List.getElem?_append_left (by simp; omega)]
          rw [show i - (off + j) = (i - (off + (j + 1))) + 1 by omega, List.getElem?_cons_succ]
        · rw [List.getElem?_append_right (by simp; omega), List.getElem?_append_right (by simp; omega), List.getElem?_drop, List.getElem?_drop]
          simp only [List.length_append, h1, h2, List.length_cons]
          rw [List.getElem?_set_ne (by omega)]
          congr 1; omega
theorem fill_rel {place : Nat → Option (Nat × Nat)} : ∀ {ps : List (Nat × Operand)} {qs : List (Nat × Nat × Opd)} {c c' z : List Value},
    HRel P lo n0 β h w → FRel β fr a.tmps → lowParts P place ps = some qs → LRel β z c' → fillL (qs.map fun p => (p.1, p.2.1, p.2.2.ev fr)) z = some c →
    ∃ d : List Value, Instr.fill place c'.toArray (ps.map fun (i, x) => (i, a.eval x)) = some d.toArray ∧ LRel β c d
  | [], qs, c, c', z, R, F, hp, hz, hf => by
    simp [lowParts] at hp; subst hp
    simp [fillL] at hf; subst hf
    exact ⟨c', by simp [Instr.fill], hz⟩
  | (i, x) :: ps, qs, c, c', z, R, F, hp, hz, hf => by
    simp only [lowParts, Option.bind_eq_bind, Option.bind_eq_some_iff] at hp
    obtain ⟨⟨off, s⟩, h1, y, hy, r, hr, he⟩ := hp
    cases he
    simp only [List.map_cons, fillL] at hf
    split at hf
    · rename_i hc
      obtain ⟨hc1, hc2⟩ := hc
      have hv := opd_rel R F hy
      have hsz : (a.eval x).cells.size = s := by rw [hv.cells_size, hc1]
      have hl := hz.1
      have hcells : ((a.eval x).cells.zipIdx.foldl (fun cs (c, j) => cs.setIfInBounds (off + j) c) c'.toArray) = (splice c' off (a.eval x).cells.toList).toArray := by
        have := zip_set (a.eval x).cells.toList off 0 c' (by simp; omega)
        simpa using this
      obtain ⟨d, hd, hcd⟩ := fill_rel R F hr (hz.splice hv.cells off) hf
      refine ⟨d, ?_, hcd⟩
      simp only [List.map_cons, Instr.fill, h1]
      rw [if_neg (by simp; omega), hcells]
      exact hd
    · cases hf
end
end Go.RS

/- Each operation of the abstract machine is followed by the real one (3): values. -/
namespace Go.RS
open Go

section
variable {P : Program} {lo n0 : Nat} {β : Bij} {h h1 : AH} {w : World} {fr : Fr} {a : Act}

theorem mapM_run {α γ : Type} (g : α → Sem γ) (f : α → γ) (w : World) : ∀ (l : List α), (∀ x ∈ l, (g x).run P w = .ok (f x) w) → (l.mapM g).run P w = .ok (l.map f) w
  | [], _ => by simp
  | x :: l, h => by
    simp only [List.mapM_cons, Sem.run_bind, h x (by simp), Result.andThen_ok, mapM_run g f w l (fun y hy => h y (by simp [hy])), List.map_cons, Sem.run_pure]
theorem amapM_run {α γ : Type} (g : α → Sem γ) (f : α → γ) (w : World) (l : Array α) (h : ∀ x ∈ l, (g x).run P w = .ok (f x) w) : (l.mapM g).run P w = .ok (l.map f) w := by
  rw [Array.mapM_eq_mapM_toList, Sem.run_map, mapM_run g f w l.toList (fun x hx => h x (by simpa using hx))]
  simp [← Array.toList_map]

theorem op_build (R : HRel P lo n0 β h w) (F : FRel β fr a.tmps) {t : TypeId} {z : Value} {place : Nat → Option (Nat × Nat)} {parts : Array (Nat × Operand)} {qs : List (Nat × Nat × Opd)} {c : List Value}
    (hz : zeroOf P t = some z) (hpl : placesOf P t = some place) (hp : lowParts P place parts.toList = some qs) (hc : z.cells.all closedS = true)
    (hf : fillL (qs.map fun p => (p.1, p.2.1, p.2.2.ev fr)) z.cells.toList = some c) :
    VSim P lo n0 β h w (.agg c.toArray) h ((Instr.build t (parts.map fun (i, x) => (i, a.eval x))).run P w) := by
  obtain ⟨d, hd, hcd⟩ := fill_rel R F hp (closedL_rel (β := β) (by simpa using hc)) hf
  refine .quiet R (.agg' (by simpa using hcd)) ?_
  have e1 : (parts.map fun (i, x) => (i, a.eval x)).toList = parts.toList.map fun (i, x) => (i, a.eval x) := by simp
  simp only [placesOf, Option.bind_eq_some_iff] at hpl
  obtain ⟨desc, hdesc, hpl⟩ := hpl
  simp only [Instr.build, Sem.run_bind, zeroOf_run hz, Result.andThen_ok, run_underlying hdesc, e1]
  cases desc with
  | struct fs =>
    simp only at hpl
    split at hpl
    · rename_i hall
      cases hpl
      have hsz : ∀ f ∈ fs, szOf P f.type = some ((szOf P f.type).getD 0) := fun f hf => by
        have := Array.all_eq_true_iff_forall_mem.1 hall f hf
        simp only [szOf]
        cases hi : P.info? f.type with
        | none => rw [hi] at this; cases this
        | some i => rfl
      have hm := amapM_run (P := P) (fun f : Field => do pure (f.offset, ← sizeOf f.type)) (fun f => (f.offset, (szOf P f.type).getD 0)) w fs (fun f hf => by
        simp only [Sem.run_bind, szOf_run (hsz f hf), Result.andThen_ok, Sem.run_pure])
      have hplace : (fun i : Nat => (fs.map fun f : Field => (f.offset, (szOf P f.type).getD 0))[i]?) = fun i : Nat => (fs[i]?).bind fun f => (szOf P f.type).map fun s => (f.offset, s) := by
        funext i
        rw [Array.getElem?_map]
        cases hi : fs[i]? with
        | none => rfl
        | some f =>
          rw [Option.map_some, Option.bind_some, hsz f (Array.mem_of_getElem? hi)]
          rfl
      simp only [Sem.run_bind, hm, Result.andThen_ok]
      rw [hplace]
      have hd' : Instr.fill (fun i => (fs[i]?).bind fun f => (szOf P f.type).map fun s => (f.offset, s)) z.cells (parts.toList.map fun (i, x) => (i, a.eval x)) = some d.toArray := by simpa using hd
      rw [hd']; rfl
    · cases hpl
  | array n e =>
    simp only [Option.map_eq_some_iff] at hpl
    obtain ⟨s, hs, rfl⟩ := hpl
    simp only [Sem.run_bind, szOf_run hs, Result.andThen_ok]
    have hd' : Instr.fill (fun i => some (i * s, s)) z.cells (parts.toList.map fun (i, x) => (i, a.eval x)) = some d.toArray := by simpa using hd
    rw [hd']; rfl
  | _ => cases hpl

theorem op_buildSlice (R : HRel P lo n0 β h w) (F : FRel β fr a.tmps) {t e : TypeId} {s n : Nat} {z : Value} {parts : Array (Nat × Operand)} {qs : List (Nat × Nat × Opd)} {c : List Value}
    (ht : P.underlying t = some (.slice e)) (hs : szOf P e = some s) (hz : zeroOf P e = some z) (hp : lowParts P (fun i => some (i * s, s)) parts.toList = some qs)
    (hc : z.cells.all closedS = true) (hns : n * s ≤ 2 ^ 24) (hzs : z.cells.size = s) (hs0 : s ≠ 0) (hno : n < openCap)
    (hf : fillL (qs.map fun p => (p.1, p.2.1, p.2.2.ev fr)) ((List.range (n * s)).map fun i => z.cells.toList.getD (i % s) undef) = some c) :
    VSim P lo n0 β h w (.slice (some ⟨h.size, 0, none⟩) n n) (h.push (.cells c)) ((Instr.buildSlice t n (parts.map fun (i, x) => (i, a.eval x))).run P w) := by
  have hzz : LRel β ((List.range (n * s)).map fun i => z.cells.toList.getD (i % s) undef) ((Array.range (n * s)).map fun i => z.cells[i % z.cells.size]!).toList := by
    rw [Array.toList_map, Array.toList_range]
    refine .map fun i hi => ?_
    have hlt : i % s < z.cells.size := by rw [hzs]; exact Nat.mod_lt _ (Nat.pos_of_ne_zero hs0)
    rw [hzs, getElem!_pos z.cells (i % s) hlt, List.getD_eq_getElem?_getD, List.getElem?_eq_getElem (by simpa using hlt)]
    simp only [Array.getElem_toList, Option.getD_some]
    refine closedS_rel ?_
    have := Array.all_eq_true_iff_forall_mem.1 hc z.cells[i % s] (Array.getElem_mem hlt)
    exact this
  obtain ⟨d, hd, hcd⟩ := fill_rel R F hp hzz hf
  refine .new R (o' := .cells d.toArray e (0, 0)) (cells_new (by simpa using hcd)) (.sl (a' := ⟨w.heap.size, 0, none⟩) arel_new ⟨hno, .inl ⟨hno, rfl, Nat.le_refl _⟩⟩) ?_
  have e1 : (parts.map fun (i, x) => (i, a.eval x)).toList = parts.toList.map fun (i, x) => (i, a.eval x) := by simp
  rw [Array.toArray_toList] at hd
  simp only [Instr.buildSlice, Sem.run_bind, run_underlying ht, Result.andThen_ok, szOf_run hs, e1]
  rw [if_neg (by omega)]
  by_cases h0 : n * s = 0
  · have e0 : ∀ f : Nat → Value, (Array.range (n * s)).map f = #[] := by intro f; rw [h0]; apply Array.eq_empty_of_size_eq_zero; simp
    rw [e0] at hd
    rw [if_pos h0]
    simp only [Sem.run_bind, Sem.run_pure, Result.andThen_ok]
    rw [e0, hd]
    simp only [newRow, Sem.run_bind, run_newObj, Result.andThen_ok, Sem.run_pure]
  · rw [if_neg h0]
    simp only [Sem.run_bind, zeroOf_run hz, Result.andThen_ok, Sem.run_pure]
    rw [hd]
    simp only [newRow, Sem.run_bind, run_newObj, Result.andThen_ok, Sem.run_pure]

/-! ### Arithmetic and comparisons -/
theorem guard_run (op : BinOp) (t : TypeId) (x y : Operand) (u v : Value) (hu : (match u with | .agg _ | .nilIface => false | _ => true) = true) :
    (eqGuard op t x y u v).run P w = .ok () w := by
  unfold eqGuard
  cases op <;> simp only [Bool.not_true, Bool.not_false, if_true, if_false, Bool.false_eq_true, Sem.run_pure] <;> first | rfl | (cases u <;> first | rfl | cases hu)

theorem op_bin (R : HRel P lo n0 β h w) {op : BinOp} {t : TypeId} {x y : Operand} {u v u' v' r : Value} (hu : VRel β u u') (hv : VRel β v v') (hr : binA op u v = some r) :
    VSim P lo n0 β h w r h ((do eqGuard op t x y u' v'; binOp op t u' v').run P w) := by
  unfold binA at hr
  split at hr
  · rename_i k m k' n
    split at hr
    · rename_i hk; subst hk
      rw [hu.int_inv, hv.int_inv]
      have key : ∃ r', (binOp op t (.int k m) (.int k n)).run P w = .ok r w ∧ r' = r ∧ VRel β r r := by
        cases op <;> simp only [binInt, Option.some.injEq] at hr <;> first
          | (cases hr; done)
          | (subst hr; exact ⟨_, rfl, rfl, by first | exact .int _ _ | exact .bool _⟩)
          | (subst hr; refine ⟨_, ?_, rfl, by first | exact .int _ _ | exact .bool _⟩; simp [binOp, Op.intArith, Op.intCmp, Op.intBits])
          | (split at hr
             · cases hr
             · rename_i hn
               cases hr
               refine ⟨_, ?_, rfl, .int _ _⟩
               first | (simp [binOp, Op.intDiv, hn]; done) | (simp [binOp, Op.shift, hn]; done))
          | (subst hr; exact ⟨_, rfl, rfl, .int _ _⟩)
      obtain ⟨r', h2, rfl, h4⟩ := key
      refine .quiet R h4 ?_
      simp only [Sem.run_bind, guard_run (P := P) (w := w) op t x y (.int k m) (.int k n) rfl, Result.andThen_ok, h2]
    · cases hr
  · rename_i m n
    rw [hu.str_inv, hv.str_inv]
    have key : (binOp op t (.string m) (.string n)).run P w = .ok r w ∧ VRel β r r := by
      cases op <;> simp only [binStr, Option.some.injEq] at hr <;> first
        | (cases hr; done)
        | (subst hr; exact ⟨rfl, .bool _⟩)
        | (split at hr
           · rename_i hn
             cases hr
             refine ⟨?_, .string _⟩
             simp only [binOp, Op.stringOp]
             have hne : ¬ ((m.size + n.size : Nat) : Int) > IntKind.i64.max := by
               have : IntKind.i64.max = 9223372036854775807 := rfl
               rw [this]; omega
             rw [if_neg hne]; rfl
           · cases hr)
    refine .quiet R key.2 ?_
    simp only [Sem.run_bind, guard_run (P := P) (w := w) op t x y (.string m) (.string n) rfl, Result.andThen_ok, key.1]
  · cases hr

theorem isNil_inv {k : EqK} {u u' : Value} {b : Bool} (hu : VRel β u u') (hn : isNil k u = some b) : isNil k u' = some b := by
  cases k <;> cases hu <;> simp_all [isNil]
end
end Go.RS

/- Each operation of the abstract machine is followed by the real one (4): comparisons of aggregates, slices, fields, indexes. -/
namespace Go.RS
open Go

section
variable {P : Program} {lo n0 : Nat} {β : Bij} {h h1 : AH} {w : World} {fr : Fr} {a : Act}

/-! ### Atoms -/
theorem atomEq_same {k : AK} {x y x' y' : Value} {b : Bool} (hx : VRel β x x') (hy : VRel β y y') (he : atomEq k x y = some b) : x' = x ∧ y' = y ∧ atomEq k x' y' = some b := by
  unfold atomEq at he
  split at he <;> first
    | (rw [hx.int_inv, hy.int_inv]; exact ⟨rfl, rfl, he⟩)
    | (rw [hx.bool_inv, hy.bool_inv]; exact ⟨rfl, rfl, he⟩)
    | (rw [hx.str_inv, hy.str_inv]; exact ⟨rfl, rfl, he⟩)
    | cases he
theorem atomsEq_same : ∀ {ks : List AK} {x y x' y' : List Value} {b : Bool}, LRel β x x' → LRel β y y' → atomsEq ks x y = some b → x' = x ∧ y' = y
  | [], [], [], x', y', b, hx, hy, he => ⟨List.eq_nil_of_length_eq_zero hx.1.symm, List.eq_nil_of_length_eq_zero hy.1.symm⟩
  | k :: ks, u :: x, v :: y, x', y', b, hx, hy, he => by
    cases x' with
    | nil => have := hx.1; simp at this
    | cons u' x' =>
      cases y' with
      | nil => have := hy.1; simp at this
      | cons v' y' =>
        simp only [atomsEq] at he
        split at he
        · rename_i c d h1 h2
          obtain ⟨e1, e2, _⟩ := atomEq_same hx.head hy.head h1
          obtain ⟨e3, e4⟩ := atomsEq_same hx.tail hy.tail h2
          exact ⟨by rw [e1, e3], by rw [e2, e4]⟩
        · cases he
  | [], _ :: _, _, _, _, _, _, _, he => by simp [atomsEq] at he
  | [], [], _ :: _, _, _, _, _, _, he => by simp [atomsEq] at he
  | _ :: _, [], _, _, _, _, _, _, he => by simp [atomsEq] at he
  | _ :: _, _ :: _, [], _, _, _, _, _, he => by simp [atomsEq] at he

theorem atomsEq_len : ∀ {ks : List AK} {x y : List Value} {b : Bool}, atomsEq ks x y = some b → x.length = ks.length ∧ y.length = ks.length
  | [], [], [], _, _ => ⟨rfl, rfl⟩
  | k :: ks, u :: x, v :: y, b, he => by
    simp only [atomsEq] at he
    split at he
    · rename_i c d h1 h2
      have := atomsEq_len h2
      simp; exact this
    · cases he
  | [], _ :: _, _, _, he => by simp [atomsEq] at he
  | [], [], _ :: _, _, he => by simp [atomsEq] at he
  | _ :: _, [], _, _, he => by simp [atomsEq] at he
  | _ :: _, _ :: _, [], _, he => by simp [atomsEq] at he
theorem atomsEq_append : ∀ {ks ls : List AK} {x y : List Value} {b : Bool}, atomsEq (ks ++ ls) x y = some b →
    ∃ c d, atomsEq ks (x.take ks.length) (y.take ks.length) = some c ∧ atomsEq ls (x.drop ks.length) (y.drop ks.length) = some d ∧ b = (c && d)
  | [], ls, x, y, b, he => ⟨true, b, by simp [atomsEq], by simpa using he, by simp⟩
  | k :: ks, ls, [], y, b, he => by simp [atomsEq] at he
  | k :: ks, ls, u :: x, [], b, he => by simp [atomsEq] at he
  | k :: ks, ls, u :: x, v :: y, b, he => by
    simp only [List.cons_append, atomsEq] at he
    split at he
    · rename_i c d h1 h2
      obtain ⟨c', d', h3, h4, h5⟩ := atomsEq_append h2
      cases he
      refine ⟨c && c', d', ?_, by simpa using h4, by rw [h5, Bool.and_assoc]⟩
      simp only [List.length_cons, List.take_succ_cons, atomsEq, h1, h3]
    · cases he

theorem part_run {t : TypeId} {d : TypeDesc} (hd : P.underlying t = some d) {n : Nat} (hn : szOf P t = some n) (cs : Array Value) (off : Nat) (w : World) :
    (part t cs off).run P w = if isAggD d then .ok (.agg (cs.extract off (off + n))) w else match cs[off]? with | some v => .ok v w | none => .halt (.stuck "part: no such cell") w := by
  simp only [part, Sem.run_bind, isAgg_run hd, Result.andThen_ok, Sem.run_ite, szOf_run hn, Sem.run_pure]
  split
  · rfl
  · cases cs[off]? <;> rfl

theorem cellsOf_of_szOf {t : TypeId} {n : Nat} (h : szOf P t = some n) : P.cellsOf t = n := by
  simp only [szOf, Option.map_eq_some_iff] at h
  obtain ⟨i, hi, rfl⟩ := h
  simp [Program.cellsOf, hi]

/-- Equality of two aggregates of atoms, and of two atoms. -/
def EqFlat (P : Program) (D : Nat) (t : TypeId) (ks : List AK) : Prop :=
  ∃ desc, P.underlying t = some desc ∧ ∀ (w : World) (xs ys : List Value) (b : Bool), atomsEq ks xs ys = some b →
    (isAggD desc = true → (Op.equalIn D t (.agg xs.toArray) (.agg ys.toArray)).run P w = .ok b w) ∧
    (isAggD desc = false → ∃ u v, xs = [u] ∧ ys = [v] ∧ (Op.equalIn D t u v).run P w = .ok b w)

theorem ext_arr (xs : List Value) (off n : Nat) : xs.toArray.extract off (off + n) = ((xs.drop off).take n).toArray := by
  apply Array.ext'
  simp [List.extract_eq_take_drop]
/-- The parts of two aggregates, compared. -/
theorem part_eq {D : Nat} {t : TypeId} {ks : List AK} (IH : EqFlat P D t ks) (hn : szOf P t = some ks.length) (w : World) (xs ys : List Value) (off : Nat) {c : Bool}
    (he : atomsEq ks ((xs.drop off).take ks.length) ((ys.drop off).take ks.length) = some c) :
    ∃ u v, (part t xs.toArray off).run P w = .ok u w ∧ (part t ys.toArray off).run P w = .ok v w ∧ (Op.equalIn D t u v).run P w = .ok c w := by
  obtain ⟨desc, hd, hall⟩ := IH
  obtain ⟨h1, h2⟩ := hall w _ _ c he
  rw [part_run hd hn, part_run hd hn]
  cases hag : isAggD desc with
  | true =>
    simp only [if_true]
    rw [ext_arr, ext_arr]
    exact ⟨_, _, rfl, rfl, h1 hag⟩
  | false =>
    obtain ⟨u, v, hx, hy, hr⟩ := h2 hag
    simp only [Bool.false_eq_true, if_false]
    have gx : xs[off]? = some u := by
      have := congrArg (·[0]?) hx
      simp only [List.getElem?_take, List.getElem?_drop, Nat.add_zero] at this
      split at this
      · simpa using this
      · simp at this
    have gy : ys[off]? = some v := by
      have := congrArg (·[0]?) hy
      simp only [List.getElem?_take, List.getElem?_drop, Nat.add_zero] at this
      split at this
      · simpa using this
      · simp at this
    simp only [List.getElem?_toArray, gx, gy]
    exact ⟨u, v, rfl, rfl, hr⟩

theorem fields_eq {rc : TypeId → Option (List AK)} {D : Nat} (IH : ∀ t ks, rc t = some ks → EqFlat P D t ks) (w : World) (xs ys : List Value) : ∀ (fs : List Field) (off : Nat) (ks : List AK) (b : Bool),
    flatF P rc fs off = some ks → atomsEq ks (xs.drop off) (ys.drop off) = some b → (Op.eqFields D xs.toArray ys.toArray fs).run P w = .ok b w
  | [], off, ks, b, hf, he => by
    simp only [flatF, Option.some.injEq] at hf; subst hf
    have h1 := atomsEq_len he
    have e1 : xs.drop off = [] := List.eq_nil_of_length_eq_zero h1.1
    have e2 : ys.drop off = [] := List.eq_nil_of_length_eq_zero h1.2
    rw [e1, e2] at he
    simp only [atomsEq, Option.some.injEq] at he; subst he
    rfl
  | f :: fs, off, ks, b, hf, he => by
    simp only [flatF] at hf
    split at hf
    · rename_i hc
      obtain ⟨hname, hoff⟩ := hc
      simp only [Option.bind_eq_some_iff] at hf
      obtain ⟨k1, hk1, hf⟩ := hf
      split at hf
      · rename_i hsz
        simp only [Option.map_eq_some_iff] at hf
        obtain ⟨k2, hk2, rfl⟩ := hf
        obtain ⟨c, d, h1, h2, rfl⟩ := atomsEq_append he
        obtain ⟨u, v, p1, p2, p3⟩ := part_eq (IH _ _ hk1) hsz w xs ys off h1
        have ih := fields_eq IH w xs ys fs (off + k1.length) k2 d hk2 (by simpa [List.drop_drop, Nat.add_comm] using h2)
        rw [← hoff] at p1 p2
        simp only [Op.eqFields, hname, ne_eq, not_false_eq_true, if_true, Sem.run_bind, p1, p2, p3, Result.andThen_ok]
        cases c
        · simp
        · simpa using ih
      · cases hf
    · cases hf

theorem items_eq {e : TypeId} {k : List AK} {D : Nat} (IH : EqFlat P D e k) (hn : szOf P e = some k.length) (w : World) (xs ys : List Value) : ∀ (m i : Nat) (b : Bool),
    atomsEq (List.replicate m k).flatten (xs.drop (i * k.length)) (ys.drop (i * k.length)) = some b →
    (Op.eqItems D e k.length xs.toArray ys.toArray (List.range' i m)).run P w = .ok b w
  | 0, i, b, he => by
    simp only [List.replicate_zero, List.flatten_nil] at he
    have h1 := atomsEq_len he
    have e1 : xs.drop (i * k.length) = [] := List.eq_nil_of_length_eq_zero h1.1
    have e2 : ys.drop (i * k.length) = [] := List.eq_nil_of_length_eq_zero h1.2
    rw [e1, e2] at he
    simp only [atomsEq, Option.some.injEq] at he; subst he
    rfl
  | m + 1, i, b, he => by
    rw [List.replicate_succ, List.flatten_cons] at he
    obtain ⟨c, d, h1, h2, rfl⟩ := atomsEq_append he
    obtain ⟨u, v, p1, p2, p3⟩ := part_eq IH hn w xs ys (i * k.length) h1
    have ih := items_eq IH hn w xs ys m (i + 1) d (by simpa [List.drop_drop, Nat.add_mul, Nat.add_comm] using h2)
    rw [List.range'_succ]
    simp only [Op.eqItems, Sem.run_bind, p1, p2, p3, Result.andThen_ok]
    cases c
    · simp
    · simpa using ih

theorem flat_eq : ∀ (d : Nat) (t : TypeId) (ks : List AK) (D : Nat), d ≤ D → flatT P d t = some ks → EqFlat P D t ks
  | 0, t, ks, D, hD, hf => by simp [flatT] at hf
  | d + 1, t, ks, D, hD, hf => by
    obtain ⟨D, rfl⟩ : ∃ E, D = E + 1 := ⟨D - 1, by omega⟩
    have IH : ∀ t ks, flatT P d t = some ks → EqFlat P D t ks := fun t ks h => flat_eq d t ks D (by omega) h
    simp only [flatT] at hf
    split at hf
    · rename_i fs hu
      split at hf
      · cases hf
      · rename_i hst
        refine ⟨_, hu, fun w xs ys b he => ⟨fun _ => ?_, fun hc => by simp [isAggD] at hc⟩⟩
        have hfs : P.fieldsOf t = fs := by simp [Program.fieldsOf, hu]
        rw [run_equalIn_struct w D t _ _ (by rw [hfs]; exact hu) (by simpa using hst), hfs]
        exact fields_eq IH w xs ys fs.toList 0 ks b hf (by simpa using he)
    · rename_i n e hu
      simp only [Option.bind_eq_some_iff] at hf
      obtain ⟨k, hk, hf⟩ := hf
      split at hf
      · rename_i hsz
        cases hf
        refine ⟨_, hu, fun w xs ys b he => ⟨fun _ => ?_, fun hc => by simp [isAggD] at hc⟩⟩
        have hi : ∃ i, P.info? e = some i := by
          simp only [szOf, Option.map_eq_some_iff] at hsz
          obtain ⟨i, hi, _⟩ := hsz; exact ⟨i, hi⟩
        obtain ⟨i, hi⟩ := hi
        rw [run_equalIn_array w D _ _ hu hi, cellsOf_of_szOf hsz, List.range_eq_range']
        exact items_eq (IH e k hk) hsz w xs ys n 0 b (by simpa using he)
      · cases hf
    · rename_i desc h1 h2 hu
      simp only [Option.bind_eq_some_iff] at hf
      obtain ⟨k, hk, hf⟩ := hf
      split at hf
      · rename_i hsz
        cases hf
        have hag : isAggD desc = false := by cases desc <;> first | rfl | (simp [atomK] at hk)
        refine ⟨_, hu, fun w xs ys b he => ⟨fun hc => (by rw [hag] at hc; cases hc), fun _ => ?_⟩⟩
        have hl := atomsEq_len he
        obtain ⟨u, rfl⟩ := List.length_eq_one_iff.1 hl.1
        obtain ⟨v, rfl⟩ := List.length_eq_one_iff.1 hl.2
        · refine ⟨u, v, rfl, rfl, ?_⟩
          simp only [atomsEq] at he
          split at he
          · rename_i c d' e1 e2
            cases he; cases e2
            unfold atomEq at e1
            split at e1
            · split at e1
              · rename_i hk'; subst hk'
                cases e1
                cases desc <;> simp [atomK] at hk
                simp [Op.equalIn, run_underlying hu]
              · cases e1
            · cases e1
              cases desc <;> simp [atomK] at hk
              simp [Op.equalIn, run_underlying hu]
            · cases e1
              cases desc <;> simp [atomK] at hk
              simp [Op.equalIn, run_underlying hu]
            · cases e1
          · cases he
      · cases hf
    · cases hf

theorem op_eqAgg (R : HRel P lo n0 β h w) {neg : Bool} {t : TypeId} {x y : Operand} {d : TypeDesc} {ks : List AK} {u v u' v' : Value} {b : Bool} (hd : P.underlying t = some d) (hag : isAggD d = true)
    (hg : P.eqGuardType P.depth t = false) (hk : flatT P 50 t = some ks) (hu : VRel β u u') (hv : VRel β v v') (hr : keyEq (.agg ks) u v = some b) :
    VSim P lo n0 β h w (.bool (if neg then !b else b)) h ((do eqGuard (if neg then .neq else .eql) t x y u' v'; binOp (if neg then .neq else .eql) t u' v').run P w) := by
  unfold keyEq at hr
  split at hr
  · rename_i heq; cases heq
  · rename_i ks' xs ys heq
    cases heq
    obtain ⟨xs', rfl, hxx⟩ := hu.agg_inv
    obtain ⟨ys', rfl, hyy⟩ := hv.agg_inv
    obtain ⟨ex, ey⟩ := atomsEq_same hxx hyy hr
    have e1 : xs' = xs := Array.toList_inj.1 ex
    have e2 : ys' = ys := Array.toList_inj.1 ey
    subst e1; subst e2
    obtain ⟨desc, hd', hall⟩ := flat_eq (P := P) 50 t ks Op.maxDepth (by decide) hk
    rw [hd] at hd'; cases hd'
    have heq := (hall w _ _ b hr).1 hag
    refine .quiet R (.bool _) ?_
    have hgr : ∀ op, (eqGuard op t x y (.agg xs') (.agg ys')).run P w = .ok () w := by
      intro op
      unfold eqGuard
      cases op <;> simp [hg]
    cases neg
    · simp only [Bool.false_eq_true, if_false, Sem.run_bind, hgr, Result.andThen_ok]
      rw [run_eql_struct]
      have : (Op.equalIn 10000 t (.agg xs') (.agg ys')).run P w = .ok b w := heq
      rw [this]; rfl
    · simp only [if_true, Sem.run_bind, hgr, Result.andThen_ok]
      rw [run_neq_struct]
      have : (Op.equalIn 10000 t (.agg xs') (.agg ys')).run P w = .ok b w := heq
      rw [this]; rfl
  · cases hr
end
end Go.RS

/- Each operation of the abstract machine is followed by the real one (5). -/
namespace Go.RS
open Go

section
variable {P : Program} {lo n0 : Nat} {β : Bij} {h h1 : AH} {w : World} {fr : Fr} {a : Act}

theorem equal_slice {t e : TypeId} (hd : P.underlying t = some (.slice e)) {u v : Value} {b : Bool} (he : eqNilA .slice u v = some b) (d : Nat) (w : World) : (Op.equalIn (d + 1) t u v).run P w = .ok b w := by
  cases u <;> (try (simp [eqNilA, isNil] at he; done))
  cases v <;> (try (simp [eqNilA, isNil] at he; done))
  rename_i x _ _ y _ _
  cases x <;> cases y <;> simp [eqNilA, isNil] at he <;> subst he <;> simp [Op.equalIn, run_underlying hd]
theorem equal_map {t k e : TypeId} (hd : P.underlying t = some (.map k e)) {u v : Value} {b : Bool} (he : eqNilA .map u v = some b) (d : Nat) (w : World) : (Op.equalIn (d + 1) t u v).run P w = .ok b w := by
  cases u <;> (try (simp [eqNilA, isNil] at he; done))
  cases v <;> (try (simp [eqNilA, isNil] at he; done))
  rename_i x y
  cases x <;> cases y <;> simp [eqNilA, isNil] at he <;> subst he <;> simp [Op.equalIn, run_underlying hd]
theorem equal_func {t : TypeId} {ps rs : Array TypeId} {vd : Bool} (hd : P.underlying t = some (.func ps rs vd)) {u v : Value} {b : Bool} (he : eqNilA .func u v = some b) (d : Nat) (w : World) : (Op.equalIn (d + 1) t u v).run P w = .ok b w := by
  cases u <;> (try (simp [eqNilA, isNil] at he; done)) <;> cases v <;> simp [eqNilA, isNil] at he <;> subst he <;> simp [Op.equalIn, run_underlying hd]
theorem equal_bool {t : TypeId} (hd : P.underlying t = some .bool) (x y : Bool) (d : Nat) (w : World) : (Op.equalIn (d + 1) t (.bool x) (.bool y)).run P w = .ok (x == y) w := by
  simp [Op.equalIn, run_underlying hd]

theorem eqNil_inv {k : EqK} {u v u' v' : Value} {b : Bool} (hu : VRel β u u') (hv : VRel β v v') (he : eqNilA k u v = some b) : eqNilA k u' v' = some b := by
  unfold eqNilA at he ⊢
  cases h1 : isNil k u with
  | none => simp [h1] at he
  | some x =>
    cases h2 : isNil k v with
    | none => simp [h1, h2] at he
    | some y => rw [isNil_inv hu h1, isNil_inv hv h2]; rw [h1, h2] at he; exact he

theorem bin_of_equal {neg : Bool} {t : TypeId} {x y : Operand} {u v : Value} {b : Bool} (hn : (match u with | .agg _ | .nilIface | .int _ _ | .float _ _ | .complex _ _ _ | .string _ => false | _ => true) = true)
    (he : (Op.equalIn (9999 + 1) t u v).run P w = .ok b w) :
    (do eqGuard (if neg then .neq else .eql) t x y u v; binOp (if neg then .neq else .eql) t u v : Sem Value).run P w = .ok (.bool (if neg then !b else b)) w := by
  have hg : ∀ op, (eqGuard op t x y u v).run P w = .ok () w := fun op => guard_run op t x y u v (by cases u <;> first | rfl | cases hn)
  have he' : (Op.equal t u v).run P w = .ok b w := he
  cases neg
  · simp only [Bool.false_eq_true, if_false, Sem.run_bind, hg, Result.andThen_ok]
    cases u <;> first | (cases hn; done) | (simp only [binOp, Sem.run_bind, he', Result.andThen_ok, Sem.run_pure])
  · simp only [if_true, Sem.run_bind, hg, Result.andThen_ok]
    cases u <;> first | (cases hn; done) | (simp only [binOp, Sem.run_bind, he', Result.andThen_ok, Sem.run_pure])

def eqKOk : EqK → TypeDesc → Bool
  | .slice, .slice _ | .map, .map _ _ | .func, .func _ _ _ => true
  | _, _ => false
theorem op_eqNil (R : HRel P lo n0 β h w) {k : EqK} {neg : Bool} {t : TypeId} {d : TypeDesc} {x y : Operand} (hd : P.underlying t = some d)
    (hk : eqKOk k d = true) {u v u' v' : Value} {b : Bool} (hu : VRel β u u') (hv : VRel β v v')
    (he : eqNilA k u v = some b) : VSim P lo n0 β h w (.bool (if neg then !b else b)) h ((do eqGuard (if neg then .neq else .eql) t x y u' v'; binOp (if neg then .neq else .eql) t u' v').run P w) := by
  have he' := eqNil_inv hu hv he
  refine .quiet R (.bool _) (bin_of_equal ?_ ?_)
  · cases k <;> cases u' <;> first | rfl | (simp [eqNilA, isNil] at he')
  · cases k <;> cases d <;> simp only [eqKOk, Bool.false_eq_true] at hk
    · exact equal_slice hd he' 9999 w
    · exact equal_map hd he' 9999 w
    · exact equal_func hd he' 9999 w
theorem op_eqBool (R : HRel P lo n0 β h w) {neg : Bool} {t : TypeId} {x y : Operand} (hd : P.underlying t = some .bool) {u v : Bool} {u' v' : Value} (hu : VRel β (.bool u) u') (hv : VRel β (.bool v) v') :
    VSim P lo n0 β h w (.bool (if neg then !(u == v) else u == v)) h ((do eqGuard (if neg then .neq else .eql) t x y u' v'; binOp (if neg then .neq else .eql) t u' v').run P w) := by
  rw [hu.bool_inv, hv.bool_inv]
  exact .quiet R (.bool _) (bin_of_equal rfl (equal_bool hd u v 9999 w))

theorem op_un (R : HRel P lo n0 β h w) {op : UnOp} {u u' r : Value} (hu : VRel β u u') (hr : unA op u = some r) : VSim P lo n0 β h w r h ((Op.unary op u').run P w) := by
  cases op <;> cases u <;> simp [unA] at hr
  · rw [hu.int_inv]; subst hr; exact .quiet R (.int _ _) (by simp [Op.unary, Op.intArith])
  · rw [hu.bool_inv]; subst hr; exact .quiet R (.bool _) (by simp [Op.unary])
theorem op_conv (R : HRel P lo n0 β h w) {s d : TypeId} {ks k : IntKind} (hs : P.underlying s = some (.int ks)) (hd : P.underlying d = some (.int k)) {k0 : IntKind} {n : Int} {u' : Value} (hu : VRel β (.int k0 n) u') :
    VSim P lo n0 β h w (.int k (k.wrap n)) h ((convert s d u').run P w) := by
  rw [hu.int_inv]
  refine .quiet R (.int _ _) ?_
  simp [convert, run_underlying hs, run_underlying hd, Conv.intToInt]

/-! ### Addresses, parts -/
theorem op_fieldAddr (R : HRel P lo n0 β h w) {s : TypeId} {fs : Array Field} {i : Nat} {f : Field} {n : Nat} (hs : P.underlying s = some (.struct fs)) (hf : fs[i]? = some f) (hn : szOf P f.type = some n) (hn0 : n ≠ 0)
    {x : Addr} {x' : Value} (hx : VRel β (.pointer (some x)) x') : VSim P lo n0 β h w (.pointer (some (x.add f.offset))) h ((Instr.fieldAt s x' i).run P w) := by
  obtain ⟨a', rfl, ha⟩ := hx.ptr_inv
  refine .quiet R (.ptr (ha.add _)) ?_
  simp only [Instr.fieldAt, Sem.run_bind, run_underlying hs, Result.andThen_ok, hf, sure_run, fieldPlace, szOf_run hn, hn0, if_false, Sem.run_pure]
theorem part_rel {t : TypeId} {agg : Option Nat} (ht : aggSz P t = some agg) {c c' : List Value} (hc : LRel β c c') {off : Nat} {v : Value} (hv : partL c off agg = some v) (w : World) :
    ∃ v', (part t c'.toArray off).run P w = .ok v' w ∧ VRel β v v' := by
  simp only [aggSz, Option.bind_eq_some_iff] at ht
  obtain ⟨d, hd, ht⟩ := ht
  simp only [part, Sem.run_bind, isAgg_run hd, Result.andThen_ok]
  split at ht
  · rename_i hag
    simp only [Option.map_eq_some_iff] at ht
    obtain ⟨n, hn, rfl⟩ := ht
    simp only [partL, Option.some.injEq] at hv; subst hv
    refine ⟨_, ?_, .agg' (x' := ((c'.drop off).take n).toArray) (by simpa using (hc.drop off).take n)⟩
    simp only [hag, if_true, Sem.run_bind, szOf_run hn, Result.andThen_ok, Sem.run_pure, ext_arr]
  · rename_i hag
    cases ht
    simp only [partL] at hv
    obtain ⟨v', h1, h2⟩ := hc.get hv
    refine ⟨v', ?_, h2⟩
    simp only [hag, Bool.false_eq_true, if_false, List.getElem?_toArray, h1, Sem.run_pure]
theorem op_part (R : HRel P lo n0 β h w) {t : TypeId} {fs : Array Field} {i : Nat} {f : Field} {agg : Option Nat} (hs : P.underlying t = some (.struct fs)) (hf : fs[i]? = some f) (ha : aggSz P f.type = some agg)
    {cs : Array Value} {v x' : Value} (hx : VRel β (.agg cs) x') (hv : partL cs.toList f.offset agg = some v) : VSim P lo n0 β h w v h ((Instr.field t x' i).run P w) := by
  obtain ⟨cs', rfl, hc⟩ := hx.agg_inv
  obtain ⟨v', h1, h2⟩ := part_rel ha hc hv w
  refine .quiet R h2 ?_
  simp only [Instr.field, Sem.run_bind, run_underlying hs, Result.andThen_ok, hf, asAgg, Sem.run_pure]
  simpa using h1
theorem op_indexA (R : HRel P lo n0 β h w) {t e : TypeId} {n s : Nat} {agg : Option Nat} (ht : P.underlying t = some (.array n e)) (hs : szOf P e = some s) (ha : aggSz P e = some agg)
    {cs : Array Value} {v x' i' : Value} {k : IntKind} {i : Int} (hx : VRel β (.agg cs) x') (hi : VRel β (.int k i) i') (h0 : 0 ≤ i ∧ i < n) (hv : partL cs.toList (i.toNat * s) agg = some v) :
    VSim P lo n0 β h w v h ((Instr.index t x' i').run P w) := by
  obtain ⟨cs', rfl, hc⟩ := hx.agg_inv
  rw [hi.int_inv]
  obtain ⟨v', h1, h2⟩ := part_rel ha hc hv w
  refine .quiet R h2 ?_
  simp only [Instr.index, asIntOf, Sem.run_bind, Sem.run_pure, run_underlying ht, Result.andThen_ok, h0, and_self, if_true, szOf_run hs]
  simpa using h1
theorem op_indexStr (R : HRel P lo n0 β h w) {t : TypeId} (ht : P.underlying t = some .string) {s : ByteArray} {x' i' : Value} {k : IntKind} {i : Int} {b : UInt8} (hx : VRel β (.string s) x') (hi : VRel β (.int k i) i')
    (h0 : 0 ≤ i) (hb : s[i.toNat]? = some b) : VSim P lo n0 β h w (.int .u8 b.toNat) h ((Instr.index t x' i').run P w) := by
  rw [hx.str_inv, hi.int_inv]
  refine .quiet R (.int _ _) ?_
  simp only [Instr.index, asIntOf, Sem.run_bind, Sem.run_pure, run_underlying ht, Result.andThen_ok, h0, if_true, hb]
theorem op_indexAddrA (R : HRel P lo n0 β h w) {t e : TypeId} {n s : Nat} (ht : P.underlying t = some (.array n e)) (hs : szOf P e = some s)
    {x : Addr} {x' i' : Value} {k : IntKind} {i : Int} (hx : VRel β (.pointer (some x)) x') (hi : VRel β (.int k i) i') (h0 : 0 ≤ i ∧ i < n) :
    VSim P lo n0 β h w (.pointer (some (x.add (i.toNat * s)))) h ((Instr.indexAt t x' i').run P w) := by
  obtain ⟨a', rfl, ha⟩ := hx.ptr_inv
  rw [hi.int_inv]
  refine .quiet R (.ptr (ha.add _)) ?_
  simp only [Instr.indexAt, asIntOf, Sem.run_bind, Sem.run_pure, run_underlying ht, Result.andThen_ok, sure_run, h0, and_self, if_true, szOf_run hs]
theorem op_indexAddrS (R : HRel P lo n0 β h w) {t e : TypeId} {s n c : Nat} (ht : P.underlying t = some (.slice e)) (hs : szOf P e = some s)
    {x : Addr} {x' i' : Value} {k : IntKind} {i : Int} (hx : VRel β (.slice (some x) n c) x') (hi : VRel β (.int k i) i') (h0 : 0 ≤ i ∧ i < n) :
    VSim P lo n0 β h w (.pointer (some (x.add (i.toNat * s)))) h ((Instr.indexAt t x' i').run P w) := by
  rw [hi.int_inv]
  cases hx with
  | sl ha hc =>
    refine .quiet R (.ptr (ha.add _)) ?_
    simp only [Instr.indexAt, asIntOf, Sem.run_bind, Sem.run_pure, run_underlying ht, Result.andThen_ok, h0, and_self, if_true, szOf_run hs]
  | sle => omega
theorem op_extract (R : HRel P lo n0 β h w) {vs : Array Value} {i : Nat} {v x' : Value} (hx : VRel β (.tuple vs) x') (hv : vs[i]? = some v) : VSim P lo n0 β h w v h ((Instr.extract x' i).run P w) := by
  obtain ⟨vs', rfl, hc⟩ := hx.tuple_inv
  obtain ⟨v', h1, h2⟩ := hc.get (i := i) (v := v) (by simpa using hv)
  refine .quiet R h2 ?_
  have h1' : vs'[i]? = some v' := by simpa using h1
  simp only [Instr.extract, h1', Sem.run_pure]

/-! ### Slices -/
theorem bound_run {x : Value} {y n : Nat} (hb : bound x y = some n) (code : BoundsCode) (w : World) : (Instr.sliceBound x y code).run P w = .ok n w ∧ n ≤ y := by
  unfold bound at hb
  split at hb
  · rename_i k i
    split at hb
    · rename_i hi
      cases hb
      exact ⟨by simp only [Instr.sliceBound, asIntOf, Sem.run_bind, Sem.run_pure, Result.andThen_ok, hi, and_self, if_true], by omega⟩
    · cases hb
  · cases hb
theorem bound_same {x x' : Value} {y n : Nat} (hx : VRel β x x') (hb : bound x y = some n) : x' = x := by
  cases x <;> simp [bound] at hb
  exact hx.int_inv
theorem bound_mono {x : Value} {y y' n : Nat} (hb : bound x y = some n) (hy : y ≤ y') : bound x y' = some n := by
  unfold bound at hb ⊢
  split at hb
  · split at hb
    · rw [if_pos (by omega)]; exact hb
    · cases hb
  · cases hb
def ORel' (β : Bij) : Option Value → Option Value → Prop
  | none, none => True
  | some v, some v' => VRel β v v'
  | _, _ => False
/-- The bounds of a slice expression, on both sides. -/
theorem bounds_rel {isS : Bool} {len cap cap' : Nat} {ad : Addr} (hc : CapRel β ad len cap cap') {lo' hi mx lo2 hi2 mx2 : Option Value} (h1 : ORel' β lo' lo2) (h2 : ORel' β hi hi2) (h3 : ORel' β mx mx2) {l hh m : Nat}
    (hb : slBounds len cap lo' hi mx = some (l, hh, m)) (w : World) :
    ∃ m', (Instr.sliceBounds isS len cap' lo2 hi2 mx2).run P w = .ok (l, hh, m') w ∧ l ≤ hh ∧ hh ≤ m' ∧ ((m < openCap ∧ m' = m) ∨ (m = cap ∧ openCap ≤ cap ∧ m' = cap' ∧ hh ≤ len)) := by
  obtain ⟨hlen, hc⟩ := hc
  have hcl : (if openCap ≤ cap then len else cap) ≤ cap' := by
    rcases hc with ⟨q1, q2, q3⟩ | ⟨s, q1, q2, _⟩
    · rw [if_neg (by omega)]; omega
    · rw [if_pos (by omega)]; exact q2
  have hcm : (if openCap ≤ cap then len else cap) < openCap := by
    rcases hc with ⟨q1, q2, q3⟩ | ⟨s, q1, q2, _⟩
    · rw [if_neg (by omega)]; exact q1
    · rw [if_pos (by omega)]; exact hlen
  have hlc : len ≤ cap' := by rcases hc with ⟨q1, q2, q3⟩ | ⟨s, q1, q2, _⟩ <;> omega
  have hco : ∀ hh, hh ≤ (if openCap ≤ cap then len else cap) → (cap < openCap ∧ cap' = cap) ∨ (openCap ≤ cap ∧ hh ≤ len) := fun hh h => by
    rcases hc with ⟨q1, q2, q3⟩ | ⟨s, q1, q2, _⟩
    · exact .inl ⟨q1, q2⟩
    · rw [if_pos (by omega)] at h; exact .inr ⟨by omega, h⟩
  simp only [slBounds] at hb
  split at hb
  · cases hb
  · rename_i m0 hm
    split at hb
    · cases hb
    · rename_i h0 hh0
      split at hb
      · cases hb
      · rename_i l0 hl
        cases hb
        -- low
        have hL : ∀ code, (lo' = none ∧ lo2 = none ∧ l = 0) ∨ ∃ v, lo' = some v ∧ lo2 = some v ∧ (Instr.sliceBound v hh code).run P w = .ok l w ∧ l ≤ hh := fun code => by
          cases lo' with
          | none =>
            cases lo2 with
            | some v => exact h1.elim
            | none => simp only [optBound, Option.some.injEq] at hl; exact .inl ⟨rfl, rfl, hl.symm⟩
          | some v =>
            cases lo2 with
            | none => exact h1.elim
            | some v' =>
              simp only [optBound] at hl
              have hv' : v' = v := bound_same h1 hl
              subst hv'
              exact .inr ⟨v', rfl, rfl, bound_run hl _ w⟩
        cases mx with
        | none =>
          cases mx2 with
          | some v => exact h3.elim
          | none =>
            simp only [optBound, Option.some.injEq] at hm
            subst hm
            cases hi with
            | none =>
              cases hi2 with
              | some v => exact h2.elim
              | none =>
                simp only [Option.some.injEq] at hh0; subst hh0
                refine ⟨cap', ?_, ?_, hlc, ?_⟩
                · rcases hL .sliceB with ⟨_, rfl, rfl⟩ | ⟨v, _, rfl, h5, _⟩
                  · simp [Instr.sliceBounds]
                  · simp [Instr.sliceBounds, h5]
                · rcases hL .sliceB with ⟨_, rfl, rfl⟩ | ⟨v, _, rfl, _, h5⟩ <;> omega
                · rcases hc with ⟨q1, q2, q3⟩ | ⟨s, q1, q2, _⟩
                  · exact .inl ⟨q1, q2⟩
                  · exact .inr ⟨rfl, by omega, rfl, Nat.le_refl _⟩
            | some v =>
              cases hi2 with
              | none => exact h2.elim
              | some v' =>
                simp only at hh0
                have hv' : v' = v := bound_same h2 hh0
                subst hv'
                have e1 := bound_run (P := P) (bound_mono hh0 hcl) (if isS then .sliceAcap else .sliceAlen) w
                have e2 := (bound_run (P := P) hh0 .index w).2
                refine ⟨cap', ?_, ?_, e1.2, ?_⟩
                · rcases hL .sliceB with ⟨_, rfl, rfl⟩ | ⟨v, _, rfl, h5, _⟩
                  · simp [Instr.sliceBounds, e1.1]
                  · simp [Instr.sliceBounds, e1.1, h5]
                · rcases hL .sliceB with ⟨_, rfl, rfl⟩ | ⟨v, _, rfl, _, h5⟩ <;> omega
                · rcases hco hh e2 with ⟨q1, q2⟩ | ⟨q1, q2⟩
                  · exact .inl ⟨q1, q2⟩
                  · exact .inr ⟨rfl, q1, rfl, q2⟩
        | some u =>
          cases mx2 with
          | none => exact h3.elim
          | some u' =>
            simp only [optBound] at hm
            have hu' : u' = u := bound_same h3 hm
            subst hu'
            have e0 := bound_run (P := P) (bound_mono hm hcl) (if isS then .slice3Acap else .slice3Alen) w
            have e00 := (bound_run (P := P) hm .index w).2
            cases hi with
            | none => cases hh0
            | some v =>
              cases hi2 with
              | none => exact h2.elim
              | some v' =>
                simp only at hh0
                have hv' : v' = v := bound_same h2 hh0
                subst hv'
                have e1 := bound_run (P := P) hh0 .slice3B w
                refine ⟨m, ?_, ?_, e1.2, .inl ⟨by omega, rfl⟩⟩
                · rcases hL .slice3C with ⟨_, rfl, rfl⟩ | ⟨v, _, rfl, h5, _⟩
                  · simp [Instr.sliceBounds, e0.1, e1.1]
                  · simp [Instr.sliceBounds, e0.1, e1.1, h5]
                · rcases hL .sliceB with ⟨_, rfl, rfl⟩ | ⟨v, _, rfl, _, h5⟩ <;> omega
end
end Go.RS

/- Each operation of the abstract machine is followed by the real one (6): slices made, cut and grown. -/
namespace Go.RS
open Go

section
variable {P : Program} {lo n0 : Nat} {β : Bij} {h h1 : AH} {w : World} {fr : Fr} {a : Act}

theorem add_block (x : Addr) (n : Nat) : (x.add n).block = x.block := by unfold Addr.add; split <;> rfl
theorem add_off (x : Addr) (n : Nat) : (x.add n).off = x.off + n := by unfold Addr.add; split <;> simp_all
theorem capRel_zero : CapRel β default 0 0 0 := ⟨by simp [openCap], .inl ⟨by simp [openCap], rfl, Nat.le_refl _⟩⟩
theorem op_sliceV {size len cap : Nat} {b b' : Option Addr} {cap' : Nat} {ad : Addr} (hc : CapRel β ad len cap cap') (hb : (∃ x', b = some ad ∧ b' = some x' ∧ ARel β ad x') ∨ (b = none ∧ b' = none ∧ len = 0 ∧ cap = 0 ∧ cap' = 0))
    (hsz : ∀ s, cap = openCap + s → s = 0 ∨ s = size)
    {lo' hi mx lo2 hi2 mx2 : Option Value} (h1 : ORel' β lo' lo2) (h2 : ORel' β hi hi2) (h3 : ORel' β mx mx2) {v : Value} (hv : sliceV size b len cap lo' hi mx = some v) (isS : Bool) (w : World) :
    ∃ l hh m' , (Instr.sliceBounds isS len cap' lo2 hi2 mx2).run P w = .ok (l, hh, m') w ∧ VRel β v (.slice (if m' = l then b' else b'.map (·.add (l * size))) (hh - l) (m' - l)) := by
  unfold sliceV at hv
  split at hv
  · cases hv
  · rename_i l hh m hbd
    obtain ⟨m', hr, q1, q2, q3⟩ := bounds_rel (isS := isS) (P := P) hc h1 h2 h3 hbd w
    refine ⟨l, hh, m', hr, ?_⟩
    have hlen := hc.1
    rcases hb with ⟨x', rfl, rfl, hx⟩ | ⟨rfl, rfl, rfl, rfl, rfl⟩
    · split at hv
      · rename_i hop
        obtain ⟨ho1, ho2⟩ := hop
        split at hv
        · rename_i hl
          cases hv
          rcases q3 with ⟨r1, _⟩ | ⟨r1, r2, r3, r4⟩
          · omega
          · subst r3
            rcases hc.2 with ⟨s1, s2, s3⟩ | ⟨s, s1, s2, s3⟩
            · omega
            have hcr : ∀ ad2 : Addr, ad2.block = ad.block → ad2.off = ad.off + l * size → CapRel β ad2 (hh - l) cap (m' - l) := fun ad2 e1 e2 =>
              ⟨by omega, .inr ⟨s, s1, by omega, fun hs => by
                obtain ⟨r, d, h4, h5⟩ := s3 hs
                refine ⟨r, d, by rw [e1]; exact h4, ?_⟩
                have hss : s = size := (hsz s s1).resolve_left (by omega)
                subst hss
                have hle : l ≤ m' := by omega
                have hm : m' * s = (m' - l) * s + l * s := by rw [← Nat.add_mul]; congr 1; omega
                rw [e2]; omega⟩⟩
            rcases hl with rfl | hl
            · simp only [Option.map_some, Nat.zero_mul]
              have e1 : ∀ z : Addr, z.add 0 = z := fun z => rfl
              rw [e1, e1]
              have := hcr ad rfl (by simp)
              split <;> exact .sl hx this
            · rw [if_neg (by omega)]
              exact .sl (hx.add _) (hcr _ (add_block _ _) (add_off _ _))
        · cases hv
      · rename_i hop
        cases hv
        rcases q3 with ⟨r1, rfl⟩ | ⟨r1, r2, r3, r4⟩
        · have hcr : ∀ ad2, CapRel β ad2 (hh - l) (m' - l) (m' - l) := fun _ => ⟨by omega, .inl ⟨by omega, rfl, by omega⟩⟩
          by_cases hml : m' = l
          · rw [if_pos hml, if_pos hml]; exact .sl hx (hcr _)
          · rw [if_neg hml, if_neg hml]; exact .sl (hx.add _) (hcr _)
        · exact absurd ⟨r2, r1⟩ hop
    · split at hv
      · rename_i hop
        have := hop.1
        simp [openCap] at this
      · cases hv
        rcases q3 with ⟨r1, rfl⟩ | ⟨r1, r2, r3, r4⟩
        · split <;> exact .sl0 _ _
        · simp [openCap] at r2
theorem slBounds_zero {lo hi mx : Option Value} {l hh m : Nat} (h : slBounds 0 0 lo hi mx = some (l, hh, m)) : m = 0 := by
  unfold slBounds at h
  split at h
  · cases h
  · rename_i m' hm
    have h0 : m' = 0 := by
      have e0 : (if openCap ≤ 0 then 0 else 0) = 0 := by split <;> rfl
      rw [e0] at hm
      cases mx with
      | none => simpa [optBound] using hm.symm
      | some v =>
        simp only [optBound] at hm
        unfold bound at hm
        split at hm
        · rename_i k i
          by_cases hc : 0 ≤ i ∧ i ≤ ((0 : Nat) : Int)
          · rw [if_pos hc] at hm
            have := Option.some.inj hm
            omega
          · rw [if_neg hc] at hm; cases hm
        · cases hm
    split at h
    · cases h
    · split at h
      · cases h
      · cases h; exact h0
theorem op_sliceS (R : HRel P lo n0 β h w) {t e : TypeId} {s : Nat} (ht : P.underlying t = some (.slice e)) (hs : szOf P e = some s) {b : Option Addr} {len cap : Nat} {x' : Value} (hx : VRel β (.slice b len cap) x')
    (hnil : b.isSome ∨ (len = 0 ∧ cap = 0)) (hsz : cap < openCap ∨ cap = openCap ∨ cap = openCap + s) {lo' hi mx lo2 hi2 mx2 : Option Value} (h1 : ORel' β lo' lo2) (h2 : ORel' β hi hi2) (h3 : ORel' β mx mx2) {v : Value} (hv : sliceV s b len cap lo' hi mx = some v) :
    VSim P lo n0 β h w v h ((Instr.sliceAt t x' lo2 hi2 mx2).run P w) := by
  cases hx with
  | sl0 =>
    rcases hnil with hn | ⟨rfl, rfl⟩
    · cases hn
    · obtain ⟨l, hh, m', hr, hv'⟩ := op_sliceV (P := P) (β := β) (size := s) (cap' := 0) (b' := none) capRel_zero (.inr ⟨rfl, rfl, rfl, rfl, rfl⟩) (fun s2 h => by have : openCap = 18446744073709551616 := rfl; omega) h1 h2 h3 hv true w
      refine .quiet R hv' ?_
      simp only [Instr.sliceAt, Sem.run_bind, run_underlying ht, Result.andThen_ok, Instr.slice, hr, szOf_run hs, Sem.run_pure]
  | sl ha hc =>
    obtain ⟨l, hh, m', hr, hv'⟩ := op_sliceV (P := P) (β := β) (size := s) hc (.inl ⟨_, rfl, rfl, ha⟩) (fun s2 h => by omega) h1 h2 h3 hv true w
    refine .quiet R hv' ?_
    simp only [Instr.sliceAt, Sem.run_bind, run_underlying ht, Result.andThen_ok, Instr.slice, hr, szOf_run hs, Sem.run_pure]
  | sle a0 a1 =>
    unfold sliceV at hv
    split at hv
    · cases hv
    · rename_i l hh m hbd
      have hop : openCap = 18446744073709551616 := rfl
      obtain ⟨m', hr, q1, q2, q3⟩ := bounds_rel (isS := true) (P := P) (β := β) (ad := a0) (cap' := 0) (cap := 0) (len := 0) ⟨by omega, .inl ⟨by omega, rfl, Nat.le_refl _⟩⟩ h1 h2 h3 hbd w
      have hm0 := slBounds_zero hbd
      have hm' : m' = 0 ∧ m = 0 := by
        rcases q3 with ⟨r1, r2⟩ | ⟨r1, r2, r3, r4⟩ <;> omega
      obtain ⟨rfl, rfl⟩ := hm'
      have hl0 : l = 0 ∧ hh = 0 := by omega
      obtain ⟨rfl, rfl⟩ := hl0
      rw [if_neg (by omega)] at hv
      cases hv
      refine .quiet R (.sle _ a1) ?_
      simp only [Instr.sliceAt, Sem.run_bind, run_underlying ht, Result.andThen_ok, Instr.slice, hr, szOf_run hs, Sem.run_pure]
      rfl
theorem op_sliceA (R : HRel P lo n0 β h w) {t e : TypeId} {n s : Nat} (ht : P.underlying t = some (.array n e)) (hs : szOf P e = some s) (hn : n < openCap) {x : Addr} {x' : Value} (hx : VRel β (.pointer (some x)) x')
    {lo' hi mx lo2 hi2 mx2 : Option Value} (h1 : ORel' β lo' lo2) (h2 : ORel' β hi hi2) (h3 : ORel' β mx mx2) {v : Value} (hv : sliceV s (some x) n n lo' hi mx = some v) :
    VSim P lo n0 β h w v h ((Instr.sliceAt t x' lo2 hi2 mx2).run P w) := by
  obtain ⟨a', rfl, ha⟩ := hx.ptr_inv
  obtain ⟨l, hh, m', hr, hv'⟩ := op_sliceV (P := P) (β := β) (size := s) (cap' := n) ⟨hn, .inl ⟨hn, rfl, Nat.le_refl _⟩⟩ (.inl ⟨_, rfl, rfl, ha⟩) (fun s2 h => by omega) h1 h2 h3 hv false w
  refine .quiet R hv' ?_
  simp only [Instr.sliceAt, Sem.run_bind, run_underlying ht, Result.andThen_ok, sure_run, hr, szOf_run hs, Sem.run_pure]
  split <;> simp

theorem op_makeSlice (R : HRel P lo n0 β h w) {t e : TypeId} {i : TypeInfo} {z : Value} (ht : P.underlying t = some (.slice e)) (hi : P.info? e = some i) (hz : i.zero = some z) (hc : z.cells.all closedS = true)
    (hzs : z.cells.size = i.size) (hs0 : i.size ≠ 0) {l c : Int} {x' y' : Value} (hx : VRel β (.int .i64 l) x') (hy : VRel β (.int .i64 c) y')
    (hb : 0 ≤ l ∧ l ≤ c ∧ c.toNat * i.bytes ≤ 2 ^ 40 ∧ c.toNat ≤ 2 ^ 40) :
    VSim P lo n0 β h w (.slice (some ⟨h.size, 0, none⟩) l.toNat c.toNat) (h.push (.cells ((List.range (c.toNat * z.cells.toList.length)).map fun j => z.cells.toList.getD (j % z.cells.toList.length) undef)))
      ((Instr.makeSlice t x' y').run P w) := by
  rw [hx.int_inv, hy.int_inv]
  obtain ⟨b1, b2, b3, b4⟩ := hb
  have hzl : z.cells.toList.length = i.size := by simpa using hzs
  have hco : c.toNat < openCap := by have : openCap = 18446744073709551616 := rfl; omega
  refine .new R (o' := .cells ((Array.range (c.toNat * i.size)).map fun j => (if c.toNat * i.size = 0 then (#[] : Array Value) else z.cells)[j % (if c.toNat * i.size = 0 then (#[] : Array Value) else z.cells).size]!) e (0, 0)) (cells_new ?_)
    (.sl (a' := ⟨w.heap.size, 0, none⟩) arel_new ⟨by omega, .inl ⟨hco, rfl, by omega⟩⟩) ?_
  · rw [Array.toList_map, Array.toList_range, hzl]
    refine .map fun j hj => ?_
    have hne : c.toNat * i.size ≠ 0 := fun h0 => by rw [h0] at hj; simp at hj
    have hlt : j % i.size < z.cells.size := by rw [hzs]; exact Nat.mod_lt _ (Nat.pos_of_ne_zero hs0)
    simp only [hne, if_false]
    rw [hzs, getElem!_pos z.cells (j % i.size) hlt, List.getD_eq_getElem?_getD, List.getElem?_eq_getElem (by simpa using hlt)]
    simp only [Array.getElem_toList, Option.getD_some]
    exact closedS_rel (Array.all_eq_true_iff_forall_mem.1 hc _ (Array.getElem_mem hlt))
  · have w1 : IntKind.i64.wrap l = l := IntWalk.i64_in _ (by omega)
    have w2 : IntKind.i64.wrap c = c := IntWalk.i64_in _ (by omega)
    have hcb : (i.bytes : Int) * c ≤ 2 ^ 40 := by
      have : c = (c.toNat : Int) := by omega
      rw [this, ← Int.natCast_mul, Nat.mul_comm]; exact_mod_cast b3
    have t1 : (decide (c < 0) || decide ((i.bytes : Int) * c > 2 ^ 48)) = false := by simp; omega
    have hsz : szOf P e = some i.size := by simp [szOf, hi]
    have hzv : zeroOf P e = some z := by simp [zeroOf, hi, hz]
    simp only [Instr.makeSlice, Sem.run_bind, run_underlying ht, Result.andThen_ok, asInt, asIntOf, Sem.run_pure, typeInfo, run_program, hi, w1, w2, t1, Bool.false_or]
    rw [if_neg (by simp; omega)]
    simp only [Sem.run_bind, run_askRoom, Result.andThen_ok, szOf_run hsz, Sem.run_ite, zeroOf_run hzv, Sem.run_pure, newRow, run_newObj]
    by_cases h0 : c.toNat * i.size = 0
    · simp only [h0, if_true]
    · simp only [h0, if_false]
end
end Go.RS

/- Each operation of the abstract machine is followed by the real one (7): append. -/
namespace Go.RS
open Go

section
variable {P : Program} {lo n0 : Nat} {β : Bij} {h h1 : AH} {w : World} {fr : Fr} {a : Act}

theorem elems_rel (R : HRel P lo n0 β h w) {size n : Nat} {x x' : Value} {new : List Value} (he : elemsOf h size x = some (n, new)) (hx : VRel β x x') :
    ∃ new' : List Value, LRel β new new' ∧ new.length = n * size ∧ (∀ w2 : World, (Builtin.lenOf x').run P w2 = .ok n w2) ∧ ∀ w2 : World, w2.heap = w.heap → (Builtin.firstCells size n x').run P w2 = .ok new'.toArray w2 := by
  unfold elemsOf at he
  split at he
  · split at he
    · rename_i h0; subst h0
      cases he
      cases hx
      exact ⟨[], .nil β, by simp, fun w2 => rfl, fun w2 _ => by simp [Builtin.firstCells]⟩
    · cases he
  · rename_i b o m c
    simp only [Option.map_eq_some_iff] at he
    obtain ⟨cs, hcs, he⟩ := he
    cases he
    cases hx with
    | sl ha hc =>
      obtain ⟨hlen, c', hcc, hcell⟩ := cells_rel R hcs ha
      refine ⟨c', hcc, hlen, fun w2 => rfl, fun w2 hw2 => ?_⟩
      refine run_firstCells_some w2 size _ _ _ _ c' (by rw [← hcc.1, hlen]) (fun j v hj => ?_)
      have := hcell j v hj
      unfold World.cell? at this ⊢
      rw [hw2]; exact this
    | sle _ a2 =>
      rw [Nat.zero_mul] at hcs
      have h0 : new = [] := by
        unfold cellsAt at hcs
        split at hcs
        · split at hcs
          · cases hcs; exact List.take_zero
          · cases hcs
        · cases hcs
      subst h0
      exact ⟨[], .nil β, by simp, fun w2 => rfl, fun w2 _ => by simpa using run_firstCells_some w2 size 0 a2 0 0 [] (by simp) (fun j v hj => by simp at hj)⟩
  · cases he

theorem fits_run {need old bytes : Nat} (hf : fits need bytes = true) (ho : old < need) : ¬ Builtin.nextslicecap need old * bytes > 2 ^ 48 ∧ 0 < bytes ∧ need < 2 ^ 47 := by
  simp only [fits, Bool.and_eq_true, decide_eq_true_eq] at hf
  obtain ⟨h1, h2⟩ := hf
  have h3 : (2 * need + 192) * 1 ≤ (2 * need + 192) * bytes := Nat.mul_le_mul_left _ h1
  have h4 := nextslicecap_le ho
  have h5 : Builtin.nextslicecap need old * bytes ≤ (2 * need + 192) * bytes := Nat.mul_le_mul_right _ (by omega)
  exact ⟨by omega, h1, by omega⟩

/-- A block is given up. -/
theorem HRel.kill (R : HRel P lo n0 β h w) (b : Nat) : HRel P lo n0 β (h.setIfInBounds b .junk) w ∧ Ext lo β h w β (h.setIfInBounds b .junk) w := by
  have back : ∀ b2 : Nat, (h.setIfInBounds b .junk)[b2]? ≠ some .junk → h[b2]? ≠ some .junk ∧ b2 ≠ b ∨ h[b2]? = none := by
    intro b2 hne
    by_cases he : b2 = b
    · subst he
      by_cases hlt : b2 < h.size
      · exfalso; apply hne; simp [hlt]
      · exact .inr (by simp; omega)
    · rw [Array.getElem?_setIfInBounds_ne (Ne.symm he)] at hne; exact .inl ⟨hne, he⟩
  refine ⟨⟨?_, ?_, R.img, R.low, ?_, R.glob, by simpa using R.los, R.n0s⟩, ⟨fun _ _ => rfl, by simp, Nat.le_refl _, ?_, fun _ _ _ => rfl, ?_, fun r L hL => ⟨L, hL⟩, rfl, rfl, rfl⟩⟩
  · intro b2 r d hx; simpa using R.dom b2 r d hx
  · intro b2 r d o hx ho
    by_cases he : b2 = b
    · subst he
      have hlt := (R.dom b2 r d hx).1
      simp [hlt] at ho; subst ho; trivial
    · rw [Array.getElem?_setIfInBounds_ne (Ne.symm he)] at ho
      exact R.obj b2 r d o hx ho
  · intro b2 b3 r d d' l2 l3 h2 h3 j2 j3
    refine R.inj b2 b3 r d d' l2 l3 h2 h3 ?_ ?_
    · rcases back b2 j2 with ⟨q, _⟩ | q
      · exact q
      · rw [q]; simp
    · rcases back b3 j3 with ⟨q, _⟩ | q
      · exact q
      · rw [q]; simp
  · intro b2 _ _ hb2
    by_cases he : b2 = b
    · subst he
      have hlt : b2 < h.size := (Array.getElem?_eq_some_iff.1 hb2).1
      simp [hlt]
    · rw [Array.getElem?_setIfInBounds_ne (Ne.symm he)]; exact hb2
  · intro b2 r d hb hx; have := (R.dom b2 r d hx).1; omega

/-- A slice grows where it lies: the old block is given up, a new one stands for the same real one. -/
theorem HRel.grow (R : HRel P lo n0 β h w) {b r : Nat} {d : Nat × Nat} (hl : lo ≤ b) (hb : β b = some (r, d)) (hj : h[b]? ≠ some .junk) (o : AObj) (o' : Obj) (d' : Nat × Nat) (ho : ORel P β True o (some o') d') (hlp : ∀ L : Loop, w.heap[r]? ≠ some (.loop L)) :
    HRel P lo n0 (bset β h.size (r, d')) ((h.setIfInBounds b .junk).push o) { w with heap := w.heap.setIfInBounds r o' } ∧
    Ext lo β h w (bset β h.size (r, d')) ((h.setIfInBounds b .junk).push o) { w with heap := w.heap.setIfInBounds r o' } := by
  obtain ⟨hbs, hrs⟩ := R.dom b r d hb
  have hle := bset_le R (r, d')
  have hold : ∀ b2 r2 d2, b2 ≠ h.size → bset β h.size (r, d') b2 = some (r2, d2) → β b2 = some (r2, d2) := fun b2 r2 d2 hb2 hx => by rwa [bset_other β _ hb2] at hx
  have hget : ∀ b2, b2 ≠ h.size → ((h.setIfInBounds b .junk).push o)[b2]? = if b2 = b then some .junk else h[b2]? := by
    intro b2 hb2
    rw [Array.getElem?_push, if_neg (by simpa using hb2)]
    by_cases he : b2 = b
    · subst he; simp [hbs]
    · rw [Array.getElem?_setIfInBounds_ne (Ne.symm he), if_neg he]
  have hnew : ((h.setIfInBounds b .junk).push o)[h.size]? = some o := by
    rw [Array.getElem?_push, if_pos (by simp)]
  refine ⟨⟨?_, ?_, ?_, ?_, ?_, ?_, ?_, ?_⟩, ⟨?_, ?_, ?_, ?_, ?_, ?_, ?_, rfl, rfl, rfl⟩⟩
  · intro b2 r2 d2 hx
    by_cases he : b2 = h.size
    · subst he; simp at hx; obtain ⟨rfl, rfl⟩ := hx; simp; exact hrs
    · have := R.dom b2 r2 d2 (hold b2 r2 d2 he hx); simp; omega
  · intro b2 r2 d2 o2 hx ho2
    by_cases he : b2 = h.size
    · subst he
      simp at hx; obtain ⟨rfl, rfl⟩ := hx
      rw [hnew] at ho2; cases ho2
      simp only [Array.getElem?_setIfInBounds_self, hrs, if_true]
      have := ho.mono hle
      cases o with
      | cells c => obtain ⟨c', e, fz, a, b, b2, c⟩ := this; exact ⟨c', e, fz, a, fun _ => b trivial, b2, c⟩
      | map es clock => exact this
      | loop L => exact this
      | junk => trivial
    · have hx' := hold b2 r2 d2 he hx
      rw [hget b2 he] at ho2
      split at ho2
      · cases ho2; trivial
      · rename_i hbb
        by_cases hj2 : o2 = .junk
        · subst hj2; trivial
        · have hne : r2 ≠ r := by
            intro hr; subst hr
            by_cases hl2 : lo ≤ b2
            · exact hbb (R.inj b2 b r2 d2 d hl2 hl hx' hb (by rw [ho2]; simpa using hj2) hj)
            · have h1 := R.low b2 r2 d2 (by omega) hx'
              have h2 := R.img b r2 d hl hb
              omega
          simp only [Array.getElem?_setIfInBounds_ne (Ne.symm hne)]
          exact (R.obj b2 r2 d2 o2 hx' ho2).mono hle
  · intro b2 r2 d2 hl2 hx
    by_cases he : b2 = h.size
    · subst he; simp at hx; obtain ⟨rfl, rfl⟩ := hx; exact R.img b r d hl hb
    · exact R.img b2 r2 d2 hl2 (hold b2 r2 d2 he hx)
  · intro b2 r2 d2 hl2 hx
    have he : b2 ≠ h.size := by have := R.los; omega
    exact R.low b2 r2 d2 hl2 (hold b2 r2 d2 he hx)
  · intro b2 b3 r2 d2 d3 l2 l3 x2 x3 j2 j3
    by_cases he : b2 = h.size
    · by_cases he3 : b3 = h.size
      · omega
      · subst he
        simp at x2; obtain ⟨rfl, rfl⟩ := x2
        rw [hget b3 he3] at j3
        split at j3
        · exact absurd rfl j3
        · rename_i hb3
          exact absurd (R.inj b3 b r d3 d l3 hl (hold b3 r d3 he3 x3) hb j3 hj) hb3
    · by_cases he3 : b3 = h.size
      · subst he3
        simp at x3; obtain ⟨rfl, rfl⟩ := x3
        rw [hget b2 he] at j2
        split at j2
        · exact absurd rfl j2
        · rename_i hb2
          exact absurd (R.inj b2 b r d2 d l2 hl (hold b2 r d2 he x2) hb j2 hj) hb2
      · rw [hget b2 he] at j2
        rw [hget b3 he3] at j3
        split at j2
        · exact absurd rfl j2
        · split at j3
          · exact absurd rfl j3
          · exact R.inj b2 b3 r2 d2 d3 l2 l3 (hold b2 r2 d2 he x2) (hold b3 r2 d3 he3 x3) j2 j3
  · intro g hg; obtain ⟨z, hz⟩ := R.glob g hg; exact ⟨z, hle _ _ hz⟩
  · have := R.los; simp; omega
  · have := R.n0s; simpa using this
  · intro b2 hb2; exact bset_other β _ (by omega)
  · simp
  · simp
  · intro b2 _ _ hb2
    have hlt : b2 < h.size := (Array.getElem?_eq_some_iff.1 hb2).1
    rw [hget b2 (by omega)]
    split
    · rfl
    · exact hb2
  · intro r2 hr2 hk
    have hne : r2 ≠ r := fun he => by subst he; exact hj (hk b d hl hb)
    show (w.heap.setIfInBounds r o')[r2]? = _
    rw [Array.getElem?_setIfInBounds_ne (Ne.symm hne)]
  · intro b2 r2 d2 hb2 hx
    by_cases he : b2 = h.size
    · subst he; simp at hx; obtain ⟨rfl, rfl⟩ := hx
      exact .inr ⟨b, d, hl, hb, hj⟩
    · have := (R.dom b2 r2 d2 (hold b2 r2 d2 he hx)).1; omega
  · intro r2 L hL
    refine ⟨L, ?_⟩
    have hne : r2 ≠ r := fun he => by subst he; exact hlp L hL
    show (w.heap.setIfInBounds r o')[r2]? = _
    rw [Array.getElem?_setIfInBounds_ne (Ne.symm hne)]; exact hL

theorem VSim.after {β1 : Bij} {h0 : AH} {w0 : World} (hE : Ext lo β h w β1 h0 w0) {v : Value} {h1 : AH} {r : Result Value} (hs : VSim P lo n0 β1 h0 w0 v h1 r) : VSim P lo n0 β h w v h1 r := by
  obtain ⟨β2, w2, v', hr, hv, hR, hE2⟩ := hs
  exact ⟨β2, w2, v', hr, hv, hR, hE.trans hE2⟩
end
end Go.RS

