/- The value machine: lists that nobody writes are values; memory is what one function (and who shares it) may write. -/
import Derived.Test.YtmlogniaahnamaaDoorSmc
import Derived.Test.YtmlogniaahnamaaDoorSma
set_option linter.all false
namespace Go.RS
open Go

inductive PV where
  | undef
  | int (k : IntKind) (n : Int)
  | bool (b : Bool)
  | str (s : ByteArray)
  | nilP
  | ptr (t len o : Nat)
  | lptr (cs : List PV)
  | nilS
  | lst (ex : Bool) (n e : Nat) (cs : List PV)
  | sl (t len o n cap e : Nat)
  | nilM
  | map (t : Nat)
  | nilF
  | func (f : Nat) (first cap : List PV)
  | yield (t : Nat)
  | agg (cs : List PV)
  | tup (cs : List PV)
  | emp
  deriving Inhabited

abbrev VFr := Nat → PV
def updV (fr : VFr) (i : Nat) (v : PV) : VFr := fun j => if j = i then v else fr j
def putV (fr : VFr) (d : Option Nat) (v : PV) : VFr := match d with | some i => updV fr i v | none => fr

structure VLoop where
  fr : VFr
  params : List Nat
  assign : ACode
  body : ACode
  state : LoopState
  pending : Option Jump
inductive VObj where
  | cells (c : List PV)
  | vec (c : List PV)
  | map (es : List (PV × PV × Nat)) (clock : Nat)
  | loop (L : VLoop)
  | gone
abbrev VM := List VObj

structure VEnv where
  env : Env
  gl : Nat → Option (List Value)

/-! ### Values -/
def PV.ofS : Value → PV
  | .bool b => .bool b
  | .int k n => .int k n
  | .string s => .str s
  | .pointer none => .nilP
  | .slice none 0 0 => .nilS
  | .map none => .nilM
  | .nilFunc => .nilF
  | .func (.func f) a b => if a.isEmpty && b.isEmpty then .func f [] [] else .undef
  | _ => .undef
def PV.ofV (E : VEnv) : Value → PV
  | .agg cs => .agg (cs.toList.map ofS)
  | .tuple cs => .tup (cs.toList.map ofS)
  | .pointer (some ⟨g, 0, none⟩) => match E.gl g with | some c => .lptr (c.map ofS) | none => .undef
  | v => ofS v
def Opd.evV (E : VEnv) (fr : VFr) : Opd → PV
  | .t n => fr n
  | .c v => PV.ofV E v

mutual
/-- Nothing in it can be written. -/
def PV.isF : PV → Bool
  | .ptr .. | .sl .. | .map _ | .yield _ => false
  | .agg cs | .tup cs => isFL cs
  | .func _ a c => isFL a && isFL c
  | _ => true
def PV.isFL : List PV → Bool
  | [] => true
  | v :: vs => v.isF && isFL vs
end
/-- One cell of a known shape. -/
def PV.scal : PV → Bool
  | .agg _ | .tup _ | .undef => false
  | _ => true
/-- No address in it. -/
def PV.flat1 : PV → Bool
  | .int .. | .bool _ | .str _ | .nilP | .nilS | .nilM | .nilF => true
  | _ => false
def PV.flat : PV → Bool
  | .agg cs | .tup cs => cs.all flat1
  | v => v.flat1
def PV.cellsOf : PV → Option (List PV)
  | .agg cs => some cs
  | .undef | .tup _ => none
  | v => some [v]

def vcells (M : VM) (t : Nat) : Option (List PV) :=
  match M[t]? with
  | some (.cells c) | some (.vec c) => some c
  | _ => none
/-- A block's new cells; a 'vec' keeps what cannot be written alone. -/
def vput (M : VM) (t : Nat) (c xs : List PV) : Option VM :=
  match M[t]? with
  | some (.cells _) => some (M.set t (.cells c))
  | some (.vec _) => if PV.isFL xs then some (M.set t (.vec c)) else none
  | _ => none
def spliceV (c : List PV) (o : Nat) (vs : List PV) : List PV := c.take o ++ vs ++ c.drop (o + vs.length)
def partV (c : List PV) (off : Nat) : Option Nat → Option PV
  | none => c[off]?
  | some n => if off + n ≤ c.length then some (.agg ((c.drop off).take n)) else none
def loadV (M : VM) (agg : Option Nat) : PV → Option PV
  | .ptr t len o => match vcells M t with | some c => if c.length = len ∧ 0 < len then partV c o agg else none | none => none
  | .lptr cs => partV cs 0 agg
  | _ => none
def storeV (M : VM) (n : Nat) (p x : PV) : Option VM :=
  match p, x.cellsOf with
  | .ptr t len o, some xs => match vcells M t with
    | some c => if c.length = len ∧ 0 < len ∧ xs.length = n ∧ o + n ≤ len ∧ xs.all PV.scal = true then vput M t (spliceV c o xs) xs else none
    | none => none
  | _, _ => none
def fillV : List (Nat × Nat × PV) → List PV → Option (List PV)
  | [], c => some c
  | (off, size, v) :: r, c =>
    match v.cellsOf with
    | some xs => if xs.length = size ∧ off + size ≤ c.length then fillV r (spliceV c off xs) else none
    | none => none

def atomEqV : AK → PV → PV → Option Bool
  | .int, .int k a, .int k' b => if k = k' then some (a == b) else none
  | .bool, .bool a, .bool b => some (a == b)
  | .str, .str a, .str b => some (a == b)
  | _, _, _ => none
def atomsEqV : List AK → List PV → List PV → Option Bool
  | [], [], [] => some true
  | k :: ks, x :: xs, y :: ys => match atomEqV k x y, atomsEqV ks xs ys with | some a, some b => some (a && b) | _, _ => none
  | _, _, _ => none
def keyEqV (s : KS) (x y : PV) : Option Bool :=
  match s, x, y with
  | .one k, x, y => atomEqV k x y
  | .agg ks, .agg xs, .agg ys => atomsEqV ks xs ys
  | _, _, _ => none
def keyOkV (s : KS) (x : PV) : Bool := keyEqV s x x == some true
def findKV (flat : KS) (k : PV) : List (PV × PV × Nat) → Nat → Option (Option (Nat × PV))
  | [], _ => some none
  | e :: es, i => match keyEqV flat k e.1 with
    | some true => some (some (i, e.2.1))
    | some false => findKV flat k es (i + 1)
    | none => none
def binV (op : BinOp) (x y : PV) : Option PV :=
  match x, y with
  | .int k a, .int k' b => if k = k' then (binInt op k a b).map PV.ofS else none
  | .str a, .str b => (binStr op a b).map PV.ofS
  | _, _ => none
def unV (op : UnOp) (x : PV) : Option PV :=
  match op, x with
  | .neg, .int k n => some (.int k (k.wrap (0 - n)))
  | .not, .bool b => some (.bool !b)
  | _, _ => none
def isNilV (k : EqK) (x : PV) : Option Bool :=
  match k, x with
  | .slice, .nilS => some true
  | .slice, .lst _ n _ _ => if n = 0 then none else some false
  | .slice, .sl _ len _ _ _ _ => if len = 0 then none else some false
  | .slice, .emp => some false
  | .map, .nilM => some true
  | .map, .map _ => some false
  | .func, .nilF => some true
  | .func, .func _ _ _ => some false
  | .ptr, .nilP => some true
  | .ptr, .ptr _ _ _ => some false
  | .ptr, .lptr _ => some false
  | _, _ => none
def eqNilV (k : EqK) (x y : PV) : Option Bool :=
  match isNilV k x, isNilV k y with
  | some true, some b => some b
  | some false, some true => some false
  | _, _ => none
def minmaxV (mx : Bool) (x y : PV) : Option PV :=
  match x, y with
  | .int k a, .int k' b => if k = k' then some (.int k (if mx then (if a < b then b else a) else (if b < a then b else a))) else none
  | _, _ => none

def numV : PV → Option Int
  | .int _ i => some i
  | _ => none
/-- A bound of a slice expression: none: not written. -/
def boundV (x : Option PV) : Option (Option Int) :=
  match x with
  | none => some none
  | some v => (numV v).map some
def mOk (m : Option Int) (hh : Int) (n : Nat) (hs : Bool) : Bool := match m with | some m => decide (hh ≤ m) && decide (m ≤ n) && hs | none => true
/-- low, high, max of a slice of n elements (max: none: not written). -/
def slV (n : Nat) (lo hi mx : Option PV) : Option (Nat × Nat × Option Nat) :=
  match boundV lo, boundV hi, boundV mx with
  | some l, some h, some m =>
    if 0 ≤ l.getD 0 ∧ l.getD 0 ≤ h.getD n ∧ h.getD n ≤ n ∧ mOk m (h.getD n) n h.isSome = true then some ((l.getD 0).toNat, (h.getD n).toNat, m.map (·.toNat)) else none
  | _, _, _ => none
def ofSlice (t len e : Nat) : Value → Option PV
  | .slice (some ⟨_, o, _⟩) n cap => some (.sl t len o n cap e)
  | _ => none
def PV.toS : PV → Value
  | .int k i => .int k i
  | _ => Go.undef

/-- Is the size of an element the one that is meant? (Of an empty list without room it does not matter.) -/
def okE (ex : Bool) (n e' e : Nat) : Bool := e' == e || (ex && n == 0)
def elemsV (M : VM) (e : Nat) : PV → Option (Nat × List PV)
  | .nilS => some (0, [])
  | .emp => some (0, [])
  | .lst ex n e' cs => if okE ex n e' e then some (n, cs) else none
  | .sl t len o n _ _ => if len = 0 then (if n = 0 then some (0, []) else none) else match vcells M t with
    | some c => if c.length = len ∧ o + n * e ≤ len then some (n, (c.drop o).take (n * e)) else none
    | none => none
  | _ => none

/-- The first block, where one is made. -/
def newVec (M : VM) (n e : Nat) (cs : List PV) : Option (PV × VM) :=
  if PV.isFL cs ∧ cs ≠ [] then some (.sl M.length cs.length 0 n (openCap + e) e, M ++ [.vec cs]) else none
def appendV (M : VM) (e bytes : Nat) (s x : PV) : Option (PV × VM) :=
  match elemsV M e x with
  | none => none
  | some (n, new) =>
    match s with
    | .nilS => if n = 0 then some (.nilS, M) else if fits n bytes then newVec M n e new else none
    | .emp => if n = 0 then some (.emp, M) else if fits n bytes then newVec M n e new else none
    | .lst ex sl e' cs =>
      if ex = true ∧ okE ex sl e' e = true then
        (if n = 0 then some (.lst ex sl e' cs, M) else if fits (sl + n) bytes then newVec M (sl + n) e (cs ++ new) else none)
      else none
    | .sl t len o sl sc e' =>
      if e' = e ∧ e ≠ 0 then
        if n = 0 then some (.sl t len o sl sc e', M)
        else if len = 0 then
          (match M[t]? with
           | some (.vec []) => if o = 0 ∧ sl = 0 ∧ fits n bytes = true ∧ PV.isFL new = true ∧ new ≠ [] then some (.sl t new.length 0 n (openCap + e) e, M.set t (.vec new)) else none
           | _ => none)
        else match vcells M t with
        | none => none
        | some c =>
          if c.length ≠ len then none
          else if openCap ≤ sc then
            (if sc = openCap + e ∧ o = 0 ∧ sl * e = len ∧ fits (sl + n) bytes = true ∧ new.all PV.scal = true then
              (vput M t (c ++ new) new).map fun M' => (.sl t (len + new.length) 0 (sl + n) sc e, M')
             else none)
          else if sl + n ≤ sc then
            (if o + sl * e + new.length ≤ len ∧ new.all PV.scal = true ∧ sc < 9223372036854775808 then (vput M t (spliceV c (o + sl * e) new) new).map fun M' => (.sl t len o (sl + n) sc e, M') else none)
          else if o + sl * e ≤ len ∧ fits (sl + n) bytes = true then newVec M (sl + n) e ((c.drop o).take (sl * e) ++ new) else none
      else none
    | _ => none

def mapEsV (M : VM) (m : PV) : Option (List (PV × PV × Nat)) :=
  match m with
  | .nilM => some []
  | .map t => (match M[t]? with | some (.map es _) => some es | _ => none)
  | _ => none
def lookResV (ok : Bool) (z : PV) (f : Option (Nat × PV)) : PV :=
  match f with
  | some (_, v) => if ok then .tup [v, .bool true] else v
  | none => if ok then .tup [z, .bool false] else z
def updMapV (M : VM) (t : Nat) (es : List (PV × PV × Nat)) (clock : Nat) (k x : PV) (f : Option (Nat × PV)) : VM :=
  match f with
  | some (i, _) => M.set t (.map (es.modify i fun e => (k, x, e.2.2)) clock)
  | none => M.set t (.map (es ++ [(k, x, clock)]) (clock + 1))
def entMapV (M : VM) (t : Nat) (es : List (PV × PV × Nat)) (clock : Nat) (k z : PV) (f : Option (Nat × PV)) : PV × VM :=
  match f with
  | some (i, v) => (.tup [v, .int .i64 (((es[i]?).map (·.2.2)).getD 0)], M.set t (.map (es.modify i fun e => (k, e.2)) clock))
  | none => (.tup [z, .int .i64 clock], M.set t (.map (es ++ [(k, z, clock)]) (clock + 1)))

/-- 'mu': a slice that is made may be written. -/
def aopV (E : VEnv) (mu : Bool) (op : AOp) (fr : VFr) (M : VM) : Option (PV × VM) :=
  match op with
  | .mov x => some (x.evV E fr, M)
  | .pick c a b => match c.evV E fr with | .bool t => some (if t then a.evV E fr else b.evV E fr, M) | _ => none
  | .alloc z => some (.ptr M.length z.length 0, M ++ [.cells (z.map PV.ofS)])
  | .box x => (x.evV E fr).cellsOf.map fun c => (.ptr M.length c.length 0, M ++ [.cells c])
  | .build z ps => (fillV (ps.map fun p => (p.1, p.2.1, p.2.2.evV E fr)) (z.map PV.ofS)).map fun c => (.agg c, M)
  | .buildSlice n z ps =>
    match fillV (ps.map fun p => (p.1, p.2.1, p.2.2.evV E fr)) (z.map PV.ofS) with
    | none => none
    | some c =>
      if n < 9223372036854775808 ∧ PV.isFL c ∧ c.length = n * (z.length / n) then
        (if mu ∧ c ≠ [] then some (.sl M.length c.length 0 n n (z.length / n), M ++ [.vec c]) else if mu ∧ n = 0 then some (.emp, M) else some (.lst true n (z.length / n) c, M))
      else if mu ∧ c ≠ [] ∧ n < 9223372036854775808 ∧ c.length = n * (z.length / n) then some (.sl M.length c.length 0 n n (z.length / n), M ++ [.cells c]) else none
  | .load agg a => (loadV M agg (a.evV E fr)).map fun v => (v, M)
  | .store n a x => (storeV M n (a.evV E fr) (x.evV E fr)).map fun M' => (.undef, M')
  | .nilCheck x => match x.evV E fr with | .ptr t l o => some (.ptr t l o, M) | .lptr cs => some (.lptr cs, M) | _ => none
  | .bin op x y => (binV op (x.evV E fr) (y.evV E fr)).map fun v => (v, M)
  | .eqBool neg x y => match x.evV E fr, y.evV E fr with | .bool a, .bool b => some (.bool (if neg then !(a == b) else a == b), M) | _, _ => none
  | .eqAgg neg n x y => (keyEqV (.agg n) (x.evV E fr) (y.evV E fr)).map fun b => (.bool (if neg then !b else b), M)
  | .eqNil k neg x y => (eqNilV k (x.evV E fr) (y.evV E fr)).map fun b => (.bool (if neg then !b else b), M)
  | .un op x => (unV op (x.evV E fr)).map fun v => (v, M)
  | .conv k x => match x.evV E fr with | .int _ n => some (.int k (k.wrap n), M) | _ => none
  | .makeFunc fn first cap => some (.func fn (first.map (·.evV E fr)) (cap.map (·.evV E fr)), M)
  | .makeMap => some (.map M.length, M ++ [.map [] 0])
  | .makeSlice z bytes len cap => match len.evV E fr, cap.evV E fr with
    | .int .i64 l, .int .i64 c =>
      if 0 ≤ l ∧ l ≤ c ∧ c.toNat * bytes ≤ 2 ^ 40 ∧ c.toNat ≤ 2 ^ 40 ∧ PV.isFL (z.map PV.ofS) then
        (if c = 0 ∨ z = [] then (if z = [] then none else some (.lst true 0 z.length [], M))
         else some (.sl M.length (c.toNat * z.length) 0 l.toNat c.toNat z.length, M ++ [if mu then .cells ((List.range (c.toNat * z.length)).map fun i => PV.ofS (z.getD (i % z.length) undef)) else .vec ((List.range (c.toNat * z.length)).map fun i => PV.ofS (z.getD (i % z.length) undef))]))
      else none
    | _, _ => none
  | .sliceS e x lo hi mx =>
    match x.evV E fr with
    | .nilS => (slV 0 (lo.map (·.evV E fr)) (hi.map (·.evV E fr)) (mx.map (·.evV E fr))).map fun _ => (.nilS, M)
    | .lst ex n e' cs =>
      if okE ex n e' e then
        match slV n (lo.map (·.evV E fr)) (hi.map (·.evV E fr)) (mx.map (·.evV E fr)) with
        | some (l, h, some m) => some (.lst (decide (h = m)) (h - l) e ((cs.drop (l * e)).take ((h - l) * e)), M)
        | some (l, h, none) => if l = 0 ∨ l < n then some (.lst (ex && decide (h = n)) (h - l) e ((cs.drop (l * e)).take ((h - l) * e)), M) else none
        | none => none
      else none
    | .sl t len o n cap e' =>
      if e' ≠ e then none
      else if len = 0 then
        (match slV 0 (lo.map (·.evV E fr)) (hi.map (·.evV E fr)) (mx.map (·.evV E fr)) with
         | some (_, _, some _) => some (.nilS, M)
         | some (_, _, none) => some (.nilS, M)
         | none => none)
      else if cap < openCap ∨ cap = openCap ∨ cap = openCap + e then
        match slV n (lo.map (·.evV E fr)) (hi.map (·.evV E fr)) (mx.map (·.evV E fr)) with
        | some _ => match sliceV e (some ⟨t, o, none⟩) n cap (lo.map fun x => (x.evV E fr).toS) (hi.map fun x => (x.evV E fr).toS) (mx.map fun x => (x.evV E fr).toS) with
          | some v => (ofSlice t len e v).map fun v => (v, M)
          | none => none
        | none => none
      else none
    | _ => none
  | .sliceA n e x lo hi mx => match x.evV E fr with
    | .ptr t len o =>
      if len = 0 ∨ 9223372036854775808 ≤ n then none else
      match slV n (lo.map (·.evV E fr)) (hi.map (·.evV E fr)) (mx.map (·.evV E fr)) with
      | some _ => match sliceV e (some ⟨t, o, none⟩) n n (lo.map fun x => (x.evV E fr).toS) (hi.map fun x => (x.evV E fr).toS) (mx.map fun x => (x.evV E fr).toS) with
        | some v => (ofSlice t len e v).map fun v => (v, M)
        | none => none
      | none => none
    | _ => none
  | .fieldAddr off x => match x.evV E fr with
    | .ptr t l o => some (.ptr t l (o + off), M)
    | .lptr cs => if off ≤ cs.length then some (.lptr (cs.drop off), M) else none
    | _ => none
  | .part off agg x => match x.evV E fr with
    | .agg cs => (partV cs off agg).map fun v => (v, M)
    | _ => none
  | .indexAddrA n e x i => match x.evV E fr, i.evV E fr with
    | .ptr t l o, .int _ k => if 0 ≤ k ∧ k < n then some (.ptr t l (o + k.toNat * e), M) else none
    | .lptr cs, .int _ k => if 0 ≤ k ∧ k < n ∧ k.toNat * e ≤ cs.length then some (.lptr (cs.drop (k.toNat * e)), M) else none
    | _, _ => none
  | .indexAddrS e x i => match x.evV E fr, i.evV E fr with
    | .lst _ n e' cs, .int _ k => if 0 ≤ k ∧ k < n ∧ e' = e then some (.lptr (cs.drop (k.toNat * e)), M) else none
    | .sl t len o n _ _, .int _ k => if 0 ≤ k ∧ k < n ∧ 0 < len then some (.ptr t len (o + k.toNat * e), M) else none
    | _, _ => none
  | .indexA n e agg x i => match x.evV E fr, i.evV E fr with
    | .agg cs, .int _ k => if 0 ≤ k ∧ k < n then (partV cs (k.toNat * e) agg).map fun v => (v, M) else none
    | _, _ => none
  | .indexStr x i => match x.evV E fr, i.evV E fr with
    | .str s, .int _ k => if 0 ≤ k then (s[k.toNat]?).map fun b => (.int .u8 b.toNat, M) else none
    | _, _ => none
  | .lookup flat z ok m k =>
    match mapEsV M (m.evV E fr) with
    | none => none
    | some es => if keyOkV flat (k.evV E fr) = false then none else (findKV flat (k.evV E fr) es 0).map fun f => (lookResV ok (PV.ofV E z) f, M)
  | .mapUpdate flat m k x => match m.evV E fr with
    | .map t => if keyOkV flat (k.evV E fr) = true then (match M[t]? with
      | some (.map es clock) => (findKV flat (k.evV E fr) es 0).map fun f => (.undef, updMapV M t es clock (k.evV E fr) (x.evV E fr) f)
      | _ => none) else none
    | _ => none
  | .mapEntry flat z m k => match m.evV E fr with
    | .map t => if keyOkV flat (k.evV E fr) = true then (match M[t]? with
      | some (.map es clock) => (findKV flat (k.evV E fr) es 0).map fun f => entMapV M t es clock (k.evV E fr) (PV.ofV E z) f
      | _ => none) else none
    | _ => none
  | .entryStore m s x => match m.evV E fr, s.evV E fr with
    | .map t, .int _ born => (match M[t]? with
      | some (.map es clock) => (match es.findIdx? (fun e => (e.2.2 : Int) == born) with
        | some i => some (.undef, M.set t (.map (es.modify i fun e => (e.1, x.evV E fr, e.2.2)) clock))
        | none => none)
      | _ => none)
    | _, _ => none
  | .extract x i => match x.evV E fr with | .tup vs => (vs[i]?).map fun v => (v, M) | _ => none
  | .len false x => match x.evV E fr with
    | .nilS => some (.int .i64 0, M)
    | .emp => some (.int .i64 0, M)
    | .lst _ n _ _ => some (.int .i64 n, M)
    | .sl _ _ _ n _ _ => some (.int .i64 n, M)
    | _ => none
  | .len true x => match x.evV E fr with | .str s => some (.int .i64 s.size, M) | _ => none
  | .lenC n => some (.int .i64 n, M)
  | .append e bytes s x => appendV M e bytes (s.evV E fr) (x.evV E fr)
  | .minmax mx x more => (more.foldlM (fun a y => minmaxV mx a (y.evV E fr)) (x.evV E fr)).bind fun v => match v with | .int k i => some (.int k i, M) | _ => none
  | .call _ _ | .bad => none

def wantedV (g : Option (Nat × Bool)) (fr : VFr) : Option Bool :=
  match g with
  | none => some true
  | some (s, want) => match fr s with | .bool b => some (b == want) | .tup _ => some false | _ => none

def resultV (fr : VFr) (M : VM) (r : Nat × Option (Option Nat)) : Option PV :=
  match r.2 with
  | none => some (fr r.1)
  | some agg => loadV M agg (fr r.1)
def resultsV (rs : List (Nat × Option (Option Nat))) (fr : VFr) (M : VM) : Option PV :=
  match rs.mapM (resultV fr M) with
  | some [v] => some v
  | some vs => some (.tup vs)
  | none => none
def argsV (args : List PV) : VFr := fun i => args.getD i .undef
def setParamsV (fr : VFr) : List Nat → List PV → VFr
  | p :: ps, v :: vs => setParamsV (updV fr p v) ps vs
  | _, _ => fr
end Go.RS

/- The value machine against the abstract machine (1): values and memory. -/
namespace Go.RS
open Go

/-- Nothing in it is written any more; 'Z': the blocks that may be named. -/
inductive PF (Z : Nat → Prop) (h : AH) : PV → Value → Prop where
  | undef (v : Value) : PF Z h .undef v
  | int (k : IntKind) (n : Int) : PF Z h (.int k n) (.int k n)
  | bool (b : Bool) : PF Z h (.bool b) (.bool b)
  | str (s : ByteArray) : PF Z h (.str s) (.string s)
  | nilP : PF Z h .nilP (.pointer none)
  | lptr {cs : List PV} {b o : Nat} {c c' : List Value} (hz : Z b) (hb : h[b]? = some (.cells c)) (ho : o ≤ c.length) (hs : c' = (c.drop o).take cs.length) (hl : c'.length = cs.length)
      (hc : ∀ (i : Nat) (v : PV) (v' : Value), cs[i]? = some v → c'[i]? = some v' → PF Z h v v') : PF Z h (.lptr cs) (.pointer (some ⟨b, o, none⟩))
  | nilS : PF Z h .nilS (.slice none 0 0)
  | lst0 (ex : Bool) (e : Nat) : PF Z h (.lst ex 0 e []) (.slice none 0 0)
  | lst {ex : Bool} {n e : Nat} {cs : List PV} {b o cap : Nat} {c c' : List Value} (hne : cs.length = n * e) (hz : Z b) (hb : h[b]? = some (.cells c)) (ho : o ≤ c.length) (hs : c' = (c.drop o).take cs.length) (hl : c'.length = cs.length)
      (hc : ∀ (i : Nat) (v : PV) (v' : Value), cs[i]? = some v → c'[i]? = some v' → PF Z h v v') (hn : n < 9223372036854775808) (hcap : n ≤ cap) (hex : ex = true → cap = n)
      (hop : openCap < cap → cap = openCap + e) : PF Z h (.lst ex n e cs) (.slice (some ⟨b, o, none⟩) n cap)
  | nilM : PF Z h .nilM (.map none)
  | nilF : PF Z h .nilF .nilFunc
  | func {f : Nat} {x c : List PV} {x' c' : Array Value} (s1 : x.length = x'.size) (h1 : ∀ (i : Nat) (v : PV) (v' : Value), x[i]? = some v → x'[i]? = some v' → PF Z h v v')
      (s2 : c.length = c'.size) (h2 : ∀ (i : Nat) (v : PV) (v' : Value), c[i]? = some v → c'[i]? = some v' → PF Z h v v') : PF Z h (.func f x c) (.func (.func f) x' c')
  | agg {x : List PV} {x' : Array Value} (s : x.length = x'.size) (hx : ∀ (i : Nat) (v : PV) (v' : Value), x[i]? = some v → x'[i]? = some v' → PF Z h v v') : PF Z h (.agg x) (.agg x')
  | tup {x : List PV} {x' : Array Value} (s : x.length = x'.size) (hx : ∀ (i : Nat) (v : PV) (v' : Value), x[i]? = some v → x'[i]? = some v' → PF Z h v v') : PF Z h (.tup x) (.tuple x')
  | emp {b o : Nat} {c : List Value} (hz : Z b) (hb : h[b]? = some (.cells c)) (ho : o ≤ c.length) : PF Z h .emp (.slice (some ⟨b, o, none⟩) 0 0)

theorem PF.mono {Z Z' : Nat → Prop} {h h' : AH} (hz : ∀ b, b < h.size → Z b → Z' b ∧ h'[b]? = h[b]?) {v : PV} {w : Value} (p : PF Z h v w) : PF Z' h' v w := by
  induction p with
  | undef v => exact .undef v
  | int k n => exact .int k n
  | bool b => exact .bool b
  | str s => exact .str s
  | nilP => exact .nilP
  | @lptr cs b o c c' z hb ho hs hl hc ih =>
    obtain ⟨z', e⟩ := hz b (Array.getElem?_eq_some_iff.1 hb).1 z
    exact .lptr z' (by rw [e]; exact hb) ho hs hl ih
  | nilS => exact .nilS
  | lst0 ex e => exact .lst0 ex e
  | @lst ex n el cs b o cap c c' hne z hb ho hs hl hc hn hcap hex hop ih =>
    obtain ⟨z', e⟩ := hz b (Array.getElem?_eq_some_iff.1 hb).1 z
    exact .lst hne z' (by rw [e]; exact hb) ho hs hl ih hn hcap hex hop
  | nilM => exact .nilM
  | nilF => exact .nilF
  | func s1 _ s2 _ i1 i2 => exact .func s1 i1 s2 i2
  | agg s _ ih => exact .agg s ih
  | tup s _ ih => exact .tup s ih
  | emp z hb ho =>
    obtain ⟨z', e⟩ := hz _ (Array.getElem?_eq_some_iff.1 hb).1 z
    exact .emp z' (by rw [e]; exact hb) ho

def LF (Z : Nat → Prop) (h : AH) (cs : List PV) (vs : List Value) : Prop := cs.length = vs.length ∧ ∀ (i : Nat) (v : PV) (v' : Value), cs[i]? = some v → vs[i]? = some v' → PF Z h v v'
theorem LF.mono {Z Z' : Nat → Prop} {h h' : AH} (hz : ∀ b, b < h.size → Z b → Z' b ∧ h'[b]? = h[b]?) {cs : List PV} {vs : List Value} (p : LF Z h cs vs) : LF Z' h' cs vs :=
  ⟨p.1, fun i v v' a b => (p.2 i v v' a b).mono hz⟩

/-! ### What one function may write -/
def Live : VObj → Prop
  | .cells c | .vec c => c ≠ []
  | .gone => False
  | _ => True
def Owned (ρ : Nat → Nat) (M : VM) (b : Nat) : Prop := ∃ t o, M[t]? = some o ∧ Live o ∧ ρ t = b
def Zf (Z : Nat → Prop) (n : Nat) (ρ : Nat → Nat) (M : VM) (b : Nat) : Prop := (b < n → Z b) ∧ ¬ Owned ρ M b
def PtrOk (ρ : Nat → Nat) (M : VM) (t len b : Nat) : Prop := t < M.length ∧ ∀ c, vcells M t = some c → len ≤ c.length ∧ (len = c.length → 0 < len → b = ρ t)

section
variable (Z : Nat → Prop) (n : Nat) (ρ : Nat → Nat) (M : VM) (h : AH)
inductive PR : PV → Value → Prop where
  | f {v : PV} {w : Value} (hf : PF (Zf Z n ρ M) h v w) : PR v w
  | ptr {t len o b : Nat} (hp : PtrOk ρ M t len b) : PR (.ptr t len o) (.pointer (some ⟨b, o, none⟩))
  | sl0 {t cap e : Nat} (ht : t < M.length) : PR (.sl t 0 0 0 cap e) (.slice none 0 0)
  | sl {t len o m cap e b : Nat} (hp : PtrOk ρ M t len b) (hl : 0 < len) (hm : m < 9223372036854775808) (hc : m ≤ cap) : PR (.sl t len o m cap e) (.slice (some ⟨b, o, none⟩) m cap)
  | map {t r : Nat} (ht : t < M.length) (hm : ∀ es k, M[t]? = some (.map es k) → r = ρ t) : PR (.map t) (.map (some r))
  | yield {t r : Nat} (ht : t < M.length) (hm : ∀ L, M[t]? = some (.loop L) → r = ρ t) : PR (.yield t) (.func (.yield r) #[] #[])
  | func {f : Nat} {x c : List PV} {x' c' : Array Value} (s1 : x.length = x'.size) (h1 : ∀ (i : Nat) (v : PV) (v' : Value), x[i]? = some v → x'[i]? = some v' → PR v v')
      (s2 : c.length = c'.size) (h2 : ∀ (i : Nat) (v : PV) (v' : Value), c[i]? = some v → c'[i]? = some v' → PR v v') : PR (.func f x c) (.func (.func f) x' c')
  | agg {x : List PV} {x' : Array Value} (s : x.length = x'.size) (hx : ∀ (i : Nat) (v : PV) (v' : Value), x[i]? = some v → x'[i]? = some v' → PR v v') : PR (.agg x) (.agg x')
  | tup {x : List PV} {x' : Array Value} (s : x.length = x'.size) (hx : ∀ (i : Nat) (v : PV) (v' : Value), x[i]? = some v → x'[i]? = some v' → PR v v') : PR (.tup x) (.tuple x')
def LR (cs : List PV) (vs : List Value) : Prop := cs.length = vs.length ∧ ∀ (i : Nat) (v : PV) (v' : Value), cs[i]? = some v → vs[i]? = some v' → PR Z n ρ M h v v'
def FR (fr : VFr) (bf : Fr) : Prop := ∀ i, PR Z n ρ M h (fr i) (bf i)
def OR : VObj → AObj → Prop
  | .cells c, ao => ∃ c', ao = .cells c' ∧ LR Z n ρ M h c c'
  | .vec c, ao => ∃ c', ao = .cells c' ∧ LF (Zf Z n ρ M) h c c'
  | .map es clock, ao => ∃ es', ao = .map es' clock ∧ es.length = es'.length ∧ ∀ (i : Nat) (e : PV × PV × Nat) (e' : Value × Value × Nat), es[i]? = some e → es'[i]? = some e' →
      PR Z n ρ M h e.1 e'.1 ∧ PR Z n ρ M h e.2.1 e'.2.1 ∧ e'.2.2 = e.2.2
  | .loop L, ao => ∃ L', ao = .loop L' ∧ FR Z n ρ M h L.fr L'.fr ∧ L'.params = L.params ∧ L'.assign = L.assign ∧ L'.body = L.body ∧ L'.state = L.state ∧ L'.pending = L.pending
  | .gone, _ => True
/-- Closed cells. -/
def GlOk (E : VEnv) : Prop := ∀ g c, E.gl g = some c → h[g]? = some (.cells c) ∧ g < n ∧ Z g ∧ ∀ v ∈ c, closedS v = true
structure Mem (E : VEnv) (lo : Nat) : Prop where
  nlo : lo ≤ n
  nh : n ≤ h.size
  obj : ∀ t o, M[t]? = some o → Live o → n ≤ ρ t ∧ ∃ ao, h[ρ t]? = some ao ∧ OR Z n ρ M h o ao
  inj : ∀ t t' o o', M[t]? = some o → M[t']? = some o' → Live o → Live o' → ρ t = ρ t' → t = t'
  gl : GlOk Z n h E
end

/-- How memory goes on; 'k': so many objects stay. -/
structure Up (k : Nat) (ρ : Nat → Nat) (M : VM) (h : AH) (ρ' : Nat → Nat) (M' : VM) (h' : AH) : Prop where
  k0 : k ≤ M.length
  k1 : k ≤ M'.length
  ptr : ∀ t c', t < k → vcells M' t = some c' → ∃ c, vcells M t = some c ∧ c.length ≤ c'.length ∧ (c.length = c'.length → 0 < c.length → ρ' t = ρ t)
  map : ∀ t es m, t < k → M'[t]? = some (.map es m) → (∃ es0 m0, M[t]? = some (.map es0 m0)) ∧ ρ' t = ρ t
  loop : ∀ t L, t < k → M'[t]? = some (.loop L) → (∃ L0, M[t]? = some (.loop L0)) ∧ ρ' t = ρ t
  own : ∀ b, b < h.size → ¬ Owned ρ M b → h'[b]? = h[b]? ∧ ¬ Owned ρ' M' b
  hs : h.size ≤ h'.size

section
variable {Z : Nat → Prop} {n lo k : Nat} {ρ ρ' ρ'' : Nat → Nat} {M M' M'' : VM} {h h' h'' : AH} {E : VEnv}
theorem Up.refl (hk : k ≤ M.length) : Up k ρ M h ρ M h :=
  ⟨hk, hk, fun _ c' _ hc => ⟨c', hc, Nat.le_refl _, fun _ _ => rfl⟩, fun _ es m _ hm => ⟨⟨es, m, hm⟩, rfl⟩, fun _ L _ hm => ⟨⟨L, hm⟩, rfl⟩, fun _ _ hb => ⟨rfl, hb⟩, Nat.le_refl _⟩
theorem Up.trans (a : Up k ρ M h ρ' M' h') (b : Up k ρ' M' h' ρ'' M'' h'') : Up k ρ M h ρ'' M'' h'' := by
  refine ⟨a.k0, b.k1, fun t c' ht hc => ?_, fun t es m ht hm => ?_, fun t L ht hm => ?_, fun x hx ho => ?_, Nat.le_trans a.hs b.hs⟩
  · obtain ⟨c1, h1, h2, h3⟩ := b.ptr t c' ht hc
    obtain ⟨c0, g1, g2, g3⟩ := a.ptr t c1 ht h1
    exact ⟨c0, g1, Nat.le_trans g2 h2, fun e p => (h3 (by omega) (by omega)).trans (g3 (by omega) p)⟩
  · obtain ⟨⟨e1, m1, h1⟩, h2⟩ := b.map t es m ht hm
    obtain ⟨g1, g2⟩ := a.map t e1 m1 ht h1
    exact ⟨g1, h2.trans g2⟩
  · obtain ⟨⟨e1, h1⟩, h2⟩ := b.loop t L ht hm
    obtain ⟨g1, g2⟩ := a.loop t e1 ht h1
    exact ⟨g1, h2.trans g2⟩
  · obtain ⟨h1, h2⟩ := a.own x hx ho
    obtain ⟨g1, g2⟩ := b.own x (Nat.lt_of_lt_of_le hx a.hs) h2
    exact ⟨g1.trans h1, g2⟩
theorem Up.less {k' : Nat} (a : Up k ρ M h ρ' M' h') (hk : k' ≤ k) : Up k' ρ M h ρ' M' h' :=
  ⟨Nat.le_trans hk a.k0, Nat.le_trans hk a.k1, fun t c ht => a.ptr t c (Nat.lt_of_lt_of_le ht hk), fun t es m ht => a.map t es m (Nat.lt_of_lt_of_le ht hk), fun t L ht => a.loop t L (Nat.lt_of_lt_of_le ht hk), a.own, a.hs⟩
theorem Up.zf (a : Up k ρ M h ρ' M' h') {b : Nat} (hb : b < h.size) (hz : Zf Z n ρ M b) : Zf Z n ρ' M' b ∧ h'[b]? = h[b]? :=
  ⟨⟨hz.1, (a.own b hb hz.2).2⟩, (a.own b hb hz.2).1⟩
theorem PF.up (a : Up k ρ M h ρ' M' h') {v : PV} {w : Value} (p : PF (Zf Z n ρ M) h v w) : PF (Zf Z n ρ' M') h' v w := p.mono fun _ hb hz => a.zf hb hz
theorem LF.up (a : Up k ρ M h ρ' M' h') {v : List PV} {w : List Value} (p : LF (Zf Z n ρ M) h v w) : LF (Zf Z n ρ' M') h' v w := p.mono fun _ hb hz => a.zf hb hz
theorem PtrOk.up (a : Up M.length ρ M h ρ' M' h') {t len b : Nat} (p : PtrOk ρ M t len b) : PtrOk ρ' M' t len b := by
  refine ⟨Nat.lt_of_lt_of_le p.1 a.k1, fun c' hc => ?_⟩
  obtain ⟨c, h1, h2, h3⟩ := a.ptr t c' p.1 hc
  obtain ⟨h4, h5⟩ := p.2 c h1
  refine ⟨Nat.le_trans h4 h2, fun e hp => ?_⟩
  have : len = c.length := by omega
  exact (h5 this hp).trans (h3 (by omega) (by omega)).symm
theorem PR.up (a : Up M.length ρ M h ρ' M' h') {v : PV} {w : Value} (p : PR Z n ρ M h v w) : PR Z n ρ' M' h' v w := by
  induction p with
  | f hf => exact .f (hf.up a)
  | ptr hp => exact .ptr (hp.up a)
  | sl0 ht => exact .sl0 (Nat.lt_of_lt_of_le ht a.k1)
  | sl hp hl hm hc => exact .sl (hp.up a) hl hm hc
  | map ht hm => exact .map (Nat.lt_of_lt_of_le ht a.k1) fun es k hk => let ⟨⟨es0, k0, h1⟩, h2⟩ := a.map _ es k ht hk; (hm es0 k0 h1).trans h2.symm
  | yield ht hm => exact .yield (Nat.lt_of_lt_of_le ht a.k1) fun L hk => let ⟨⟨L0, h1⟩, h2⟩ := a.loop _ L ht hk; (hm L0 h1).trans h2.symm
  | func s1 _ s2 _ i1 i2 => exact .func s1 i1 s2 i2
  | agg s _ ih => exact .agg s ih
  | tup s _ ih => exact .tup s ih
theorem LR.up (a : Up M.length ρ M h ρ' M' h') {v : List PV} {w : List Value} (p : LR Z n ρ M h v w) : LR Z n ρ' M' h' v w := ⟨p.1, fun i v v' x y => (p.2 i v v' x y).up a⟩
theorem FR.up (a : Up M.length ρ M h ρ' M' h') {v : VFr} {w : Fr} (p : FR Z n ρ M h v w) : FR Z n ρ' M' h' v w := fun i => (p i).up a
theorem OR.up (a : Up M.length ρ M h ρ' M' h') {o : VObj} {ao : AObj} (p : OR Z n ρ M h o ao) : OR Z n ρ' M' h' o ao := by
  cases o with
  | cells c => obtain ⟨c', e, q⟩ := p; exact ⟨c', e, q.up a⟩
  | vec c => obtain ⟨c', e, q⟩ := p; exact ⟨c', e, q.up a⟩
  | map es m => obtain ⟨es', e, l, q⟩ := p; exact ⟨es', e, l, fun i x x' y y' => let ⟨q1, q2, q3⟩ := q i x x' y y'; ⟨q1.up a, q2.up a, q3⟩⟩
  | loop L => obtain ⟨L', e, q, r⟩ := p; exact ⟨L', e, q.up a, r⟩
  | gone => trivial
theorem FR.set {fr : VFr} {bf : Fr} (p : FR Z n ρ M h fr bf) {d : Nat} {v : PV} {w : Value} (hv : PR Z n ρ M h v w) : FR Z n ρ M h (updV fr d v) (upd bf d w) := by
  intro i
  unfold updV upd
  by_cases hi : i = d
  · simp only [hi, if_true]; exact hv
  · simp only [hi, if_false]; exact p i
theorem FR.put {fr : VFr} {bf : Fr} (p : FR Z n ρ M h fr bf) (d : Option Nat) {v : PV} {w : Value} (hv : PR Z n ρ M h v w) : FR Z n ρ M h (putV fr d v) (putF bf d w) := by
  cases d with
  | none => exact p
  | some d => exact p.set hv

theorem vcells_lt {t : Nat} {c : List PV} (hc : vcells M t = some c) : t < M.length := by
  unfold vcells at hc
  by_cases ht : t < M.length
  · exact ht
  · rw [List.getElem?_eq_none (by omega)] at hc; cases hc
theorem vcells_some {t : Nat} {c : List PV} (hc : vcells M t = some c) : M[t]? = some (.cells c) ∨ M[t]? = some (.vec c) := by
  unfold vcells at hc
  split at hc <;> cases hc
  · exact .inl (by assumption)
  · exact .inr (by assumption)

/-! ### Reading what values stand for -/
theorem PF.pr {v : PV} {w : Value} (p : PF (Zf Z n ρ M) h v w) : PR Z n ρ M h v w := .f p
theorem LF.lr {v : List PV} {w : List Value} (p : LF (Zf Z n ρ M) h v w) : LR Z n ρ M h v w := ⟨p.1, fun i a b x y => .f (p.2 i a b x y)⟩
theorem PR.int_inv {k : IntKind} {m : Int} {w : Value} (p : PR Z n ρ M h (.int k m) w) : w = .int k m := by cases p with | f p => cases p; rfl
theorem PR.bool_inv {b : Bool} {w : Value} (p : PR Z n ρ M h (.bool b) w) : w = .bool b := by cases p with | f p => cases p; rfl
theorem PR.str_inv {b : ByteArray} {w : Value} (p : PR Z n ρ M h (.str b) w) : w = .string b := by cases p with | f p => cases p; rfl
theorem PR.nilS_inv {w : Value} (p : PR Z n ρ M h .nilS w) : w = .slice none 0 0 := by cases p with | f p => cases p; rfl
theorem PR.nilP_inv {w : Value} (p : PR Z n ρ M h .nilP w) : w = .pointer none := by cases p with | f p => cases p; rfl
theorem PR.nilM_inv {w : Value} (p : PR Z n ρ M h .nilM w) : w = .map none := by cases p with | f p => cases p; rfl
theorem PR.nilF_inv {w : Value} (p : PR Z n ρ M h .nilF w) : w = .nilFunc := by cases p with | f p => cases p; rfl
theorem PR.agg_inv {x : List PV} {w : Value} (p : PR Z n ρ M h (.agg x) w) : ∃ x', w = .agg x' ∧ LR Z n ρ M h x x'.toList := by
  cases p with
  | f p => cases p with | agg s hx => exact ⟨_, rfl, by simpa using s, fun i v v' a b => .f (hx i v v' a (by simpa using b))⟩
  | agg s hx => exact ⟨_, rfl, by simpa using s, fun i v v' a b => hx i v v' a (by simpa using b)⟩
theorem PR.tup_inv {x : List PV} {w : Value} (p : PR Z n ρ M h (.tup x) w) : ∃ x', w = .tuple x' ∧ LR Z n ρ M h x x'.toList := by
  cases p with
  | f p => cases p with | tup s hx => exact ⟨_, rfl, by simpa using s, fun i v v' a b => .f (hx i v v' a (by simpa using b))⟩
  | tup s hx => exact ⟨_, rfl, by simpa using s, fun i v v' a b => hx i v v' a (by simpa using b)⟩
theorem PR.func_inv {f : Nat} {x c : List PV} {w : Value} (p : PR Z n ρ M h (.func f x c) w) : ∃ x' c', w = .func (.func f) x' c' ∧ LR Z n ρ M h x x'.toList ∧ LR Z n ρ M h c c'.toList := by
  cases p with
  | f p => cases p with | func s1 h1 s2 h2 => exact ⟨_, _, rfl, ⟨by simpa using s1, fun i v v' a b => .f (h1 i v v' a (by simpa using b))⟩, ⟨by simpa using s2, fun i v v' a b => .f (h2 i v v' a (by simpa using b))⟩⟩
  | func s1 h1 s2 h2 => exact ⟨_, _, rfl, ⟨by simpa using s1, fun i v v' a b => h1 i v v' a (by simpa using b)⟩, ⟨by simpa using s2, fun i v v' a b => h2 i v v' a (by simpa using b)⟩⟩
theorem PR.agg' {x : List PV} {x' : Array Value} (p : LR Z n ρ M h x x'.toList) : PR Z n ρ M h (.agg x) (.agg x') := .agg (by simpa using p.1) fun i v v' a b => p.2 i v v' a (by simpa using b)
theorem PR.tup' {x : List PV} {x' : Array Value} (p : LR Z n ρ M h x x'.toList) : PR Z n ρ M h (.tup x) (.tuple x') := .tup (by simpa using p.1) fun i v v' a b => p.2 i v v' a (by simpa using b)
theorem PR.func' {f : Nat} {x c : List PV} {x' c' : Array Value} (p : LR Z n ρ M h x x'.toList) (q : LR Z n ρ M h c c'.toList) : PR Z n ρ M h (.func f x c) (.func (.func f) x' c') :=
  .func (by simpa using p.1) (fun i v v' a b => p.2 i v v' a (by simpa using b)) (by simpa using q.1) (fun i v v' a b => q.2 i v v' a (by simpa using b))

theorem LR.nil : LR Z n ρ M h [] [] := ⟨rfl, fun i v v' a => by simp at a⟩
theorem LR.cons {x : PV} {y : Value} {xs : List PV} {ys : List Value} (p : PR Z n ρ M h x y) (q : LR Z n ρ M h xs ys) : LR Z n ρ M h (x :: xs) (y :: ys) :=
  ⟨by simp [q.1], fun i v v' a b => by
    cases i with
    | zero => simp at a b; subst a b; exact p
    | succ i => simp at a b; exact q.2 i v v' a b⟩
theorem LR.append {a c : List PV} {b d : List Value} (p : LR Z n ρ M h a b) (q : LR Z n ρ M h c d) : LR Z n ρ M h (a ++ c) (b ++ d) := by
  refine ⟨by simp [p.1, q.1], fun i v v' x y => ?_⟩
  by_cases hi : i < a.length
  · rw [List.getElem?_append_left hi] at x
    rw [List.getElem?_append_left (p.1 ▸ hi)] at y
    exact p.2 i v v' x y
  · rw [List.getElem?_append_right (by omega)] at x
    rw [List.getElem?_append_right (by rw [← p.1]; omega), ← p.1] at y
    exact q.2 _ v v' x y
theorem LR.take {a : List PV} {b : List Value} (p : LR Z n ρ M h a b) (m : Nat) : LR Z n ρ M h (a.take m) (b.take m) := by
  refine ⟨by simp [p.1], fun i v v' x y => ?_⟩
  rw [List.getElem?_take] at x y
  split at x
  · rename_i hi; rw [if_pos hi] at y; exact p.2 i v v' x y
  · cases x
theorem LR.drop {a : List PV} {b : List Value} (p : LR Z n ρ M h a b) (m : Nat) : LR Z n ρ M h (a.drop m) (b.drop m) := by
  refine ⟨by simp [p.1], fun i v v' x y => ?_⟩
  rw [List.getElem?_drop] at x y
  exact p.2 _ v v' x y
theorem LR.get {a : List PV} {b : List Value} (p : LR Z n ρ M h a b) {i : Nat} {v : PV} (x : a[i]? = some v) : ∃ v', b[i]? = some v' ∧ PR Z n ρ M h v v' := by
  have hi : i < a.length := (List.getElem?_eq_some_iff.1 x).1
  have hb : i < b.length := p.1 ▸ hi
  exact ⟨b[i], List.getElem?_eq_getElem hb, p.2 i v _ x (List.getElem?_eq_getElem hb)⟩
theorem LR.splice {a c : List PV} {b d : List Value} (p : LR Z n ρ M h a b) (q : LR Z n ρ M h c d) (o : Nat) : LR Z n ρ M h (spliceV a o c) (splice b o d) := by
  unfold spliceV RS.splice
  rw [q.1]
  exact ((p.take o).append q).append (p.drop _)
theorem LR.mapO {E : VEnv} {fr : VFr} {bf : Fr} {l : List Opd} (hl : ∀ x ∈ l, PR Z n ρ M h (x.evV E fr) (x.ev bf)) : LR Z n ρ M h (l.map (·.evV E fr)) (l.map (·.ev bf)) := by
  induction l with
  | nil => exact .nil
  | cons x l ih => exact .cons (hl x (by simp)) (ih fun y hy => hl y (by simp [hy]))
theorem LF.append {Z : Nat → Prop} {a c : List PV} {b d : List Value} (p : LF Z h a b) (q : LF Z h c d) : LF Z h (a ++ c) (b ++ d) := by
  refine ⟨by simp [p.1, q.1], fun i v v' x y => ?_⟩
  by_cases hi : i < a.length
  · rw [List.getElem?_append_left hi] at x
    rw [List.getElem?_append_left (p.1 ▸ hi)] at y
    exact p.2 i v v' x y
  · rw [List.getElem?_append_right (by omega)] at x
    rw [List.getElem?_append_right (by rw [← p.1]; omega), ← p.1] at y
    exact q.2 _ v v' x y
theorem LF.take {Z : Nat → Prop} {a : List PV} {b : List Value} (p : LF Z h a b) (m : Nat) : LF Z h (a.take m) (b.take m) := by
  refine ⟨by simp [p.1], fun i v v' x y => ?_⟩
  rw [List.getElem?_take] at x y
  split at x
  · rename_i hi; rw [if_pos hi] at y; exact p.2 i v v' x y
  · cases x
theorem LF.drop {Z : Nat → Prop} {a : List PV} {b : List Value} (p : LF Z h a b) (m : Nat) : LF Z h (a.drop m) (b.drop m) := by
  refine ⟨by simp [p.1], fun i v v' x y => ?_⟩
  rw [List.getElem?_drop] at x y
  exact p.2 _ v v' x y
theorem LF.splice {Z : Nat → Prop} {a c : List PV} {b d : List Value} (p : LF Z h a b) (q : LF Z h c d) (o : Nat) : LF Z h (spliceV a o c) (splice b o d) := by
  unfold spliceV RS.splice
  rw [q.1]
  exact ((p.take o).append q).append (p.drop _)
theorem LF.get {Z : Nat → Prop} {a : List PV} {b : List Value} (p : LF Z h a b) {i : Nat} {v : PV} (x : a[i]? = some v) : ∃ v', b[i]? = some v' ∧ PF Z h v v' := by
  have hi : i < a.length := (List.getElem?_eq_some_iff.1 x).1
  have hb : i < b.length := p.1 ▸ hi
  exact ⟨b[i], List.getElem?_eq_getElem hb, p.2 i v _ x (List.getElem?_eq_getElem hb)⟩

/-- What cannot be written names no block that can. -/
theorem isFL_mem : ∀ {l : List PV}, PV.isFL l = true → ∀ v ∈ l, v.isF = true
  | [], _, v, hv => by cases hv
  | x :: l, hl, v, hv => by
    simp only [PV.isFL, Bool.and_eq_true] at hl
    rcases List.mem_cons.1 hv with rfl | hv
    · exact hl.1
    · exact isFL_mem hl.2 v hv
theorem PR.toF {v : PV} {w : Value} (p : PR Z n ρ M h v w) : v.isF = true → PF (Zf Z n ρ M) h v w := by
  induction p with
  | f hf => exact fun _ => hf
  | ptr _ => intro hf; simp [PV.isF] at hf
  | sl0 _ => intro hf; simp [PV.isF] at hf
  | sl _ _ _ _ => intro hf; simp [PV.isF] at hf
  | map _ _ => intro hf; simp [PV.isF] at hf
  | yield _ _ => intro hf; simp [PV.isF] at hf
  | func s1 _ s2 _ i1 i2 =>
    intro hf
    simp only [PV.isF, Bool.and_eq_true] at hf
    exact .func s1 (fun i v v' a b => i1 i v v' a b (isFL_mem hf.1 v (List.mem_of_getElem? a))) s2 (fun i v v' a b => i2 i v v' a b (isFL_mem hf.2 v (List.mem_of_getElem? a)))
  | agg s _ ih =>
    intro hf
    simp only [PV.isF] at hf
    exact .agg s fun i v v' a b => ih i v v' a b (isFL_mem hf v (List.mem_of_getElem? a))
  | tup s _ ih =>
    intro hf
    simp only [PV.isF] at hf
    exact .tup s fun i v v' a b => ih i v v' a b (isFL_mem hf v (List.mem_of_getElem? a))
theorem LR.toF {v : List PV} {w : List Value} (p : LR Z n ρ M h v w) (hf : PV.isFL v = true) : LF (Zf Z n ρ M) h v w :=
  ⟨p.1, fun i a b x y => (p.2 i a b x y).toF (isFL_mem hf a (List.mem_of_getElem? x))⟩

/-! ### Constants -/
end
end Go.RS

/- The value machine against the abstract machine (2): how memory goes on. -/
namespace Go.RS
open Go

section
variable {Z : Nat → Prop} {n lo k : Nat} {ρ ρ' ρ'' : Nat → Nat} {M M' M'' : VM} {h h' h'' : AH} {E : VEnv}

theorem Mem.lt (m : Mem Z n ρ M h E lo) {t : Nat} {o : VObj} (ho : M[t]? = some o) (hl : Live o) : ρ t < h.size := by
  obtain ⟨_, ao, ha, _⟩ := m.obj t o ho hl
  exact (Array.getElem?_eq_some_iff.1 ha).1
theorem Mem.own_lt (m : Mem Z n ρ M h E lo) {b : Nat} (ho : Owned ρ M b) : n ≤ b ∧ b < h.size := by
  obtain ⟨t, o, h1, h2, rfl⟩ := ho
  exact ⟨(m.obj t o h1 h2).1, m.lt h1 h2⟩
theorem GlOk.up {Z : Nat → Prop} (g : GlOk Z n h E) (hn : n ≤ h.size) (hb : ∀ b : Nat, b < n → h'[b]? = h[b]?) : GlOk Z n h' E :=
  fun x c hx => let ⟨h1, h2, h3, h4⟩ := g x c hx; ⟨by rw [hb x h2]; exact h1, h2, h3, h4⟩

/-- Blocks that are new, and not written here. -/
theorem Mem.grow (m : Mem Z n ρ M h E lo) (hk : k ≤ M.length) (hg : Grow h h') : Mem Z n ρ M h' E lo ∧ Up k ρ M h ρ M h' := by
  have up : ∀ k, k ≤ M.length → Up k ρ M h ρ M h' := fun k hk => ⟨hk, hk, (Up.refl (h := h) hk).ptr, (Up.refl (h := h) hk).map, (Up.refl (h := h) hk).loop, fun b hb ho => ⟨hg.2 b hb, ho⟩, hg.1⟩
  refine ⟨⟨m.nlo, Nat.le_trans m.nh hg.1, fun t o ho hl => ?_, m.inj, m.gl.up m.nh fun b hb => hg.2 b (Nat.lt_of_lt_of_le hb m.nh)⟩, up k hk⟩
  obtain ⟨h1, ao, h2, h3⟩ := m.obj t o ho hl
  exact ⟨h1, ao, by rw [hg.2 _ (m.lt ho hl)]; exact h2, h3.up (up _ (Nat.le_refl _))⟩

def rset (ρ : Nat → Nat) (t b : Nat) : Nat → Nat := fun i => if i = t then b else ρ i
theorem rset_same (t b : Nat) : rset ρ t b t = b := by simp [rset]
theorem rset_other {t i : Nat} (b : Nat) (hi : i ≠ t) : rset ρ t b i = ρ i := by simp [rset, hi]

theorem vcells_push {o : VObj} {t : Nat} (ht : t < M.length) : vcells (M ++ [o]) t = vcells M t := by
  unfold vcells; rw [List.getElem?_append_left ht]
theorem own_push {o : VObj} {b x : Nat} (hx : x ≠ b) (hx' : Owned (rset ρ M.length b) (M ++ [o]) x) : Owned ρ M x := by
  obtain ⟨t, o', h1, h2, h3⟩ := hx'
  by_cases ht : t < M.length
  · rw [List.getElem?_append_left ht] at h1
    rw [rset_other _ (by omega)] at h3
    exact ⟨t, o', h1, h2, h3⟩
  · have : t = M.length := by
      have := (List.getElem?_eq_some_iff.1 h1).1
      simp at this; omega
    subst this
    rw [rset_same] at h3
    exact absurd h3.symm hx
/-- A new object of one's own. -/
theorem up_push (hown : ∀ b, Owned ρ M b → b < h.size) (hk : k ≤ M.length) {h' : AH} (hg : Grow h h') (o : VObj) : Up k ρ M h (rset ρ M.length h.size) (M ++ [o]) h' := by
  refine ⟨hk, by simp; omega, fun t c' ht hc => ?_, fun t es m ht hm => ?_, fun t L ht hm => ?_, fun b hb ho => ⟨hg.2 b hb, fun hx => ho (own_push (by omega) hx)⟩, hg.1⟩
  · rw [vcells_push (by omega)] at hc
    exact ⟨c', hc, Nat.le_refl _, fun _ _ => rset_other _ (by omega)⟩
  · rw [List.getElem?_append_left (by omega)] at hm
    exact ⟨⟨es, m, hm⟩, rset_other _ (by omega)⟩
  · rw [List.getElem?_append_left (by omega)] at hm
    exact ⟨⟨L, hm⟩, rset_other _ (by omega)⟩
theorem Mem.push (m : Mem Z n ρ M h E lo) (hk : k ≤ M.length) (o : VObj) (ao : AObj) (ho : OR Z n (rset ρ M.length h.size) (M ++ [o]) (h.push ao) o ao) :
    Mem Z n (rset ρ M.length h.size) (M ++ [o]) (h.push ao) E lo ∧ Up k ρ M h (rset ρ M.length h.size) (M ++ [o]) (h.push ao) := by
  have hg : Grow h (h.push ao) := ⟨by simp, fun b hb => by rw [Array.getElem?_push, if_neg (by omega)]⟩
  have up := up_push (fun b hb => (m.own_lt hb).2) (Nat.le_refl _) hg o
  refine ⟨⟨m.nlo, Nat.le_trans m.nh hg.1, fun t o' ho' hl => ?_, fun t t' o1 o2 h1 h2 l1 l2 he => ?_, m.gl.up m.nh fun b hb => hg.2 b (Nat.lt_of_lt_of_le hb m.nh)⟩, up.less hk⟩
  · by_cases ht : t < M.length
    · rw [List.getElem?_append_left ht] at ho'
      obtain ⟨h1, a, h2, h3⟩ := m.obj t o' ho' hl
      rw [rset_other _ (by omega)]
      exact ⟨h1, a, by rw [hg.2 _ (m.lt ho' hl)]; exact h2, h3.up up⟩
    · have : t = M.length := by
        have := (List.getElem?_eq_some_iff.1 ho').1
        simp at this; omega
      subst this
      simp at ho'; subst ho'
      rw [rset_same]
      exact ⟨m.nh, ao, by simp, ho⟩
  · by_cases ht : t < M.length <;> by_cases ht' : t' < M.length
    · rw [List.getElem?_append_left ht] at h1
      rw [List.getElem?_append_left ht'] at h2
      rw [rset_other _ (by omega), rset_other _ (by omega)] at he
      exact m.inj t t' o1 o2 h1 h2 l1 l2 he
    · have e' : t' = M.length := by
        have := (List.getElem?_eq_some_iff.1 h2).1
        simp at this; omega
      subst e'
      rw [List.getElem?_append_left ht] at h1
      rw [rset_other _ (by omega), rset_same] at he
      have := m.lt h1 l1; omega
    · have e' : t = M.length := by
        have := (List.getElem?_eq_some_iff.1 h1).1
        simp at this; omega
      subst e'
      rw [List.getElem?_append_left ht'] at h2
      rw [rset_same, rset_other _ (by omega)] at he
      have := m.lt h2 l2; omega
    · have e1 := (List.getElem?_eq_some_iff.1 h1).1
      have e2 := (List.getElem?_eq_some_iff.1 h2).1
      simp at e1 e2; omega

/-- Kinds of objects stay. -/
def SameK : VObj → VObj → Prop
  | .cells c, .cells c' => c.length = c'.length
  | .vec c, .vec c' => c.length = c'.length
  | .map .., .map .. => True
  | .loop _, .loop _ => True
  | _, _ => False
theorem SameK.live {o o' : VObj} (hs : SameK o o') (hl : Live o) : Live o' := by
  cases o <;> cases o' <;> simp only [SameK] at hs <;> try (exact hs.elim)
  all_goals try trivial
  all_goals simp only [Live] at hl ⊢; intro he; subst he; exact hl (List.eq_nil_of_length_eq_zero (by simpa using hs))
theorem own_set {t x : Nat} {o o' : VObj} (ht : M[t]? = some o) (hl : Live o) (hx : Owned ρ (M.set t o') x) : Owned ρ M x := by
  obtain ⟨t', o2, h1, h2, h3⟩ := hx
  by_cases he : t' = t
  · subst he; exact ⟨t', o, ht, hl, h3⟩
  · rw [List.getElem?_set_ne (Ne.symm he)] at h1
    exact ⟨t', o2, h1, h2, h3⟩
/-- An object's content turns. -/
theorem Mem.turn (m : Mem Z n ρ M h E lo) (hk : k ≤ M.length) {t : Nat} {o o' : VObj} {ao : AObj} (ht : M[t]? = some o) (hl : Live o) (hs : SameK o o')
    (ho : Up M.length ρ M h ρ (M.set t o') (h.setIfInBounds (ρ t) ao) → OR Z n ρ (M.set t o') (h.setIfInBounds (ρ t) ao) o' ao) :
    Mem Z n ρ (M.set t o') (h.setIfInBounds (ρ t) ao) E lo ∧ Up k ρ M h ρ (M.set t o') (h.setIfInBounds (ρ t) ao) := by
  have hlt := m.lt ht hl
  have htl := (List.getElem?_eq_some_iff.1 ht).1
  have up : Up M.length ρ M h ρ (M.set t o') (h.setIfInBounds (ρ t) ao) := by
    refine ⟨Nat.le_refl _, by simp, fun t' c' ht' hc => ?_, fun t' es x ht' hm => ?_, fun t' L ht' hm => ?_, fun b hb hx => ⟨?_, fun h2 => hx (own_set ht hl h2)⟩, by simp⟩
    · by_cases he : t' = t
      · subst he
        unfold vcells at hc ⊢
        rw [List.getElem?_set_self htl] at hc
        rw [ht]
        cases o <;> cases o' <;> simp only [SameK] at hs <;> try (exact hs.elim)
        all_goals first
          | (simp only [Option.some.injEq] at hc; subst hc; exact ⟨_, rfl, by omega, fun _ _ => rfl⟩)
          | cases hc
      · unfold vcells at hc ⊢
        rw [List.getElem?_set_ne (Ne.symm he)] at hc
        exact ⟨c', hc, Nat.le_refl _, fun _ _ => rfl⟩
    · by_cases he : t' = t
      · subst he
        rw [List.getElem?_set_self htl] at hm
        cases hm
        cases o <;> simp only [SameK] at hs
        exact ⟨⟨_, _, ht⟩, rfl⟩
      · rw [List.getElem?_set_ne (Ne.symm he)] at hm
        exact ⟨⟨es, x, hm⟩, rfl⟩
    · by_cases he : t' = t
      · subst he
        rw [List.getElem?_set_self htl] at hm
        cases hm
        cases o <;> simp only [SameK] at hs
        exact ⟨⟨_, ht⟩, rfl⟩
      · rw [List.getElem?_set_ne (Ne.symm he)] at hm
        exact ⟨⟨L, hm⟩, rfl⟩
    · rw [Array.getElem?_setIfInBounds_ne]
      rintro rfl
      exact hx ⟨t, o, ht, hl, rfl⟩
  refine ⟨⟨m.nlo, by simpa using m.nh, fun t' o2 ho2 hl2 => ?_, fun t1 t2 o1 o2 h1 h2 l1 l2 he => ?_, m.gl.up m.nh fun b hb => ?_⟩, up.less hk⟩
  · by_cases he : t' = t
    · subst he
      rw [List.getElem?_set_self htl] at ho2
      cases ho2
      exact ⟨(m.obj t' o ht hl).1, ao, by simp [hlt], ho up⟩
    · rw [List.getElem?_set_ne (Ne.symm he)] at ho2
      obtain ⟨g1, a, g2, g3⟩ := m.obj t' o2 ho2 hl2
      refine ⟨g1, a, ?_, g3.up up⟩
      rw [Array.getElem?_setIfInBounds_ne]
      · exact g2
      · intro hx; exact he (m.inj t' t o2 o ho2 ht hl2 hl hx.symm)
  · have back : ∀ (t' : Nat) (o' : VObj) (x : VObj), (M.set t o')[t']? = some x → Live x → ∃ y, M[t']? = some y ∧ Live y := by
      intro t' o' x hx hlx
      by_cases he : t' = t
      · subst he; exact ⟨o, ht, hl⟩
      · rw [List.getElem?_set_ne (Ne.symm he)] at hx; exact ⟨x, hx, hlx⟩
    obtain ⟨y1, a1, b1⟩ := back t1 o' o1 h1 l1
    obtain ⟨y2, a2, b2⟩ := back t2 o' o2 h2 l2
    exact m.inj t1 t2 y1 y2 a1 a2 b1 b2 he
  · rw [Array.getElem?_setIfInBounds_ne]
    have := (m.obj t o ht hl).1
    omega

/-- A list grows: its block is another one. -/
theorem Mem.renew (m : Mem Z n ρ M h E lo) (hk : k ≤ M.length) {t : Nat} {o o' : VObj} {c c' : List PV} {ao : AObj} (hc : vcells M t = some c) (ht : M[t]? = some o) (hc' : vcells (M.set t o') t = some c') (hlen : c.length < c'.length)
    {h0 : AH} (hh : h0.size = h.size) (hb : ∀ b : Nat, b < h.size → ¬ (Live o ∧ b = ρ t) → h0[b]? = h[b]?)
    (ho : Up M.length ρ M h (rset ρ t h.size) (M.set t o') (h0.push ao) → OR Z n (rset ρ t h.size) (M.set t o') (h0.push ao) o' ao) :
    Mem Z n (rset ρ t h.size) (M.set t o') (h0.push ao) E lo ∧ Up k ρ M h (rset ρ t h.size) (M.set t o') (h0.push ao) := by
  have htl := (List.getElem?_eq_some_iff.1 ht).1
  have hget : ∀ b : Nat, b < h.size → ¬ (Live o ∧ b = ρ t) → (h0.push ao)[b]? = h[b]? := fun b h1 h2 => by
    rw [Array.getElem?_push, if_neg (by omega)]; exact hb b h1 h2
  have hnew : (h0.push ao)[h.size]? = some ao := by rw [← hh]; simp
  have up : Up M.length ρ M h (rset ρ t h.size) (M.set t o') (h0.push ao) := by
    refine ⟨Nat.le_refl _, by simp, fun t' c2 ht' h2 => ?_, fun t' es x ht' hm => ?_, fun t' L ht' hm => ?_, fun b hbl hx => ⟨hget b hbl fun hlo => hx ⟨t, o, ht, hlo.1, hlo.2.symm⟩, fun hx2 => ?_⟩, by simp; omega⟩
    · by_cases he : t' = t
      · subst he
        rw [hc'] at h2; cases h2
        exact ⟨c, hc, by omega, fun e => by omega⟩
      · unfold vcells at h2 ⊢
        rw [List.getElem?_set_ne (Ne.symm he)] at h2
        exact ⟨c2, h2, Nat.le_refl _, fun _ _ => rset_other _ he⟩
    · by_cases he : t' = t
      · subst he
        unfold vcells at hc'
        rw [hm] at hc'; cases hc'
      · rw [List.getElem?_set_ne (Ne.symm he)] at hm
        exact ⟨⟨es, x, hm⟩, rset_other _ he⟩
    · by_cases he : t' = t
      · subst he
        unfold vcells at hc'
        rw [hm] at hc'; cases hc'
      · rw [List.getElem?_set_ne (Ne.symm he)] at hm
        exact ⟨⟨L, hm⟩, rset_other _ he⟩
    · obtain ⟨t', o2, g1, g2, g3⟩ := hx2
      by_cases he : t' = t
      · subst he; rw [rset_same] at g3; omega
      · rw [List.getElem?_set_ne (Ne.symm he)] at g1
        rw [rset_other _ he] at g3
        exact hx ⟨t', o2, g1, g2, g3⟩
  have old : ∀ (t' : Nat) (x : VObj), t' ≠ t → (M.set t o')[t']? = some x → M[t']? = some x := fun t' x he hx => by rwa [List.getElem?_set_ne (Ne.symm he)] at hx
  refine ⟨⟨m.nlo, by simp; have := m.nh; omega, fun t' o2 ho2 hl2 => ?_, fun t1 t2 o1 o2 h1 h2 l1 l2 he => ?_, m.gl.up m.nh fun b hbn => hget b (Nat.lt_of_lt_of_le hbn m.nh) fun hlo => ?_⟩, up.less hk⟩
  · by_cases he : t' = t
    · subst he
      rw [List.getElem?_set_self htl] at ho2
      cases ho2
      rw [rset_same]
      exact ⟨m.nh, ao, hnew, ho up⟩
    · have h1 := old t' o2 he ho2
      obtain ⟨g1, a, g2, g3⟩ := m.obj t' o2 h1 hl2
      rw [rset_other _ he]
      refine ⟨g1, a, ?_, g3.up up⟩
      rw [hget _ (m.lt h1 hl2) fun hx => he (m.inj t' t o2 o h1 ht hl2 hx.1 hx.2)]
      exact g2
  · by_cases e1 : t1 = t <;> by_cases e2 : t2 = t
    · omega
    · subst e1
      rw [rset_same, rset_other _ e2] at he
      have := m.lt (old t2 o2 e2 h2) l2; omega
    · subst e2
      rw [rset_same, rset_other _ e1] at he
      have := m.lt (old t1 o1 e1 h1) l1; omega
    · rw [rset_other _ e1, rset_other _ e2] at he
      exact m.inj t1 t2 o1 o2 (old t1 o1 e1 h1) (old t2 o2 e2 h2) l1 l2 he
  · have := (m.obj t o ht hlo.1).1; omega

/-- An object is given up: what it holds is not written any more. -/
theorem Mem.gone (m : Mem Z n ρ M h E lo) (hk : k ≤ M.length) (t : Nat) : Mem Z n ρ (M.set t .gone) h E lo ∧ Up k ρ M h ρ (M.set t .gone) h := by
  have back : ∀ (t' : Nat) (x : VObj), (M.set t .gone)[t']? = some x → x ≠ .gone → M[t']? = some x := by
    intro t' x hx hg
    by_cases he : t' = t
    · subst he
      by_cases hl : t' < M.length
      · rw [List.getElem?_set_self hl] at hx; cases hx; exact absurd rfl hg
      · rw [List.getElem?_eq_none (by simp; omega)] at hx; cases hx
    · rwa [List.getElem?_set_ne (Ne.symm he)] at hx
  have live : ∀ x, Live x → x ≠ .gone := fun x hl he => by subst he; exact hl
  have up : Up M.length ρ M h ρ (M.set t .gone) h := by
    refine ⟨Nat.le_refl _, by simp, fun t' c ht' hc => ⟨c, ?_, Nat.le_refl _, fun _ _ => rfl⟩, fun t' es x ht' hm => ⟨⟨es, x, back _ _ hm (by simp)⟩, rfl⟩, fun t' L ht' hm => ⟨⟨L, back _ _ hm (by simp)⟩, rfl⟩, fun b hb hx => ⟨rfl, fun h2 => ?_⟩, Nat.le_refl _⟩
    · rcases vcells_some hc with h1 | h1 <;> (have := back _ _ h1 (by simp); unfold vcells; rw [this])
    · obtain ⟨t', o2, g1, g2, g3⟩ := h2
      exact hx ⟨t', o2, back _ _ g1 (live _ g2), g2, g3⟩
  refine ⟨⟨m.nlo, m.nh, fun t' o2 ho2 hl2 => ?_, fun t1 t2 o1 o2 h1 h2 l1 l2 he => m.inj t1 t2 o1 o2 (back _ _ h1 (live _ l1)) (back _ _ h2 (live _ l2)) l1 l2 he, m.gl⟩, up.less hk⟩
  obtain ⟨g1, a, g2, g3⟩ := m.obj t' o2 (back _ _ ho2 (live _ hl2)) hl2
  exact ⟨g1, a, g2, g3.up up⟩

/-! ### Objects at the end are dropped -/
mutual
/-- No name of an object from 'j' on. -/
def PV.und (j : Nat) : PV → Bool
  | .ptr t _ _ | .map t | .yield t => decide (t < j)
  | .sl t _ _ _ _ _ => decide (t < j)
  | .agg cs | .tup cs => undL j cs
  | .func _ a c => undL j a && undL j c
  | _ => true
def PV.undL (j : Nat) : List PV → Bool
  | [] => true
  | v :: vs => v.und j && undL j vs
end
theorem undL_mem {j : Nat} : ∀ {l : List PV}, PV.undL j l = true → ∀ v ∈ l, v.und j = true
  | [], _, v, hv => by cases hv
  | x :: l, hl, v, hv => by
    simp only [PV.undL, Bool.and_eq_true] at hl
    rcases List.mem_cons.1 hv with rfl | hv
    · exact hl.1
    · exact undL_mem hl.2 v hv
theorem undL_isF {j : Nat} : ∀ {l : List PV}, PV.isFL l = true → PV.undL j l = true := by
  have one : ∀ v : PV, v.isF = true → v.und j = true := fun v => PV.rec (motive_1 := fun v => v.isF = true → v.und j = true) (motive_2 := fun l => PV.isFL l = true → PV.undL j l = true)
    (fun _ => rfl) (fun _ _ _ => rfl) (fun _ _ => rfl) (fun _ _ => rfl) (fun _ => rfl) (fun _ _ _ h => by simp [PV.isF] at h) (fun _ _ _ => rfl) (fun _ => rfl) (fun _ _ _ _ _ _ => rfl) (fun _ _ _ _ _ _ h => by simp [PV.isF] at h) (fun _ => rfl)
    (fun _ h => by simp [PV.isF] at h) (fun _ => rfl) (fun _ a c ha hc h => by simp only [PV.isF, Bool.and_eq_true] at h; simp only [PV.und, Bool.and_eq_true]; exact ⟨ha h.1, hc h.2⟩) (fun _ h => by simp [PV.isF] at h)
    (fun _ hx h => by simp only [PV.isF] at h; simp only [PV.und]; exact hx h) (fun _ hx h => by simp only [PV.isF] at h; simp only [PV.und]; exact hx h)
    (fun _ => rfl) (fun _ => rfl) (fun _ _ h1 h2 h => by simp only [PV.isFL, Bool.and_eq_true] at h; simp only [PV.undL, Bool.and_eq_true]; exact ⟨h1 h.1, h2 h.2⟩) v
  intro l
  induction l with
  | nil => exact fun _ => rfl
  | cons x l ih =>
    intro hl
    simp only [PV.isFL, Bool.and_eq_true] at hl
    simp only [PV.undL, Bool.and_eq_true]
    exact ⟨one x hl.1, ih hl.2⟩

theorem vcells_take {j t : Nat} {c : List PV} (hc : vcells (M.take j) t = some c) : t < j ∧ vcells M t = some c := by
  have hlt := vcells_lt hc
  simp at hlt
  refine ⟨by omega, ?_⟩
  unfold vcells at hc ⊢
  rwa [List.getElem?_take_of_lt (by omega)] at hc
theorem get_take {j t : Nat} {o : VObj} (hc : (M.take j)[t]? = some o) : t < j ∧ M[t]? = some o := by
  have hlt := (List.getElem?_eq_some_iff.1 hc).1
  simp at hlt
  refine ⟨by omega, ?_⟩
  rwa [List.getElem?_take_of_lt (by omega)] at hc
theorem own_take {j b : Nat} (hx : Owned ρ (M.take j) b) : Owned ρ M b := by
  obtain ⟨t, o, h1, h2, h3⟩ := hx
  exact ⟨t, o, (get_take h1).2, h2, h3⟩
theorem PR.take {j : Nat} (hj : j ≤ M.length) {v : PV} {w : Value} (p : PR Z n ρ M h v w) : v.und j = true → PR Z n ρ (M.take j) h v w := by
  have zf : ∀ b, b < h.size → Zf Z n ρ M b → Zf Z n ρ (M.take j) b ∧ h[b]? = h[b]? := fun b _ hz => ⟨⟨hz.1, fun hx => hz.2 (own_take hx)⟩, rfl⟩
  have pk : ∀ {t len b}, t < j → PtrOk ρ M t len b → PtrOk ρ (M.take j) t len b := fun ht p => ⟨by have := p.1; simp; omega, fun c hc => p.2 c (vcells_take hc).2⟩
  induction p with
  | f hf => exact fun _ => .f (hf.mono zf)
  | ptr hp => intro hb; simp [PV.und] at hb; exact .ptr (pk hb hp)
  | sl0 ht => intro hb; simp [PV.und] at hb; exact .sl0 (by simp; omega)
  | sl hp hl hm hc => intro hb; simp [PV.und] at hb; exact .sl (pk hb hp) hl hm hc
  | map ht hm => intro hb; simp [PV.und] at hb; exact .map (by simp; omega) fun es k hk => hm es k (get_take hk).2
  | yield ht hm => intro hb; simp [PV.und] at hb; exact .yield (by simp; omega) fun L hL => hm L (get_take hL).2
  | func s1 _ s2 _ i1 i2 =>
    intro hb
    simp only [PV.und, Bool.and_eq_true] at hb
    exact .func s1 (fun i v v' a b => i1 i v v' a b (undL_mem hb.1 v (List.mem_of_getElem? a))) s2 (fun i v v' a b => i2 i v v' a b (undL_mem hb.2 v (List.mem_of_getElem? a)))
  | agg s _ ih => intro hb; simp only [PV.und] at hb; exact .agg s fun i v v' a b => ih i v v' a b (undL_mem hb v (List.mem_of_getElem? a))
  | tup s _ ih => intro hb; simp only [PV.und] at hb; exact .tup s fun i v v' a b => ih i v v' a b (undL_mem hb v (List.mem_of_getElem? a))
def VObj.und (j : Nat) : VObj → Prop
  | .cells c => ∀ v ∈ c, v.und j = true
  | .vec _ | .gone => True
  | .map es _ => ∀ e ∈ es, e.1.und j = true ∧ e.2.1.und j = true
  | .loop L => ∀ i, (L.fr i).und j = true
/-- The last objects are dropped. -/
theorem Mem.take (m : Mem Z n ρ M h E lo) {j : Nat} (hkj : k ≤ j) (hj : j ≤ M.length) (hb : ∀ t o, t < j → M[t]? = some o → o.und j) : Mem Z n ρ (M.take j) h E lo ∧ Up k ρ M h ρ (M.take j) h := by
  refine ⟨⟨m.nlo, m.nh, fun t o ho hl => ?_, fun t1 t2 o1 o2 h1 h2 l1 l2 he => m.inj t1 t2 o1 o2 (get_take h1).2 (get_take h2).2 l1 l2 he, m.gl⟩,
    ⟨by omega, by simp; omega, fun t c ht hc => ⟨c, (vcells_take hc).2, Nat.le_refl _, fun _ _ => rfl⟩, fun t es x _ hm => ⟨⟨es, x, (get_take hm).2⟩, rfl⟩, fun t L _ hm => ⟨⟨L, (get_take hm).2⟩, rfl⟩, fun b _ hx => ⟨rfl, fun h2 => hx (own_take h2)⟩, Nat.le_refl _⟩⟩
  obtain ⟨htj, ho'⟩ := get_take ho
  obtain ⟨g1, a, g2, g3⟩ := m.obj t o ho' hl
  refine ⟨g1, a, g2, ?_⟩
  have hbo := hb t o htj ho'
  cases o with
  | cells c => obtain ⟨c', e, q⟩ := g3; exact ⟨c', e, q.1, fun i v v' x y => (q.2 i v v' x y).take hj (hbo v (List.mem_of_getElem? x))⟩
  | vec c =>
    obtain ⟨c', e, q⟩ := g3
    exact ⟨c', e, q.mono fun b _ hz => ⟨⟨hz.1, fun hx => hz.2 (own_take hx)⟩, rfl⟩⟩
  | map es x =>
    obtain ⟨es', e, l, q⟩ := g3
    exact ⟨es', e, l, fun i a a' y y' => let ⟨q1, q2, q3⟩ := q i a a' y y'; have hm := hbo a (List.mem_of_getElem? y); ⟨q1.take hj hm.1, q2.take hj hm.2, q3⟩⟩
  | loop L => obtain ⟨L', e, q, r⟩ := g3; exact ⟨L', e, fun i => (q i).take hj (hbo i), r⟩
  | gone => trivial
end
end Go.RS

/- The value machine against the abstract machine (3): operands, cells, loads, stores. -/
namespace Go.RS
open Go

section
variable {Z : Nat → Prop} {n lo k : Nat} {ρ ρ' : Nat → Nat} {M M' : VM} {h h' : AH} {E : VEnv} {fr : VFr} {bf : Fr}

theorem ofS_pf {Z : Nat → Prop} (w : Value) : PF Z h (PV.ofS w) w := by
  cases w with
  | bool b => exact .bool b
  | int k n => exact .int k n
  | string s => exact .str s
  | pointer a => cases a <;> first | exact .nilP | exact .undef _
  | slice a n c =>
    cases a with
    | some a => exact .undef _
    | none =>
      unfold PV.ofS
      split
      all_goals first | exact .undef _ | skip
      all_goals first | contradiction | skip
      all_goals rename_i h1; cases h1; exact .nilS
  | map r => cases r <;> first | exact .nilM | exact .undef _
  | nilFunc => exact .nilF
  | func f x c =>
    cases f <;> try (exact .undef _)
    rename_i f
    show PF Z h (if (x.isEmpty && c.isEmpty) = true then PV.func f [] [] else PV.undef) _
    split
    · rename_i hx
      simp only [Bool.and_eq_true, Array.isEmpty_iff] at hx
      obtain ⟨rfl, rfl⟩ := hx
      exact .func rfl (fun i v v' a => by simp at a) rfl (fun i v v' a => by simp at a)
    · exact .undef _
  | _ => exact .undef _
theorem ofS_lf {Z : Nat → Prop} (ws : List Value) : LF Z h (ws.map PV.ofS) ws := by
  refine ⟨by simp, fun i v v' a b => ?_⟩
  rw [List.getElem?_map, b] at a
  cases a
  exact ofS_pf v'
theorem gl_free (m : Mem Z n ρ M h E lo) {g : Nat} (hg : g < n) (hz : Z g) : Zf Z n ρ M g := ⟨fun _ => hz, fun hx => by have := (m.own_lt hx).1; omega⟩
theorem ofV_pr (m : Mem Z n ρ M h E lo) (w : Value) : PF (Zf Z n ρ M) h (PV.ofV E w) w := by
  have arr : ∀ cs : Array Value, (cs.toList.map PV.ofS).length = cs.size := fun cs => by simp
  unfold PV.ofV
  split
  · rename_i cs
    have := ofS_lf (Z := Zf Z n ρ M) (h := h) cs.toList
    exact .agg (by simp) fun i v v' a b => this.2 i v v' a (by simpa using b)
  · rename_i cs
    have := ofS_lf (Z := Zf Z n ρ M) (h := h) cs.toList
    exact .tup (by simp) fun i v v' a b => this.2 i v v' a (by simpa using b)
  · rename_i g
    split
    · rename_i c hg
      obtain ⟨h1, h2, h3, h4⟩ := m.gl g c hg
      refine .lptr (c := c) (gl_free m h2 h3) h1 (Nat.zero_le _) rfl (by simp) fun i v v' a b => ?_
      rw [List.drop_zero, List.length_map, List.take_length] at b
      exact (ofS_lf c).2 i v v' a b
    · exact .undef _
  · exact ofS_pf w
theorem opd_pr (m : Mem Z n ρ M h E lo) (F : FR Z n ρ M h fr bf) (x : Opd) : PR Z n ρ M h (x.evV E fr) (x.ev bf) := by
  cases x with
  | t i => exact F i
  | c v => exact .f (ofV_pr m v)

theorem cellsOf_rel {x : PV} {w : Value} {xs : List PV} (hx : x.cellsOf = some xs) (p : PR Z n ρ M h x w) : LR Z n ρ M h xs w.cells.toList := by
  have one : ∀ {w : Value}, PR Z n ρ M h x w → (∀ c, w ≠ .agg c) → LR Z n ρ M h [x] w.cells.toList := fun {w} p hw => by
    have : w.cells.toList = [w] := by cases w <;> first | rfl | exact absurd rfl (hw _)
    rw [this]
    exact .cons p .nil
  cases x with
  | undef => cases hx
  | tup c => cases hx
  | agg c => cases hx; obtain ⟨x', rfl, q⟩ := p.agg_inv; exact q
  | _ =>
    cases hx
    refine one p ?_
    intro c hc
    subst hc
    cases p <;> (rename_i p; cases p)
theorem scal_rel {x : PV} {w : Value} (hx : x.scal = true) (p : PR Z n ρ M h x w) : scal w = true := by
  cases p with
  | f p => cases p <;> first | rfl | cases hx
  | agg _ _ => cases hx
  | tup _ _ => cases hx
  | _ => rfl
theorem scalL_rel {xs : List PV} {ws : List Value} (hx : xs.all PV.scal = true) (p : LR Z n ρ M h xs ws) : ws.all scal = true := by
  rw [List.all_eq_true]
  intro w hw
  obtain ⟨i, hi⟩ := List.getElem?_of_mem hw
  have hlt : i < xs.length := p.1 ▸ (List.getElem?_eq_some_iff.1 hi).1
  exact scal_rel (List.all_eq_true.1 hx xs[i] (List.getElem_mem _)) (p.2 i xs[i] w (List.getElem?_eq_getElem hlt) hi)

theorem fill_prl : ∀ {ps : List (Nat × Nat × PV)} {qs : List (Nat × Nat × Value)} {c c1 : List PV} {d : List Value}, (ps.length = qs.length ∧ ∀ (i : Nat) p q, ps[i]? = some p → qs[i]? = some q → p.1 = q.1 ∧ p.2.1 = q.2.1 ∧ PR Z n ρ M h p.2.2 q.2.2) →
    LR Z n ρ M h c d → fillV ps c = some c1 → ∃ d1, fillL qs d = some d1 ∧ LR Z n ρ M h c1 d1
  | [], qs, c, c1, d, hp, hl, hf => by
    have : qs = [] := List.eq_nil_of_length_eq_zero (by simpa using hp.1.symm)
    subst this
    cases hf
    exact ⟨d, rfl, hl⟩
  | (off, size, v) :: ps, qs, c, c1, d, hp, hl, hf => by
    cases qs with
    | nil => exact absurd hp.1 (by simp)
    | cons q qs =>
      obtain ⟨off', size', w⟩ := q
      obtain ⟨h1, h2, h3⟩ := hp.2 0 _ _ rfl rfl
      simp only at h1 h2 h3
      subst h1 h2
      unfold fillV at hf
      split at hf
      · rename_i xs hxs
        split at hf
        · rename_i hc
          have hr := cellsOf_rel hxs h3
          have hs : w.cells.size = size := by have := hr.1; simp at this; omega
          obtain ⟨d1, g1, g2⟩ := fill_prl (ps := ps) (qs := qs) ⟨by simpa using hp.1, fun i p q a b => hp.2 (i + 1) p q (by simpa using a) (by simpa using b)⟩ (hl.splice hr off) hf
          refine ⟨d1, ?_, g2⟩
          unfold fillL
          rw [if_pos ⟨hs, by rw [← hl.1]; exact hc.2⟩]
          exact g1
        · cases hf
      · cases hf

/-- An object's block. -/
theorem Mem.block (m : Mem Z n ρ M h E lo) {t : Nat} {c : List PV} (hc : vcells M t = some c) (hne : c ≠ []) : n ≤ ρ t ∧ ρ t < h.size ∧ ∃ c', h[ρ t]? = some (.cells c') ∧ LR Z n ρ M h c c' := by
  rcases vcells_some hc with h1 | h1
  · obtain ⟨g1, ao, g2, c', rfl, g3⟩ := m.obj t _ h1 hne
    exact ⟨g1, m.lt h1 hne, c', g2, g3⟩
  · obtain ⟨g1, ao, g2, c', rfl, g3⟩ := m.obj t _ h1 hne
    exact ⟨g1, m.lt h1 hne, c', g2, g3.lr⟩
theorem partV_rel {c : List PV} {d : List Value} (hl : LR Z n ρ M h c d) {o : Nat} {agg : Option Nat} {v : PV} (hv : partV c o agg = some v) : ∃ w, partL d o agg = some w ∧ PR Z n ρ M h v w := by
  cases agg with
  | none => exact hl.get hv
  | some k =>
    simp only [partV] at hv
    split at hv
    · cases hv
      exact ⟨_, rfl, .agg' (by simpa using (hl.drop o).take k)⟩
    · cases hv
theorem partV_len {c : List PV} {o : Nat} {k : Nat} {v : PV} (hv : partV c o (some k) = some v) : o + k ≤ c.length := by
  simp only [partV] at hv
  split at hv
  · assumption
  · cases hv

def loadA (h : AH) (agg : Option Nat) (b o : Nat) : Option Value := match agg with | none => cellAt h b o | some k => (cellsAt h b o k).map fun c => .agg c.toArray
theorem aop_loadA {agg : Option Nat} {a : Opd} {b o : Nat} (ha : a.ev bf = .pointer (some ⟨b, o, none⟩)) : aop lo (.load agg a) bf h = (loadA h agg b o).map fun v => (v, h) := by
  cases agg with
  | none => simp only [aop, ha, loadA]
  | some k => simp only [aop, ha, loadA, Option.map_map]; rfl
theorem loadA_part {b o : Nat} {d : List Value} (hb : h[b]? = some (.cells d)) {agg : Option Nat} {w : Value} (hw : partL d o agg = some w) (hk : ∀ k, agg = some k → o + k ≤ d.length) : loadA h agg b o = some w := by
  cases agg with
  | none => unfold loadA cellAt; simp only [hb]; exact hw
  | some k =>
    unfold loadA cellsAt
    simp only [hb]
    rw [if_pos (hk k rfl)]
    exact hw
theorem loadV_rel (m : Mem Z n ρ M h E lo) {agg : Option Nat} {p v : PV} {w : Value} (hp : PR Z n ρ M h p w) (hv : loadV M agg p = some v) : ∃ b o w', w = .pointer (some ⟨b, o, none⟩) ∧ loadA h agg b o = some w' ∧ PR Z n ρ M h v w' := by
  cases p with
  | ptr t len o =>
    simp only [loadV] at hv
    split at hv
    · rename_i c hc
      split at hv
      · rename_i hlen
        have hne : c ≠ [] := by rintro rfl; simp at hlen; omega
        obtain ⟨_, _, c', hb, hl⟩ := m.block hc hne
        obtain ⟨w', h1, h2⟩ := partV_rel hl hv
        cases hp with
        | f q => cases q
        | @ptr _ _ _ b q =>
          have := (q.2 c hc).2 hlen.1.symm hlen.2
          subst this
          exact ⟨_, _, w', rfl, loadA_part hb h1 fun k hk => (by subst hk; rw [← hl.1]; exact partV_len hv), h2⟩
      · cases hv
    · cases hv
  | lptr cs =>
    simp only [loadV] at hv
    cases hp with
    | f q =>
      cases q with
      | @lptr _ b o c c' hz hb ho hs hl hc =>
        have hL : LR Z n ρ M h cs c' := ⟨hl.symm, fun i a a' x y => .f (hc i a a' x y)⟩
        obtain ⟨w', h1, h2⟩ := partV_rel hL hv
        refine ⟨b, o, w', rfl, loadA_part hb (agg := agg) (w := w') ?_ ?_, h2⟩
        · cases agg with
          | none =>
            simp only [partL] at h1 ⊢
            rw [hs, List.getElem?_take] at h1
            split at h1
            · rw [List.getElem?_drop] at h1; simpa using h1
            · cases h1
          | some k =>
            have hk := partV_len hv
            simp only [partL] at h1 ⊢
            rw [hs, List.drop_zero, List.take_take, Nat.min_eq_left (by omega)] at h1
            exact h1
        · intro k hk
          subst hk
          have hk := partV_len hv
          have : c'.length ≤ c.length - o := by rw [hs]; simp; omega
          omega
  | _ => simp [loadV] at hv

theorem setCells_of {b o : Nat} {d vs : List Value} (hb : h[b]? = some (.cells d)) (hlo : lo ≤ b) (hle : o + vs.length ≤ d.length) : setCells lo h b o vs = some (h.setIfInBounds b (.cells (splice d o vs))) := by
  unfold setCells
  simp only [hb]
  rw [if_pos ⟨hlo, hle⟩]
theorem spliceV_len {d vs : List PV} {o : Nat} (hle : o + vs.length ≤ d.length) : (spliceV d o vs).length = d.length := by
  unfold spliceV; simp; omega
theorem vput_some {t : Nat} {c xs : List PV} (hv : vput M t c xs = some M') : (∃ c0, M[t]? = some (.cells c0) ∧ M' = M.set t (.cells c)) ∨ (∃ c0, M[t]? = some (.vec c0) ∧ M' = M.set t (.vec c) ∧ PV.isFL xs = true) := by
  unfold vput at hv
  split at hv
  · rename_i c0 h0; cases hv; exact .inl ⟨c0, h0, rfl⟩
  · rename_i c0 h0
    split at hv
    · rename_i hx; cases hv; exact .inr ⟨c0, h0, rfl, hx⟩
    · cases hv
  · cases hv
/-- Cells of one's own are written. -/
theorem put_prl (m : Mem Z n ρ M h E lo) (hk : k ≤ M.length) {t o : Nat} {c xs : List PV} (hc : vcells M t = some c) (hne : c ≠ []) {ws : List Value} (hx : LR Z n ρ M h xs ws) (hle : o + xs.length ≤ c.length) (hv : vput M t (spliceV c o xs) xs = some M') :
    ∃ h', setCells lo h (ρ t) o ws = some h' ∧ Mem Z n ρ M' h' E lo ∧ Up k ρ M h ρ M' h' := by
  rcases vput_some hv with ⟨c0, h0, rfl⟩ | ⟨c0, h0, rfl, hf⟩
  · have : c0 = c := by unfold vcells at hc; rw [h0] at hc; exact Option.some.inj hc
    subst this
    obtain ⟨g1, ao, g2, c', rfl, g3⟩ := m.obj t _ h0 hne
    obtain ⟨q1, q2⟩ := m.turn hk h0 hne (o' := .cells (spliceV c0 o xs)) (ao := .cells (splice c' o ws)) (by simp only [SameK]; rw [spliceV_len hle]) (fun up => ⟨_, rfl, (g3.up up).splice (hx.up up) o⟩)
    exact ⟨_, setCells_of g2 (Nat.le_trans m.nlo g1) (by rw [← g3.1, ← hx.1]; exact hle), q1, q2⟩
  · have : c0 = c := by unfold vcells at hc; rw [h0] at hc; exact Option.some.inj hc
    subst this
    obtain ⟨g1, ao, g2, c', rfl, g3⟩ := m.obj t _ h0 hne
    obtain ⟨q1, q2⟩ := m.turn hk h0 hne (o' := .vec (spliceV c0 o xs)) (ao := .cells (splice c' o ws)) (by simp only [SameK]; rw [spliceV_len hle]) (fun up => ⟨_, rfl, (g3.up up).splice ((hx.toF hf).up up) o⟩)
    exact ⟨_, setCells_of g2 (Nat.le_trans m.nlo g1) (by rw [← g3.1, ← hx.1]; exact hle), q1, q2⟩
theorem storeV_rel (m : Mem Z n ρ M h E lo) (hk : k ≤ M.length) {sz : Nat} {p x : PV} {a b : Opd} (hp : PR Z n ρ M h p (a.ev bf)) (hx : PR Z n ρ M h x (b.ev bf)) (hv : storeV M sz p x = some M') :
    ∃ h', aop lo (.store sz a b) bf h = some (Go.undef, h') ∧ Mem Z n ρ M' h' E lo ∧ Up k ρ M h ρ M' h' := by
  unfold storeV at hv
  split at hv
  · rename_i t len o xs hxs
    split at hv
    · rename_i c hc
      split at hv
      · rename_i hcond
        obtain ⟨c1, c2, c3, c4, c5⟩ := hcond
        have hne : c ≠ [] := by rintro rfl; simp at c1; omega
        have hr := cellsOf_rel hxs hx
        obtain ⟨h', g1, g2, g3⟩ := put_prl m hk hc hne hr (by omega) hv
        refine ⟨h', ?_, g2, g3⟩
        generalize ha : a.ev bf = w at hp
        cases hp with
        | f q => cases q
        | @ptr _ _ _ b' q =>
          have := (q.2 c hc).2 c1.symm c2
          subst this
          simp only [aop, ha]
          rw [if_pos ⟨by have := hr.1; simp at this; omega, scalL_rel c5 hr⟩, g1]
          rfl
      · cases hv
    · cases hv
  · cases hv
end
end Go.RS

/- The value machine against the abstract machine (4): slices, appends, maps, comparisons. -/
namespace Go.RS
open Go

section
variable {Z : Nat → Prop} {n lo k : Nat} {ρ ρ' : Nat → Nat} {M M' : VM} {h h' : AH} {E : VEnv} {fr : VFr} {bf : Fr}

/-- The abstract machine answers so. -/
def VS (Z : Nat → Prop) (n : Nat) (ρ : Nat → Nat) (M : VM) (h : AH) (E : VEnv) (lo : Nat) (v : PV) (M' : VM) (r : Option (Value × AH)) : Prop :=
  ∃ w h' ρ', r = some (w, h') ∧ PR Z n ρ' M' h' v w ∧ Mem Z n ρ' M' h' E lo ∧ Up M.length ρ M h ρ' M' h'
theorem VS.quiet (m : Mem Z n ρ M h E lo) {v : PV} {w : Value} (p : PR Z n ρ M h v w) : VS Z n ρ M h E lo v M (some (w, h)) := ⟨w, h, ρ, rfl, p, m, Up.refl (Nat.le_refl _)⟩
theorem VS.push (m : Mem Z n ρ M h E lo) {o : VObj} {ao : AObj} {v : PV} {w : Value} (ho : OR Z n (rset ρ M.length h.size) (M ++ [o]) (h.push ao) o ao) (p : PR Z n (rset ρ M.length h.size) (M ++ [o]) (h.push ao) v w) :
    VS Z n ρ M h E lo v (M ++ [o]) (some (w, h.push ao)) := let ⟨q1, q2⟩ := m.push (Nat.le_refl _) o ao ho; ⟨w, _, _, rfl, p, q1, q2⟩
theorem push_up (m : Mem Z n ρ M h E lo) (o : VObj) (ao : AObj) : Up M.length ρ M h (rset ρ M.length h.size) (M ++ [o]) (h.push ao) :=
  up_push (fun b hb => (m.own_lt hb).2) (Nat.le_refl _) ⟨by simp, fun b hb => by rw [Array.getElem?_push, if_neg (by omega)]⟩ o
theorem ptr_newV {o : VObj} {c : List PV} (hc : vcells [o] 0 = some c) (b : Nat) : PtrOk (rset ρ M.length b) (M ++ [o]) M.length c.length b := by
  refine ⟨by simp, fun c' hc' => ?_⟩
  have : vcells (M ++ [o]) M.length = some c := by
    unfold vcells at hc ⊢
    rw [List.getElem?_append_right (Nat.le_refl _), Nat.sub_self]; exact hc
  rw [this] at hc'; cases hc'
  exact ⟨Nat.le_refl _, fun _ _ => (rset_same _ _).symm⟩
theorem openCap_eq : openCap = 18446744073709551616 := rfl
theorem fits_lt {m b : Nat} (hf : fits m b = true) : m < 9223372036854775808 := by
  unfold fits at hf
  simp only [Bool.and_eq_true, decide_eq_true_eq] at hf
  have h3 : (2 * m + 192) * 1 ≤ (2 * m + 192) * b := Nat.mul_le_mul_left _ hf.1
  have := hf.2
  have e := openCap_eq
  omega

theorem newVec_rel (m : Mem Z n ρ M h E lo) {q e : Nat} {cs : List PV} {ws : List Value} {v : PV} (hL : LR Z n ρ M h cs ws) (hq : q < 9223372036854775808) (hv : newVec M q e cs = some (v, M')) :
    VS Z n ρ M h E lo v M' (some (.slice (some ⟨h.size, 0, none⟩) q (openCap + e), h.push (.cells ws))) := by
  unfold newVec at hv
  split at hv
  · rename_i hc
    cases hv
    have up := push_up m (.vec cs) (.cells ws)
    refine .push m ⟨ws, rfl, (hL.toF hc.1).up up⟩ (.sl (ptr_newV rfl _) ?_ hq (by have := openCap_eq; omega))
    exact List.length_pos_iff.2 hc.2
  · cases hv

theorem okE_len {ex : Bool} {q e' e l : Nat} (h : okE ex q e' e = true) (hl : l = q * e') : l = q * e := by
  unfold okE at h
  simp only [Bool.or_eq_true, beq_iff_eq, Bool.and_eq_true] at h
  rcases h with rfl | ⟨_, rfl⟩
  · exact hl
  · simpa using hl
theorem elems_pr (m : Mem Z n ρ M h E lo) {e q : Nat} {x : PV} {w : Value} {new : List PV} (p : PR Z n ρ M h x w) (hv : elemsV M e x = some (q, new)) : ∃ ws, elemsOf h e w = some (q, ws) ∧ LR Z n ρ M h new ws := by
  cases x with
  | nilS => cases hv; rw [p.nilS_inv]; exact ⟨[], rfl, .nil⟩
  | emp =>
    cases hv
    cases p with
    | f p =>
      cases p with
      | @emp b o c hz hb ho =>
        refine ⟨[], ?_, .nil⟩
        simp only [elemsOf, cellsAt, hb]
        rw [if_pos (by omega)]
        simp
  | lst ex i el cs =>
    simp only [elemsV] at hv
    split at hv
    · rename_i hlen
      cases hv
      cases p with
      | f p =>
        cases p with
        | lst0 => exact ⟨[], rfl, .nil⟩
        | @lst _ _ _ _ b o cap c c' hne hz hb ho hs hl hc hn hcap hex hop =>
          have hlen : new.length = q * e := okE_len hlen hne
          have : c'.length ≤ c.length - o := by rw [hs]; simp; omega
          refine ⟨c', ?_, hl.symm, fun i a a' x y => .f (hc i a a' x y)⟩
          simp only [elemsOf, cellsAt, hb]
          rw [if_pos (by omega), ← hlen, ← hs]
          rfl
    · cases hv
  | sl t len o i cap e' =>
    simp only [elemsV] at hv
    split at hv
    · rename_i h0
      subst h0
      split at hv
      · rename_i hi
        cases hv
        cases p with
        | f p => cases p
        | sl0 ht => exact ⟨[], rfl, .nil⟩
        | sl hp hl hm hmc => omega
      · cases hv
    · rename_i h0
      split at hv
      · rename_i c hc
        split at hv
        · rename_i hcond
          cases hv
          have hne : c ≠ [] := by rintro rfl; simp at hcond; omega
          obtain ⟨_, _, c', hb, hl⟩ := m.block hc hne
          cases p with
          | f p => cases p
          | sl0 ht => exact absurd rfl h0
          | @sl _ _ _ _ _ _ b hp hl0 hm hmc =>
            have := (hp.2 c hc).2 hcond.1.symm hl0
            subst this
            refine ⟨(c'.drop o).take (q * e), ?_, (hl.drop o).take _⟩
            simp only [elemsOf, cellsAt, hb]
            rw [if_pos (by rw [← hl.1]; omega)]
            rfl
        · cases hv
      · cases hv
  | _ => simp [elemsV] at hv

theorem append_pr (m : Mem Z n ρ M h E lo) {e bytes : Nat} {s x v : PV} {s' x' : Value} (ps : PR Z n ρ M h s s') (px : PR Z n ρ M h x x') (hv : appendV M e bytes s x = some (v, M')) : VS Z n ρ M h E lo v M' (appendA lo h e bytes s' x') := by
  unfold appendV at hv
  split at hv
  · cases hv
  · rename_i q new hel
    obtain ⟨ws, hew, hL⟩ := elems_pr m px hel
    unfold appendA
    simp only [hew]
    split at hv
    · -- nil
      rw [ps.nilS_inv]
      simp only [and_self, if_true]
      split at hv
      · rename_i h0; cases hv; rw [if_pos h0]; exact .quiet m (.f .nilS)
      · rename_i h0
        split at hv
        · rename_i hf
          rw [if_neg h0, if_pos hf]
          exact newVec_rel m hL (fits_lt hf) hv
        · cases hv
    · -- an empty one
      cases ps with
      | f ps =>
        cases ps with
        | @emp b o c hz hb ho =>
          simp only
          split at hv
          · rename_i h0; cases hv; rw [if_pos h0, if_pos (Nat.le_refl _)]; exact .quiet m (.f (.emp hz hb ho))
          · rename_i h0
            split at hv
            · rename_i hf
              rw [if_neg h0, if_neg (by have := openCap_eq; omega), if_neg (by omega)]
              have hcell : cellsAt h b o (0 * e) = some [] := by
                unfold cellsAt
                simp only [hb]
                rw [if_pos (by omega)]
                simp
              simp only [hcell]
              rw [Nat.zero_add, if_pos hf]
              exact newVec_rel m (by simpa using hL) (fits_lt hf) hv
            · cases hv
    · -- a list that cannot be written
      rename_i ex sl el cs
      split at hv
      · rename_i hc
        obtain ⟨rfl, hoe⟩ := hc
        cases ps with
        | f ps =>
          cases ps with
          | lst0 =>
            simp only [and_self, if_true]
            split at hv
            · rename_i h0; cases hv; rw [if_pos h0]; exact .quiet m (.f (.lst0 _ _))
            · rename_i h0
              split at hv
              · rename_i hf
                rw [Nat.zero_add] at hf hv
                rw [if_neg h0, if_pos hf]
                exact newVec_rel m (by simpa using hL) (fits_lt hf) hv
              · cases hv
          | @lst _ _ _ _ b o cap c c' hne hz hb ho hs hl hcc hn hcap hex hop =>
            have hlen : cs.length = sl * e := okE_len hoe hne
            have hcs : cap = sl := hex rfl
            subst hcs
            simp only
            split at hv
            · rename_i h0; cases hv; rw [if_pos h0, if_pos (Nat.le_refl _)]; exact .quiet m (.f (.lst hne hz hb ho hs hl hcc hn hcap hex hop))
            · rename_i h0
              split at hv
              · rename_i hf
                rw [if_neg h0, if_neg (by have := openCap_eq; omega), if_neg (by omega)]
                have : c'.length ≤ c.length - o := by rw [hs]; simp; omega
                have hcell : cellsAt h b o (cap * e) = some c' := by
                  unfold cellsAt
                  simp only [hb]
                  rw [if_pos (by omega), ← hlen, ← hs]
                simp only [hcell]
                rw [if_pos hf]
                have hL0 : LR Z n ρ M h cs c' := ⟨hl.symm, fun i a a' x y => .f (hcc i a a' x y)⟩
                exact newVec_rel m (hL0.append hL) (fits_lt hf) hv
              · cases hv
      · cases hv
    · -- one's own
      rename_i t len o sl sc e'
      split at hv
      · rename_i hcond
        obtain ⟨rfl, he0⟩ := hcond
        split at hv
        · -- nothing to add
          rename_i h0
          subst h0
          cases hv
          cases ps with
          | f ps => cases ps
          | sl0 ht => simp only [and_self, if_true]; exact .quiet m (.sl0 ht)
          | @sl _ _ _ _ _ _ b hp hl hm hmc =>
            simp only [if_true]
            by_cases hsc : sl ≤ sc
            · rw [if_pos hsc]; exact .quiet m (.sl hp hl hm hmc)
            · exact absurd hmc hsc
        · rename_i h0
          split at hv
          · -- the first
            rename_i hl0
            subst hl0
            split at hv
            · rename_i ht
              split at hv
              · rename_i hc
                obtain ⟨rfl, rfl, hf, hF, hne⟩ := hc
                cases hv
                cases ps with
                | f ps => cases ps
                | sl hp hl hm hmc => omega
                | sl0 htl =>
                  simp only [and_self, if_true]
                  rw [if_neg h0, if_pos hf]
                  have hvc : vcells M t = some [] := by unfold vcells; rw [ht]
                  have hvc' : vcells (M.set t (.vec new)) t = some new := by unfold vcells; rw [List.getElem?_set_self htl]
                  obtain ⟨q1, q2⟩ := m.renew (Nat.le_refl _) (ao := .cells ws) hvc ht hvc' (List.length_pos_iff.2 hne) (h0 := h) rfl (fun _ _ _ => rfl) (fun up => ⟨ws, rfl, (hL.toF hF).up up⟩)
                  refine ⟨_, _, _, rfl, .sl ⟨by simpa using htl, fun c hc => ?_⟩ (List.length_pos_iff.2 hne) (fits_lt hf) (by have := fits_lt hf; have := openCap_eq; omega), q1, q2⟩
                  rw [hvc'] at hc; cases hc
                  exact ⟨Nat.le_refl _, fun _ _ => (rset_same _ _).symm⟩
              · cases hv
            · cases hv
          · rename_i hl0
            split at hv
            · cases hv
            · rename_i c hc
              split at hv
              · cases hv
              · rename_i hlen
                have hlen : c.length = len := by simpa using hlen
                have hne : c ≠ [] := by rintro rfl; simp at hlen; omega
                obtain ⟨hlo, hlt, c', hb, hl⟩ := m.block hc hne
                cases ps with
                | f ps => cases ps
                | sl0 ht => exact absurd rfl hl0
                | @sl _ _ _ _ _ _ b hp hl1 hm hmc =>
                  have := (hp.2 c hc).2 hlen.symm hl1
                  subst this
                  simp only
                  rw [if_neg h0]
                  split at hv
                  · rename_i hop
                    rw [if_pos hop]
                    split at hv
                    · rename_i hcc
                      obtain ⟨rfl, rfl, k3, k4, k5⟩ := hcc
                      simp only [Option.map_eq_some_iff, Prod.mk.injEq] at hv
                      obtain ⟨M1, hp1, rfl, rfl⟩ := hv
                      simp only [hb]
                      rw [if_pos ⟨trivial, he0, Nat.le_trans m.nlo hlo, by rw [← hl.1, Nat.zero_add, k3, hlen], k4, scalL_rel k5 hL⟩]
                      have hnl : 0 < new.length := by
                        have e1 : ws.length = q * e' := by
                          have := hew
                          unfold elemsOf at this
                          split at this
                          · split at this
                            · cases this; omega
                            · cases this
                          · simp only [Option.map_eq_some_iff, Prod.mk.injEq] at this
                            obtain ⟨a, h1, rfl, rfl⟩ := this
                            unfold cellsAt at h1
                            split at h1
                            · split at h1
                              · cases h1; simp; omega
                              · cases h1
                            · cases h1
                          · cases this
                        have : 0 < q * e' := Nat.mul_pos (by omega) (by omega)
                        have := hL.1; omega
                      have hkill : ∀ b : Nat, b < h.size → ∀ o : VObj, ¬ (Live o ∧ b = ρ t) → Live o → (h.setIfInBounds (ρ t) AObj.junk)[b]? = h[b]? := fun b hb o hx hlv => by
                        rw [Array.getElem?_setIfInBounds_ne]
                        rintro rfl; exact hx ⟨hlv, rfl⟩
                      rcases vput_some hp1 with ⟨c0, g0, rfl⟩ | ⟨c0, g0, rfl, hF⟩
                      · have : c0 = c := by unfold vcells at hc; rw [g0] at hc; exact Option.some.inj hc
                        subst this
                        have htl := (List.getElem?_eq_some_iff.1 g0).1
                        have hvc' : vcells (M.set t (.cells (c0 ++ new))) t = some (c0 ++ new) := by unfold vcells; rw [List.getElem?_set_self htl]
                        obtain ⟨q1, q2⟩ := m.renew (Nat.le_refl _) (ao := .cells (c' ++ ws)) hc g0 hvc' (by simp; omega) (h0 := h.setIfInBounds (ρ t) .junk) (by simp) (fun b hb hx => hkill b hb _ hx hne) (fun up => ⟨_, rfl, (hl.append hL).up up⟩)
                        refine ⟨_, _, _, by rw [List.drop_zero], .sl ⟨by simpa using htl, fun c hc => ?_⟩ (by omega) (fits_lt k4) (by have := fits_lt k4; have := openCap_eq; omega), q1, q2⟩
                        rw [hvc'] at hc; cases hc
                        exact ⟨by simp; omega, fun _ _ => (rset_same _ _).symm⟩
                      · have : c0 = c := by unfold vcells at hc; rw [g0] at hc; exact Option.some.inj hc
                        subst this
                        have htl := (List.getElem?_eq_some_iff.1 g0).1
                        have hvc' : vcells (M.set t (.vec (c0 ++ new))) t = some (c0 ++ new) := by unfold vcells; rw [List.getElem?_set_self htl]
                        obtain ⟨g1, ao, g2, c2, rfl, g3⟩ := m.obj t _ g0 hne
                        rw [hb] at g2; cases g2
                        obtain ⟨q1, q2⟩ := m.renew (Nat.le_refl _) (ao := .cells (c' ++ ws)) hc g0 hvc' (by simp; omega) (h0 := h.setIfInBounds (ρ t) .junk) (by simp) (fun b hb hx => hkill b hb _ hx hne) (fun up => ⟨_, rfl, (g3.append (hL.toF hF)).up up⟩)
                        refine ⟨_, _, _, by rw [List.drop_zero], .sl ⟨by simpa using htl, fun c hc => ?_⟩ (by omega) (fits_lt k4) (by have := fits_lt k4; have := openCap_eq; omega), q1, q2⟩
                        rw [hvc'] at hc; cases hc
                        exact ⟨by simp; omega, fun _ _ => (rset_same _ _).symm⟩
                    · cases hv
                  · rename_i hop
                    rw [if_neg hop]
                    split at hv
                    · rename_i hin
                      rw [if_pos hin]
                      split at hv
                      · rename_i hcc
                        simp only [Option.map_eq_some_iff, Prod.mk.injEq] at hv
                        obtain ⟨M1, hp1, rfl, rfl⟩ := hv
                        rw [if_pos (scalL_rel hcc.2.1 hL)]
                        obtain ⟨h2, g1, g2, g3⟩ := put_prl m (Nat.le_refl _) hc hne hL (by omega) hp1
                        rw [g1]
                        refine ⟨_, h2, ρ, rfl, ?_, g2, g3⟩
                        exact .sl (hp.up g3) hl1 (by have := hcc.2.2; omega) (by omega)
                      · cases hv
                    · rename_i hin
                      rw [if_neg hin]
                      split at hv
                      · rename_i hcc
                        have hcell : cellsAt h (ρ t) o (sl * e') = some ((c'.drop o).take (sl * e')) := by
                          unfold cellsAt
                          simp only [hb]
                          rw [if_pos (by rw [← hl.1]; omega)]
                        simp only [hcell]
                        rw [if_pos hcc.2]
                        exact newVec_rel m (((hl.drop o).take _).append hL) (fits_lt hcc.2) hv
                      · cases hv
      · cases hv
    · cases hv
end
end Go.RS

/- The value machine against the abstract machine (5): slice expressions, maps, comparisons. -/
namespace Go.RS
open Go

section
variable {Z : Nat → Prop} {n lo k : Nat} {ρ ρ' : Nat → Nat} {M M' : VM} {h h' : AH} {E : VEnv} {fr : VFr} {bf : Fr}

/-- Optional operands. -/
def OvRel (x : Option PV) (y : Option Value) : Prop := match x, y with
  | none, none => True
  | some x, some y => ∀ i, numV x = some i → ∃ k, y = .int k i ∧ x.toS = y
  | _, _ => False
theorem orel_of (m : Mem Z n ρ M h E lo) (F : FR Z n ρ M h fr bf) (x : Option Opd) : RS.OvRel (x.map (·.evV E fr)) (x.map (·.ev bf)) := by
  cases x with
  | none => trivial
  | some x =>
    intro i hi
    have p := opd_pr m F x
    dsimp only [Option.map_some] at hi ⊢
    generalize x.evV E fr = v at hi p
    cases v <;> simp only [numV] at hi <;> cases hi
    rename_i kk
    exact ⟨kk, p.int_inv, by rw [p.int_inv]; rfl⟩

theorem addr_addV (b o n : Nat) : (⟨b, o, none⟩ : Addr).add n = ⟨b, o + n, none⟩ := by
  unfold Addr.add
  split
  · rename_i h0; rw [h0]; rfl
  · rfl
theorem slV_bounds {q cap : Nat} {lo hi mx : Option PV} {lo' hi' mx' : Option Value} (h1 : RS.OvRel lo lo') (h2 : RS.OvRel hi hi') (h3 : RS.OvRel mx mx') (hq : q ≤ cap) {l hh : Nat} {mm : Option Nat} (hv : slV q lo hi mx = some (l, hh, mm)) :
    slBounds q cap lo' hi' mx' = some (l, hh, mm.getD cap) ∧ l ≤ hh ∧ hh ≤ q ∧ (∀ x, mm = some x → hh ≤ x ∧ x ≤ q) ∧ (mm.isSome = mx'.isSome) ∧ lo.map PV.toS = lo' ∧ hi.map PV.toS = hi' ∧ mx.map PV.toS = mx' := by
  unfold slV at hv
  split at hv
  · rename_i l0 h0 m0 e1 e2 e3
    rw [Option.ite_none_right_eq_some] at hv
    · obtain ⟨hc, hv⟩ := hv
      obtain ⟨c1, c2, c3, c4⟩ := hc
      simp only [Option.some.injEq, Prod.mk.injEq] at hv
      obtain ⟨rfl, rfl, rfl⟩ := hv
      have opt : ∀ {x : Option PV} {y : Option Value} {r : Option Int}, RS.OvRel x y → boundV x = some r → (x.map PV.toS = y) ∧ (match r with | none => y = none | some i => ∃ k, y = some (.int k i)) := by
        intro x y r hx hb
        cases x with
        | none => cases y with
          | none => cases hb; exact ⟨rfl, rfl⟩
          | some y => exact hx.elim
        | some x => cases y with
          | none => exact hx.elim
          | some y =>
            simp only [boundV, Option.map_eq_some_iff] at hb
            obtain ⟨i, hi, rfl⟩ := hb
            obtain ⟨kk, hk, ht⟩ := hx i hi
            exact ⟨by simp [ht], kk, by rw [hk]⟩
      obtain ⟨t1, b1⟩ := opt h1 e1
      obtain ⟨t2, b2⟩ := opt h2 e2
      obtain ⟨t3, b3⟩ := opt h3 e3
      have bd : ∀ (kk : IntKind) (i : Int) (y : Nat), 0 ≤ i → i ≤ y → bound (.int kk i) y = some i.toNat := fun kk i y a b => if_pos ⟨a, b⟩
      refine ⟨?_, by omega, by omega, fun x hx => ?_, ?_, t1, t2, t3⟩
      · cases m0 with
        | some mv =>
          obtain ⟨k3, rfl⟩ := b3
          simp only [mOk, Bool.and_eq_true, decide_eq_true_eq] at c4
          obtain ⟨⟨d1, d2⟩, d3⟩ := c4
          cases h0 with
          | none => cases d3
          | some hv =>
            obtain ⟨k2, rfl⟩ := b2
            simp only [Option.getD_some] at c2 c3 d1
            unfold slBounds
            have y1 : optBound (some (.int k3 mv)) (if openCap ≤ cap then q else cap) cap = some mv.toNat := bd k3 _ _ (by omega) (by split <;> omega)
            simp only [y1]
            have y2 : bound (.int k2 hv) mv.toNat = some hv.toNat := bd k2 _ _ (by omega) (by omega)
            simp only [y2]
            cases l0 with
            | none => subst b1; rfl
            | some lv =>
              obtain ⟨k1, rfl⟩ := b1
              simp only [Option.getD_some] at c1 c2
              have y3 : optBound (some (.int k1 lv)) hv.toNat 0 = some lv.toNat := bd k1 _ _ (by omega) (by omega)
              simp only [y3, Option.getD_some]
              rfl
        | none =>
          subst b3
          unfold slBounds
          have y1 : optBound none (if openCap ≤ cap then q else cap) cap = some cap := rfl
          simp only [y1]
          cases h0 with
          | none =>
            subst b2
            simp only [Option.getD_none] at c2 c3
            cases l0 with
            | none => subst b1; simp [optBound]
            | some lv =>
              obtain ⟨k1, rfl⟩ := b1
              simp only [Option.getD_some] at c1 c2
              have y3 : optBound (some (.int k1 lv)) q 0 = some lv.toNat := bd k1 _ _ (by omega) (by omega)
              simp only [y3, Option.getD_some, Option.getD_none]
              simp
          | some hv =>
            obtain ⟨k2, rfl⟩ := b2
            simp only [Option.getD_some] at c2 c3
            have y2 : bound (.int k2 hv) (if openCap ≤ cap then q else cap) = some hv.toNat := bd k2 _ _ (by omega) (by split <;> omega)
            simp only [y2]
            cases l0 with
            | none => subst b1; simp [optBound]
            | some lv =>
              obtain ⟨k1, rfl⟩ := b1
              simp only [Option.getD_some] at c1 c2
              have y3 : optBound (some (.int k1 lv)) hv.toNat 0 = some lv.toNat := bd k1 _ _ (by omega) (by omega)
              simp only [y3, Option.getD_some]
              rfl
      · cases m0 with
        | none => cases hx
        | some mv =>
          have hx : mv.toNat = x := Option.some.inj hx
          subst hx
          simp only [mOk, Bool.and_eq_true, decide_eq_true_eq] at c4
          omega
      · cases m0 with
        | none => simp only at b3; rw [b3]; rfl
        | some mv => obtain ⟨k3, rfl⟩ := b3; rfl
  · cases hv

theorem sliceV_block {e q cap t o : Nat} {lo hi mx : Option Value} {v : Value} (hv : sliceV e (some ⟨t, o, none⟩) q cap lo hi mx = some v) :
    ∃ o' i c, v = .slice (some ⟨t, o', none⟩) i c ∧ ∀ b, sliceV e (some ⟨b, o, none⟩) q cap lo hi mx = some (.slice (some ⟨b, o', none⟩) i c) := by
  unfold sliceV at hv ⊢
  generalize slBounds q cap lo hi mx = r at hv ⊢
  match r, hv with
  | some (l, hh, m), hv =>
    simp only [Option.map_some, addr_addV] at hv ⊢
    by_cases hc : openCap ≤ cap ∧ m = cap
    · rw [if_pos hc] at hv
      simp only [if_pos hc]
      by_cases hl : l = 0 ∨ l < q
      · rw [if_pos hl] at hv
        cases hv
        exact ⟨_, _, _, rfl, fun b => by rw [if_pos hl]⟩
      · rw [if_neg hl] at hv; cases hv
    · rw [if_neg hc] at hv
      simp only [if_neg hc]
      by_cases hml : m = l
      · rw [if_pos hml] at hv
        cases hv
        exact ⟨_, _, _, rfl, fun b => by rw [if_pos hml]⟩
      · rw [if_neg hml] at hv
        cases hv
        exact ⟨_, _, _, rfl, fun b => by rw [if_neg hml]⟩
theorem sliceV_len {e q cap : Nat} {a : Option Addr} {lo hi mx : Option Value} {a' : Option Addr} {i c l hh m : Nat} (hs : slBounds q cap lo hi mx = some (l, hh, m)) (hm : hh ≤ m) (hv : sliceV e a q cap lo hi mx = some (.slice a' i c)) : i = hh - l ∧ i ≤ c := by
  unfold sliceV at hv
  simp only [hs] at hv
  split at hv
  · rename_i hc
    split at hv
    · cases hv; exact ⟨rfl, by omega⟩
    · cases hv
  · cases hv; exact ⟨rfl, by omega⟩

/-! ### Keys -/
theorem atomEq_rel {a : AK} {x y : PV} {x' y' : Value} {b : Bool} (px : PR Z n ρ M h x x') (py : PR Z n ρ M h y y') (hb : atomEqV a x y = some b) : atomEq a x' y' = some b := by
  cases a <;> cases x <;> try (cases hb; done)
  all_goals cases y <;> try (cases hb; done)
  · rw [px.int_inv, py.int_inv]; exact hb
  · rw [px.bool_inv, py.bool_inv]; exact hb
  · rw [px.str_inv, py.str_inv]; exact hb
theorem atomsEq_rel : ∀ {ks : List AK} {xs ys : List PV} {xs' ys' : List Value} {b : Bool}, LR Z n ρ M h xs xs' → LR Z n ρ M h ys ys' → atomsEqV ks xs ys = some b → atomsEq ks xs' ys' = some b
  | [], [], [], xs', ys', b, hx, hy, hb => by
    have e1 : xs' = [] := List.eq_nil_of_length_eq_zero hx.1.symm
    have e2 : ys' = [] := List.eq_nil_of_length_eq_zero hy.1.symm
    subst e1 e2; exact hb
  | a :: ks, x :: xs, y :: ys, xs', ys', b, hx, hy, hb => by
    cases xs' with
    | nil => exact absurd hx.1 (by simp)
    | cons x' xs' =>
      cases ys' with
      | nil => exact absurd hy.1 (by simp)
      | cons y' ys' =>
        simp only [atomsEqV] at hb
        split at hb
        · rename_i p q hp hq
          have r1 := atomEq_rel (hx.2 0 _ _ rfl rfl) (hy.2 0 _ _ rfl rfl) hp
          have r2 := atomsEq_rel (xs := xs) (ys := ys) (xs' := xs') (ys' := ys') ⟨by simpa using hx.1, fun i v v' a b => hx.2 (i + 1) v v' (by simpa using a) (by simpa using b)⟩ ⟨by simpa using hy.1, fun i v v' a b => hy.2 (i + 1) v v' (by simpa using a) (by simpa using b)⟩ hq
          simp only [atomsEq, r1, r2]
          exact hb
        · cases hb
  | [], _ :: _, _, _, _, _, _, _, hb => by cases hb
  | [], [], _ :: _, _, _, _, _, _, hb => by cases hb
  | _ :: _, [], _, _, _, _, _, _, hb => by cases hb
  | _ :: _, _ :: _, [], _, _, _, _, _, hb => by cases hb
theorem keyEq_rel {s : KS} {x y : PV} {x' y' : Value} {b : Bool} (px : PR Z n ρ M h x x') (py : PR Z n ρ M h y y') (hb : keyEqV s x y = some b) : keyEq s x' y' = some b := by
  cases s with
  | one a =>
    have hb' : atomEqV a x y = some b := by cases x <;> cases y <;> exact hb
    have := atomEq_rel px py hb'
    unfold keyEq
    cases x' <;> cases y' <;> exact this
  | agg ks =>
    cases x <;> try (cases hb; done)
    cases y <;> try (cases hb; done)
    obtain ⟨xa, rfl, hx⟩ := px.agg_inv
    obtain ⟨ya, rfl, hy⟩ := py.agg_inv
    exact atomsEq_rel hx hy hb
theorem keyOk_rel {s : KS} {x : PV} {x' : Value} (px : PR Z n ρ M h x x') (hb : keyOkV s x = true) : keyOk s x' = true := by
  unfold keyOkV at hb
  unfold keyOk
  rw [beq_iff_eq] at hb ⊢
  exact keyEq_rel px px hb

def EsRel (Z : Nat → Prop) (n : Nat) (ρ : Nat → Nat) (M : VM) (h : AH) (es : List (PV × PV × Nat)) (es' : List (Value × Value × Nat)) : Prop :=
  es.length = es'.length ∧ ∀ (i : Nat) (e : PV × PV × Nat) (e' : Value × Value × Nat), es[i]? = some e → es'[i]? = some e' → PR Z n ρ M h e.1 e'.1 ∧ PR Z n ρ M h e.2.1 e'.2.1 ∧ e'.2.2 = e.2.2
theorem findK_rel {s : KS} {x : PV} {x' : Value} (px : PR Z n ρ M h x x') : ∀ {es : List (PV × PV × Nat)} {es' : List (Value × Value × Nat)} {i : Nat} {f : Option (Nat × PV)}, EsRel Z n ρ M h es es' → findKV s x es i = some f →
    ∃ f', findK s x' es' i = some f' ∧ (match f, f' with | none, none => True | some (j, v), some (j', v') => j = j' ∧ PR Z n ρ M h v v' | _, _ => False)
  | [], es', i, f, he, hf => by
    have : es' = [] := List.eq_nil_of_length_eq_zero he.1.symm
    subst this
    cases hf
    exact ⟨none, rfl, trivial⟩
  | e :: es, es', i, f, he, hf => by
    cases es' with
    | nil => exact absurd he.1 (by simp)
    | cons e' es' =>
      obtain ⟨p1, p2, p3⟩ := he.2 0 e e' rfl rfl
      simp only [findKV] at hf
      simp only [findK]
      split at hf
      · rename_i hk
        rw [keyEq_rel px p1 hk]
        cases hf
        exact ⟨_, rfl, rfl, p2⟩
      · rename_i hk
        rw [keyEq_rel px p1 hk]
        exact findK_rel px (es := es) (es' := es') ⟨by simpa using he.1, fun i a b x y => he.2 (i + 1) a b (by simpa using x) (by simpa using y)⟩ hf
      · cases hf
theorem EsRel.modify {es : List (PV × PV × Nat)} {es' : List (Value × Value × Nat)} (he : EsRel Z n ρ M h es es') (i : Nat) {f : PV × PV × Nat → PV × PV × Nat} {g : Value × Value × Nat → Value × Value × Nat}
    (hf : ∀ e e', (PR Z n ρ M h e.1 e'.1 ∧ PR Z n ρ M h e.2.1 e'.2.1 ∧ e'.2.2 = e.2.2) → PR Z n ρ M h (f e).1 (g e').1 ∧ PR Z n ρ M h (f e).2.1 (g e').2.1 ∧ (g e').2.2 = (f e).2.2) : EsRel Z n ρ M h (es.modify i f) (es'.modify i g) := by
  refine ⟨by simp [he.1], fun j e e' a b => ?_⟩
  rw [List.getElem?_modify] at a b
  by_cases hij : i = j
  · subst hij
    simp only [if_true] at a b
    replace a := Option.map_eq_some_iff.1 a
    replace b := Option.map_eq_some_iff.1 b
    obtain ⟨a0, a1, a2⟩ := a
    obtain ⟨b0, b1, b2⟩ := b
    subst a2 b2
    exact hf a0 b0 (he.2 i _ _ a1 b1)
  · simp only [hij, if_false, id_map'] at a b
    exact he.2 j _ _ a b
theorem EsRel.snoc {es : List (PV × PV × Nat)} {es' : List (Value × Value × Nat)} (he : EsRel Z n ρ M h es es') {x v : PV} {x' v' : Value} (hx : PR Z n ρ M h x x') (hv : PR Z n ρ M h v v') (c : Nat) : EsRel Z n ρ M h (es ++ [(x, v, c)]) (es' ++ [(x', v', c)]) := by
  refine ⟨by simp [he.1], fun j e e' a b => ?_⟩
  by_cases hj : j < es.length
  · rw [List.getElem?_append_left hj] at a
    rw [List.getElem?_append_left (by rw [← he.1]; exact hj)] at b
    exact he.2 j _ _ a b
  · rw [List.getElem?_append_right (by omega)] at a
    rw [List.getElem?_append_right (by rw [← he.1]; omega), ← he.1] at b
    cases hjj : j - es.length with
    | zero => rw [hjj] at a b; simp at a b; subst a b; exact ⟨hx, hv, rfl⟩
    | succ q => rw [hjj] at a; simp at a
theorem EsRel.up (a : Up M.length ρ M h ρ' M' h') {es : List (PV × PV × Nat)} {es' : List (Value × Value × Nat)} (he : EsRel Z n ρ M h es es') : EsRel Z n ρ' M' h' es es' :=
  ⟨he.1, fun i e e' x y => let ⟨q1, q2, q3⟩ := he.2 i e e' x y; ⟨q1.up a, q2.up a, q3⟩⟩

/-- A map of one's own. -/
theorem map_pr (m : Mem Z n ρ M h E lo) {t : Nat} {es : List (PV × PV × Nat)} {clock : Nat} (ht : M[t]? = some (.map es clock)) {w : Value} (p : PR Z n ρ M h (.map t) w) :
    w = .map (some (ρ t)) ∧ lo ≤ ρ t ∧ ∃ es', h[ρ t]? = some (.map es' clock) ∧ EsRel Z n ρ M h es es' := by
  obtain ⟨g1, ao, g2, es', rfl, g3⟩ := m.obj t _ ht trivial
  cases p with
  | f p => cases p
  | map htl hm => exact ⟨by rw [hm es clock ht], Nat.le_trans m.nlo g1, es', g2, g3⟩
theorem map_set (m : Mem Z n ρ M h E lo) {t : Nat} {es es2 : List (PV × PV × Nat)} {clock c2 : Nat} (ht : M[t]? = some (.map es clock)) {es' : List (Value × Value × Nat)} (he : EsRel Z n ρ M h es2 es') :
    Mem Z n ρ (M.set t (.map es2 c2)) (h.setIfInBounds (ρ t) (.map es' c2)) E lo ∧ Up M.length ρ M h ρ (M.set t (.map es2 c2)) (h.setIfInBounds (ρ t) (.map es' c2)) :=
  m.turn (Nat.le_refl _) ht trivial trivial fun up => ⟨es', rfl, he.up up⟩
theorem mapEs_rel (m : Mem Z n ρ M h E lo) {x : PV} {w : Value} {es : List (PV × PV × Nat)} (p : PR Z n ρ M h x w) (hv : mapEsV M x = some es) : ∃ es', mapEs h w = some es' ∧ EsRel Z n ρ M h es es' := by
  cases x with
  | nilM => cases hv; rw [p.nilM_inv]; exact ⟨[], rfl, rfl, fun i e e' a => by simp at a⟩
  | map t =>
    simp only [mapEsV] at hv
    split at hv
    · rename_i ht
      cases hv
      obtain ⟨rfl, _, es', h1, h2⟩ := map_pr m ht p
      exact ⟨es', by simp only [mapEs, h1], h2⟩
    · cases hv
  | _ => simp [mapEsV] at hv

theorem isNil_rel {kk : EqK} {x : PV} {w : Value} {b : Bool} (p : PR Z n ρ M h x w) (hb : isNilV kk x = some b) : isNil kk w = some b := by
  cases kk <;> cases x <;> try (cases hb; done)
  · rw [p.nilS_inv]; exact hb
  · simp only [isNilV] at hb
    split at hb
    · cases hb
    · cases hb
      cases p with
      | f p => cases p with
        | lst0 => contradiction
        | lst => rfl
  · simp only [isNilV] at hb
    split at hb
    · cases hb
    · cases hb
      cases p with
      | f p => cases p
      | sl0 _ => contradiction
      | sl _ _ _ _ => rfl
  · cases p with
    | f p => cases p; exact hb
  · rw [p.nilM_inv]; exact hb
  · cases p with
    | f p => cases p
    | map _ _ => exact hb
  · rw [p.nilF_inv]; exact hb
  · obtain ⟨_, _, rfl, _⟩ := p.func_inv; exact hb
  · rw [p.nilP_inv]; exact hb
  · cases p with
    | f p => cases p
    | ptr _ => exact hb
  · cases p with
    | f p => cases p; exact hb
theorem eqNil_rel {kk : EqK} {x y : PV} {x' y' : Value} {b : Bool} (px : PR Z n ρ M h x x') (py : PR Z n ρ M h y y') (hb : eqNilV kk x y = some b) : eqNilA kk x' y' = some b := by
  unfold eqNilV at hb
  unfold eqNilA
  split at hb
  · rename_i c h1 h2; rw [isNil_rel px h1, isNil_rel py h2]; exact hb
  · rename_i h1 h2; rw [isNil_rel px h1, isNil_rel py h2]; exact hb
  · cases hb
end
end Go.RS

