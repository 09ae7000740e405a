/- The runner, and that it is right. -/
import Derived.Test.YtidnkmbicedmjaaDoorSimEf
set_option linter.all false
namespace Go.RS
open Go

/-! ### What a value is, with branches that hold nothing -/
noncomputable def vI (v : Value) : Option (IntKind × Int) := Value.casesOn (motive_1 := fun _ => Option (IntKind × Int)) v (fun _ => none) (fun k n => some (k, n)) (fun _ _ => none) (fun _ _ _ => none) (fun _ => none) (fun _ => none) (fun _ _ _ => none) (fun _ => none) (fun _ => none) (fun _ _ _ => none) none (fun _ _ => none) none (fun _ => none) (fun _ => none)
noncomputable def vB (v : Value) : Option Bool := Value.casesOn (motive_1 := fun _ => Option Bool) v (fun b => some b) (fun _ _ => none) (fun _ _ => none) (fun _ _ _ => none) (fun _ => none) (fun _ => none) (fun _ _ _ => none) (fun _ => none) (fun _ => none) (fun _ _ _ => none) none (fun _ _ => none) none (fun _ => none) (fun _ => none)
noncomputable def adO (a : Addr) : Option (Nat × Nat) := Addr.casesOn a fun b o s => Option.casesOn s (some (b, o)) fun _ => none
noncomputable def apO (a : Option Addr) : Option (Nat × Nat) := Option.casesOn a none adO
noncomputable def vP (v : Value) : Option (Nat × Nat) := Value.casesOn (motive_1 := fun _ => Option (Nat × Nat)) v (fun _ => none) (fun _ _ => none) (fun _ _ => none) (fun _ _ _ => none) (fun _ => none) apO (fun _ _ _ => none) (fun _ => none) (fun _ => none) (fun _ _ _ => none) none (fun _ _ => none) none (fun _ => none) (fun _ => none)
noncomputable def vA (v : Value) : Option Addr := Value.casesOn (motive_1 := fun _ => Option Addr) v (fun _ => none) (fun _ _ => none) (fun _ _ => none) (fun _ _ _ => none) (fun _ => none) (fun a => a) (fun _ _ _ => none) (fun _ => none) (fun _ => none) (fun _ _ _ => none) none (fun _ _ => none) none (fun _ => none) (fun _ => none)
noncomputable def vG (v : Value) : Option (Array Value) := Value.casesOn (motive_1 := fun _ => Option (Array Value)) v (fun _ => none) (fun _ _ => none) (fun _ _ => none) (fun _ _ _ => none) (fun _ => none) (fun _ => none) (fun _ _ _ => none) (fun _ => none) (fun _ => none) (fun _ _ _ => none) none (fun _ _ => none) none (fun c => some c) (fun _ => none)
noncomputable def vC (v : Value) : List Value := Value.casesOn (motive_1 := fun _ => List Value) v (fun b => [.bool b]) (fun k n => [.int k n]) (fun k b => [.float k b]) (fun k a b => [.complex k a b]) (fun s => [.string s]) (fun a => [.pointer a]) (fun a n c => [.slice a n c]) (fun r => [.map r]) (fun r => [.chan r]) (fun f a c => [.func f a c]) [.nilFunc] (fun t v => [.iface t v]) [.nilIface] (fun c => c.toList) (fun c => [.tuple c])
theorem vC_eq (v : Value) : vC v = v.cells.toList := by cases v <;> rfl
noncomputable def nthL {α : Type} (l : List α) : Nat → Option α := List.rec (motive := fun _ => Nat → Option α) (fun _ => none) (fun x _ ih n => cond (Nat.beq n 0) (some x) (ih (Nat.sub n 1))) l
theorem nthL_eq {α : Type} : ∀ (l : List α) (n : Nat), nthL l n = l[n]?
  | [], n => rfl
  | x :: l, n => by
    show cond (Nat.beq n 0) (some x) (nthL l (n - 1)) = _
    rw [nbeq, Bool.cond_decide, nthL_eq l]
    cases n with
    | zero => rfl
    | succ n => simp
noncomputable def objC (x : Option AObj) : Option (List Value) := Option.casesOn x none fun x => AObj.casesOn (motive := fun _ => Option (List Value)) x (fun c => some c) (fun _ _ => none) (fun _ => none) none
noncomputable def ob {α β : Type} (o : Option α) (k : α → Option β) : Option β := Option.casesOn o none k
noncomputable def ob2 {α γ β : Type} (o : Option (α × γ)) (k : α → γ → Option β) : Option β := Option.casesOn o none fun p => Prod.casesOn p k
/-- Cells are written over, in one pass. -/
noncomputable def splK {β : Type} (c : List Value) : Nat → List Value → (List Value → Option β) → Option β :=
  List.rec (motive := fun _ => Nat → List Value → (List Value → Option β) → Option β)
    (fun o vs k => List.casesOn vs (cond (Nat.beq o 0) (k []) none) fun _ _ => none)
    (fun x t ih o vs k => cond (Nat.beq o 0) (List.casesOn vs (k (x :: t)) fun v vs => ih 0 vs fun t => k (v :: t)) (ih (Nat.sub o 1) vs fun t => k (x :: t))) c
theorem splK_eq {β : Type} : ∀ (c : List Value) (o : Nat) (vs : List Value) (k : List Value → Option β), splK c o vs k = if o + vs.length ≤ c.length then k (splice c o vs) else none
  | [], o, vs, k => by
    cases vs with
    | nil =>
      show cond (Nat.beq o 0) (k []) none = _
      rw [nbeq, Bool.cond_decide]
      by_cases h : o = 0 <;> simp [h, splice]
    | cons v vs => simp [splK]
  | x :: t, o, vs, k => by
    show cond (Nat.beq o 0) (List.casesOn vs (k (x :: t)) fun v vs => splK t 0 vs fun t => k (v :: t)) (splK t (o - 1) vs fun t => k (x :: t)) = _
    rw [nbeq, Bool.cond_decide]
    by_cases h : o = 0
    · subst h
      rw [if_pos rfl]
      cases vs with
      | nil => simp [splice]
      | cons v vs =>
        show splK t 0 vs (fun t => k (v :: t)) = _
        rw [splK_eq t]
        simp [splice]
    · rw [if_neg h, splK_eq t]
      obtain ⟨o, rfl⟩ : ∃ m, o = m + 1 := ⟨o - 1, by omega⟩
      simp only [Nat.add_sub_cancel, List.length_cons]
      by_cases h2 : o + vs.length ≤ t.length
      · rw [if_pos h2, if_pos (by omega)]
        simp [splice, Nat.add_right_comm]
      · rw [if_neg h2, if_neg (by omega)]
/-- Cells are read, in one pass. -/
noncomputable def cutK {β : Type} (c : List Value) : Nat → Nat → (List Value → Option β) → Option β :=
  List.rec (motive := fun _ => Nat → Nat → (List Value → Option β) → Option β)
    (fun o n k => cond (Nat.beq (Nat.add o n) 0) (k []) none)
    (fun x _ ih o n k => cond (Nat.beq o 0) (cond (Nat.beq n 0) (k []) (ih 0 (Nat.sub n 1) fun t => k (x :: t))) (ih (Nat.sub o 1) n k)) c
theorem cutK_eq {β : Type} : ∀ (c : List Value) (o n : Nat) (k : List Value → Option β), cutK c o n k = if o + n ≤ c.length then k ((c.drop o).take n) else none
  | [], o, n, k => by
    show cond (Nat.beq (o + n) 0) (k []) none = _
    rw [nbeq, Bool.cond_decide]
    by_cases h : o + n = 0 <;> simp [h]
  | x :: t, o, n, k => by
    show cond (Nat.beq o 0) (cond (Nat.beq n 0) (k []) (cutK t 0 (n - 1) fun t => k (x :: t))) (cutK t (o - 1) n k) = _
    rw [nbeq, nbeq, Bool.cond_decide, Bool.cond_decide]
    by_cases h : o = 0
    · subst h
      rw [if_pos rfl]
      by_cases hn : n = 0
      · subst hn; simp
      · rw [if_neg hn, cutK_eq t]
        obtain ⟨n, rfl⟩ : ∃ m, n = m + 1 := ⟨n - 1, by omega⟩
        simp only [Nat.add_sub_cancel, Nat.zero_add, List.length_cons, List.drop_zero, List.take_succ_cons]
        by_cases h2 : n ≤ t.length
        · rw [if_pos h2, if_pos (by omega)]
        · rw [if_neg h2, if_neg (by omega)]
    · rw [if_neg h, cutK_eq t]
      obtain ⟨o, rfl⟩ : ∃ m, o = m + 1 := ⟨o - 1, by omega⟩
      simp only [Nat.add_sub_cancel, List.length_cons, List.drop_succ_cons]
      by_cases h2 : o + n ≤ t.length
      · rw [if_pos h2, if_pos (by omega)]
      · rw [if_neg h2, if_neg (by omega)]
noncomputable def kIx (k : IntKind) : Nat := IntKind.casesOn (motive := fun _ => Nat) k 0 1 2 3 4 5 6 7
theorem kIx_inj {a b : IntKind} (h : kIx a = kIx b) : a = b := by cases a <;> cases b <;> first | rfl | cases h

/-! ### Operations, each a constant -/
abbrev OpR := Nat → Fr → EH → Option (Value × EH)
def retV (h : EH) (v : Option Value) : Option (Value × EH) := Option.casesOn v none fun v => some (v, h)
theorem retV_eq (h : EH) (v : Option Value) : retV h v = v.map fun v => (v, h) := by cases v <;> rfl

abbrev BI := IntKind → Int → Int → Option Value
def b_add : BI := fun k a b => some (.int k (wrapI k (Int.add a b)))
def b_sub : BI := fun k a b => some (.int k (wrapI k (Int.sub a b)))
def b_mul : BI := fun k a b => some (.int k (wrapI k (Int.mul a b)))
def b_eql : BI := fun _ a b => some (.bool (eqI a b))
def b_neq : BI := fun _ a b => some (.bool (!(eqI a b)))
def b_lss : BI := fun _ a b => some (.bool (ltI a b))
def b_leq : BI := fun _ a b => some (.bool (!(ltI b a)))
def b_gtr : BI := fun _ a b => some (.bool (ltI b a))
def b_geq : BI := fun _ a b => some (.bool (!(ltI a b)))
def b_oth (op : BinOp) : BI := fun k a b => binInt op k a b
noncomputable def binIntF (op : BinOp) : BI := BinOp.casesOn (motive := fun _ => BI) op b_add b_sub b_mul (b_oth .quo) (b_oth .rem) (b_oth .and) (b_oth .or) (b_oth .xor) (b_oth .shl) (b_oth .shr) (b_oth .andNot) b_eql b_neq b_lss b_leq b_gtr b_geq
theorem binIntF_eq (op : BinOp) (k : IntKind) (a b : Int) : binIntF op k a b = binInt op k a b := by
  cases op <;> simp only [binIntF, b_add, b_sub, b_mul, b_eql, b_neq, b_lss, b_leq, b_gtr, b_geq, b_oth, binInt, wrapI_eq, eqI_eq, ltI_eq] <;> try rfl
  · congr 2; by_cases h : a ≤ b <;> simp [h] <;> omega
  · congr 2; by_cases h : b ≤ a <;> simp [h] <;> omega
noncomputable def binF (op : BinOp) (x y : Value) : Option Value :=
  Option.casesOn (vI x) (binA op x y) fun p => Prod.casesOn p fun k a => ob2 (vI y) fun k' b => cond (Nat.beq (kIx k) (kIx k')) (binIntF op k a b) none
theorem binF_eq (op : BinOp) (x y : Value) : binF op x y = binA op x y := by
  cases x <;> try rfl
  rename_i k a
  cases y <;> try rfl
  rename_i k' b
  show cond (Nat.beq (kIx k) (kIx k')) (binIntF op k a b) none = if k = k' then binInt op k a b else none
  rw [nbeq, Bool.cond_decide, binIntF_eq]
  by_cases h : k = k'
  · subst h; simp
  · rw [if_neg h, if_neg (fun h2 => h (kIx_inj h2))]
noncomputable def setF (lo : Nat) (h : EH) (b o : Nat) (vs : List Value) : Option EH :=
  cond (Nat.ble lo b) (ob (objC (h.get? b)) fun c => splK c o vs fun l => h.set b (.cells l)) none
theorem nble (a b : Nat) : Nat.ble a b = decide (a ≤ b) := by
  cases h : Nat.ble a b with
  | true => have := Nat.le_of_ble_eq_true h; simp [this]
  | false => have := Nat.not_le_of_not_ble_eq_true (by rw [h]; simp); simp [this]
theorem setF_eq (lo : Nat) (h : EH) (b o : Nat) (vs : List Value) : setF lo h b o vs = setE lo h b o vs := by
  unfold setF setE
  rw [nble, Bool.cond_decide]
  cases h.get? b with
  | none => simp [ob, objC]
  | some x =>
    cases x <;> simp only [ob, objC] <;> try (split <;> rfl)
    rename_i c
    rw [splK_eq]
    by_cases h1 : lo ≤ b <;> by_cases h2 : o + vs.length ≤ c.length <;> simp [h1, h2]

def e_mov (x : Opd) : OpR := fun _ fr h => some (x.ev fr, h)
noncomputable def e_pick (c a b : Opd) : OpR := fun _ fr h => ob (vB (c.ev fr)) fun t => some (cond t (a.ev fr) (b.ev fr), h)
noncomputable def e_alloc (z : List Value) : OpR := fun _ _ h => pushV (ptr h.n 0) h (.cells z)
noncomputable def e_box (x : Opd) : OpR := fun _ fr h => pushV (ptr h.n 0) h (.cells (vC (x.ev fr)))
noncomputable def e_build (z : List Value) (ps : List (Nat × Nat × Opd)) : OpR := fun _ fr h => Option.casesOn (fillL (ps.map fun p => (p.1, p.2.1, p.2.2.ev fr)) z) none fun c => forceL c fun c => some (.agg c.toArray, h)
noncomputable def e_buildSlice (n : Nat) (z : List Value) (ps : List (Nat × Nat × Opd)) : OpR := fun _ fr h => (fillL (ps.map fun p => (p.1, p.2.1, p.2.2.ev fr)) z).bind fun c => forceL c fun c => pushV (.slice (some ⟨h.n, 0, none⟩) n n) h (.cells c)
noncomputable def e_load (agg : Option Nat) (a : Opd) : OpR := fun _ fr h => ob2 (vP (a.ev fr)) fun b o => ob (objC (h.get? b)) fun c =>
  Option.casesOn agg (retV h (nthL c o)) fun n => cutK c o n fun c => some (.agg c.toArray, h)
noncomputable def e_store (n : Nat) (a x : Opd) : OpR := fun lo fr h => ob2 (vP (a.ev fr)) fun b o => forceL (vC (x.ev fr)) fun vs => cond (Nat.beq vs.length n && vs.all scal) (ob (setF lo h b o vs) fun h' => some (undef, h')) none
noncomputable def e_nilCheck (x : Opd) : OpR := fun _ fr h => ob (vA (x.ev fr)) fun a => some (.pointer (some a), h)
noncomputable def e_bin (op : BinOp) (x y : Opd) : OpR := fun _ fr h => retV h (binF op (x.ev fr) (y.ev fr))
def e_len (x : Opd) : OpR := fun _ fr h => match x.ev fr with | .slice _ n _ => some (.int .i64 n, h) | _ => none
noncomputable def e_part (off : Nat) (agg : Option Nat) (x : Opd) : OpR := fun _ fr h => ob (vG (x.ev fr)) fun cs => Option.casesOn agg (retV h (nthL cs.toList off)) fun n => retV h (partL cs.toList off (some n))
noncomputable def e_fieldAddr (off : Nat) (x : Opd) : OpR := fun _ fr h => ob (vA (x.ev fr)) fun a => some (.pointer (some (a.add off)), h)
def e_indexAddrS (e : Nat) (x i : Opd) : OpR := fun _ fr h => match x.ev fr, i.ev fr with
  | .slice (some a) len _, .int _ k => cond (!(ltI k 0) && ltI k len) (some (.pointer (some (a.add (k.toNat * e))), h)) none
  | _, _ => none
noncomputable def e_rest (op : AOp) : OpR := fun lo fr h => eop lo op fr h
def e_eqBool (neg : Bool) (x y : Opd) : OpR := fun _ fr h => match x.ev fr, y.ev fr with | .bool a, .bool b => some (.bool (if neg then !(a == b) else a == b), h) | _, _ => none
def e_eqAgg (neg : Bool) (n : List AK) (x y : Opd) : OpR := fun _ fr h => retV h ((keyEq (.agg n) (x.ev fr) (y.ev fr)).map fun b => .bool (if neg then !b else b))
def e_eqNil (k : EqK) (neg : Bool) (x y : Opd) : OpR := fun _ fr h => retV h ((eqNilA k (x.ev fr) (y.ev fr)).map fun b => .bool (if neg then !b else b))
def unF (op : UnOp) (x : Value) : Option Value := match op, x with
  | .neg, .int k n => some (.int k (wrapI k (Int.sub 0 n)))
  | .not, .bool b => some (.bool !b)
  | _, _ => none
theorem unF_eq (op : UnOp) (x : Value) : unF op x = unA op x := by
  unfold unF unA
  split <;> simp only [wrapI_eq] <;> rfl
def e_un (op : UnOp) (x : Opd) : OpR := fun _ fr h => retV h (unF op (x.ev fr))
def e_conv (k : IntKind) (x : Opd) : OpR := fun _ fr h => match x.ev fr with | .int _ n => some (.int k (wrapI k n), h) | _ => none
noncomputable def e_makeFunc (fn : Nat) (first cap : List Opd) : OpR := fun _ fr h => forceL (first.map (·.ev fr)) fun a => forceL (cap.map (·.ev fr)) fun b => some (.func (.func fn) a.toArray b.toArray, h)
noncomputable def e_makeMap : OpR := fun _ _ h => pushV (.map (some h.n)) h (.map [] 0)
noncomputable def e_makeSlice (z : List Value) (bytes : Nat) (len cap : Opd) : OpR := fun _ fr h => match len.ev fr, cap.ev fr with
    | .int .i64 l, .int .i64 c =>
      if 0 ≤ l ∧ l ≤ c ∧ c.toNat * bytes ≤ 2 ^ 40 ∧ c.toNat ≤ 2 ^ 40 then
        forceL ((List.range (c.toNat * z.length)).map fun i => z.getD (i % z.length) undef) fun cs => pushV (.slice (some ⟨h.n, 0, none⟩) l.toNat c.toNat) h (.cells cs)
      else none
    | _, _ => none
def e_sliceS (e : Nat) (x : Opd) (lo' hi mx : Option Opd) : OpR := fun _ fr h => match x.ev fr with
    | .slice a len cap => if (a.isSome ∨ (len = 0 ∧ cap = 0)) ∧ (cap < openCap ∨ cap = openCap ∨ cap = openCap + e) then retV h (sliceV e a len cap (lo'.map (·.ev fr)) (hi.map (·.ev fr)) (mx.map (·.ev fr))) else none
    | _ => none
def e_sliceA (n e : Nat) (x : Opd) (lo' hi mx : Option Opd) : OpR := fun _ fr h => match x.ev fr with
    | .pointer (some a) => retV h (sliceV e (some a) n n (lo'.map (·.ev fr)) (hi.map (·.ev fr)) (mx.map (·.ev fr)))
    | _ => none
noncomputable def e_indexAddrA (n e : Nat) (x i : Opd) : OpR := fun _ fr h => ob (vA (x.ev fr)) fun a => ob2 (vI (i.ev fr)) fun _ k => cond (!(ltI k 0) && ltI k n) (some (.pointer (some (a.add (k.toNat * e))), h)) none
noncomputable def e_indexA (n e : Nat) (agg : Option Nat) (x i : Opd) : OpR := fun _ fr h => ob (vG (x.ev fr)) fun cs => ob2 (vI (i.ev fr)) fun _ k => cond (!(ltI k 0) && ltI k n) (retV h (partL cs.toList (k.toNat * e) agg)) none
def e_indexStr (x i : Opd) : OpR := fun _ fr h => match x.ev fr, i.ev fr with
  | .string s, .int _ k => cond (!(ltI k 0)) (retV h ((s[k.toNat]?).map fun b => .int .u8 b.toNat)) none
  | _, _ => none
noncomputable def e_lookup (flat : KS) (z : Value) (ok : Bool) (m k : Opd) : OpR := fun _ fr h =>
    match mapE h (m.ev fr) with
    | none => none
    | some es => if keyOk flat (k.ev fr) = false then none else (findK flat (k.ev fr) es 0).map fun f => (lookRes ok z f, h)
noncomputable def e_mapUpdate (flat : KS) (m k x : Opd) : OpR := fun lo fr h => match m.ev fr with
    | .map (some r) => if lo ≤ r ∧ keyOk flat (k.ev fr) = true then (match h.get? r with
      | some (.map es clock) => (findK flat (k.ev fr) es 0).bind fun f => (match f with
        | some (i, _) => forceL (es.modify i fun e => (k.ev fr, x.ev fr, e.2.2)) fun es => h.set r (.map es clock)
        | none => forceL (es ++ [(k.ev fr, x.ev fr, clock)]) fun es => h.set r (.map es (clock + 1))).map fun h' => (undef, h')
      | _ => none) else none
    | _ => none
noncomputable def e_mapEntry (flat : KS) (z : Value) (m k : Opd) : OpR := fun lo fr h => eop lo (.mapEntry flat z m k) fr h
noncomputable def e_entryStore (m s x : Opd) : OpR := fun lo fr h => eop lo (.entryStore m s x) fr h
def e_extract (x : Opd) (i : Nat) : OpR := fun _ fr h => match x.ev fr with | .tuple vs => retV h vs.toList[i]? | _ => none
def e_lenT (x : Opd) : OpR := fun _ fr h => match x.ev fr with | .string s => some (.int .i64 s.size, h) | _ => none
def e_lenC (n : Nat) : OpR := fun _ _ h => some (.int .i64 n, h)
noncomputable def appendF (lo : Nat) (h : EH) (esize bytes : Nat) (s x : Value) : Option (Value × EH) :=
  Option.casesOn (elemsE h esize x) none fun p => forceL p.2 fun new => forceN p.1 fun n =>
    match s with
    | .slice none sl sc =>
      if sl = 0 ∧ sc = 0 then
        (if n = 0 then some (.slice none 0 0, h)
         else if fits n bytes then pushV (.slice (some ⟨h.n, 0, none⟩) n (openCap + esize)) h (.cells new) else none)
      else none
    | .slice (some ⟨b, o, none⟩) sl sc =>
      if n = 0 then (if sl ≤ sc then some (.slice (some ⟨b, o, none⟩) sl sc, h) else none)
      else if openCap ≤ sc then
        match h.get? b with
        | some (.cells c) =>
          if sc = openCap + esize ∧ esize ≠ 0 ∧ lo ≤ b ∧ o + sl * esize = c.length ∧ fits (sl + n) bytes = true ∧ new.all scal = true then
            (h.set b .junk).bind fun h1 => forceL (c.drop o ++ new) fun cs => forceN (sl + n) fun m => pushV (.slice (some ⟨h.n, 0, none⟩) m (openCap + esize)) h1 (.cells cs)
          else none
        | _ => none
      else if sl + n ≤ sc then
        if new.all scal = true then (setF lo h b (o + sl * esize) new).map fun h' => (.slice (some ⟨b, o, none⟩) (sl + n) sc, h') else none
      else
        match cellsO (h.get? b) o (sl * esize) with
        | some old => if fits (sl + n) bytes then forceL (old ++ new) fun cs => pushV (.slice (some ⟨h.n, 0, none⟩) (sl + n) (openCap + esize)) h (.cells cs) else none
        | none => none
    | _ => none
theorem appendF_eq (lo : Nat) (h : EH) (e b : Nat) (s x : Value) : appendF lo h e b s x = appendE lo h e b s x := by
  unfold appendF appendE
  cases elemsE h e x with
  | none => rfl
  | some p =>
    obtain ⟨n, new⟩ := p
    simp only [forceL_eq, forceN_eq, setF_eq]
    cases s <;> try rfl
noncomputable def e_append (e b : Nat) (s x : Opd) : OpR := fun lo fr h => appendF lo h e b (s.ev fr) (x.ev fr)
def e_minmax (mx : Bool) (x : Opd) (more : List Opd) : OpR := fun _ fr h => retV h (more.foldlM (fun a y => minmax2 mx a (y.ev fr)) (x.ev fr))
def e_none : OpR := fun _ _ _ => none

noncomputable def evOp (op : AOp) : OpR :=
  AOp.casesOn op e_mov e_pick e_alloc e_box e_build e_buildSlice e_load e_store e_nilCheck e_bin e_eqBool e_eqAgg e_eqNil e_un e_conv e_makeFunc e_makeMap e_makeSlice e_sliceS e_sliceA e_fieldAddr e_part e_indexAddrA e_indexAddrS e_indexA e_indexStr e_lookup
    e_mapUpdate e_mapEntry e_entryStore e_extract (fun s x => Bool.casesOn s (e_len x) (e_lenT x)) e_lenC e_append e_minmax (fun _ _ => e_none) e_none
theorem evOp_eq (op : AOp) (lo : Nat) (fr : Fr) (h : EH) : evOp op lo fr h = eop lo op fr h := by
  cases op <;> try rfl
  case eqBool neg x y =>
    simp only [evOp, e_eqBool, eop, aop]
    cases x.ev fr <;> try rfl
    cases y.ev fr <;> rfl
  case eqAgg neg n x y => simp only [evOp, e_eqAgg, eop, aop, retV_eq]; cases keyEq (.agg n) (x.ev fr) (y.ev fr) <;> rfl
  case eqNil k neg x y => simp only [evOp, e_eqNil, eop, aop, retV_eq]; cases eqNilA k (x.ev fr) (y.ev fr) <;> rfl
  case un op x => simp only [evOp, e_un, eop, aop, retV_eq, unF_eq]; cases unA op (x.ev fr) <;> rfl
  case conv k x => simp only [evOp, e_conv, eop, aop, wrapI_eq]; cases x.ev fr <;> rfl
  case makeFunc fn f c => simp only [evOp, e_makeFunc, eop, aop, forceL_eq]; rfl
  case makeSlice z bytes len cap => simp only [evOp, e_makeSlice, eop, forceL_eq]; rfl
  case sliceS e x l hh m =>
    simp only [evOp, e_sliceS, eop, aop, retV_eq]
    cases x.ev fr <;> try rfl
    simp only
    split
    · generalize sliceV _ _ _ _ _ _ _ = z; cases z <;> rfl
    · rfl
  case sliceA n e x l hh m =>
    simp only [evOp, e_sliceA, eop, aop, retV_eq]
    cases x.ev fr <;> try rfl
    rename_i a; cases a <;> try rfl
    simp only
    generalize sliceV _ _ _ _ _ _ _ = z; cases z <;> rfl
  case indexAddrA n e x i =>
    simp only [evOp, e_indexAddrA, eop, aop]
    cases x.ev fr <;> try rfl
    rename_i a
    cases a <;> try rfl
    cases i.ev fr <;> try rfl
    rename_i k m
    show cond (!(ltI m 0) && ltI m n) _ none = _
    simp only [ltI_eq]
    by_cases h1 : 0 ≤ m <;> by_cases h2 : m < n
    · rw [if_pos ⟨h1, h2⟩]; simp [h2, show ¬ m < 0 by omega]
    · rw [if_neg (fun h => h2 h.2)]; simp [h2]
    · rw [if_neg (fun h => h1 h.1)]; simp [show m < 0 by omega]
    · rw [if_neg (fun h => h1 h.1)]; simp [show m < 0 by omega]
  case indexA n e agg x i =>
    simp only [evOp, e_indexA, eop, aop, retV_eq]
    cases x.ev fr <;> try rfl
    cases i.ev fr <;> try rfl
    rename_i k m
    show cond (!(ltI m 0) && ltI m n) _ none = _
    simp only [ltI_eq]
    by_cases h1 : 0 ≤ m <;> by_cases h2 : m < n
    · rw [if_pos ⟨h1, h2⟩]; simp only [h2, show ¬ m < 0 by omega, decide_true, decide_false, Bool.not_false, Bool.and_self, cond_true]; generalize partL _ _ _ = z; cases z <;> rfl
    · rw [if_neg (fun h => h2 h.2)]; simp [h2]
    · rw [if_neg (fun h => h1 h.1)]; simp [show m < 0 by omega]
    · rw [if_neg (fun h => h1 h.1)]; simp [show m < 0 by omega]
  case indexStr x i =>
    simp only [evOp, e_indexStr, eop, aop, retV_eq]
    cases x.ev fr <;> try rfl
    cases i.ev fr <;> try rfl
    rename_i s k m
    simp only [ltI_eq]
    by_cases h1 : 0 ≤ m
    · rw [if_pos h1]; simp only [show ¬ m < 0 by omega, decide_false, Bool.not_false, cond_true]; generalize s[m.toNat]? = z; cases z <;> rfl
    · rw [if_neg h1]; simp [show m < 0 by omega]
  case mapUpdate flat m k x => simp only [evOp, e_mapUpdate, eop, forceL_eq]; rfl
  case extract x i =>
    simp only [evOp, e_extract, eop, aop, retV_eq]
    cases x.ev fr <;> try rfl
    rename_i vs
    simp only [Array.getElem?_toList]
    cases vs[i]? <;> rfl
  case append e b s x => simp only [evOp, e_append, eop, appendF_eq]
  case minmax mx x more => simp only [evOp, e_minmax, eop, aop, retV_eq]; generalize (List.foldlM (m := Option) _ _ more) = z; cases z <;> rfl
  case pick c a b =>
    simp only [evOp, e_pick, eop, aop]
    cases c.ev fr <;> try rfl
    rename_i t; cases t <;> rfl
  case box x =>
    simp only [evOp, e_box, eop, vC_eq]
  case build z ps =>
    simp only [evOp, e_build, eop, aop]
    cases fillL (ps.map fun p => (p.1, p.2.1, p.2.2.ev fr)) z with
    | none => rfl
    | some c => simp [forceL_eq]
  case buildSlice n z ps =>
    simp only [evOp, e_buildSlice, eop, forceL_eq]
  case load agg a =>
    cases agg <;> simp only [evOp, e_load, eop, retV_eq] <;> generalize a.ev fr = v <;> cases v <;> try rfl
    all_goals (rename_i p; cases p <;> try rfl)
    all_goals (rename_i ad; obtain ⟨b, o, sp⟩ := ad; cases sp <;> try rfl)
    · show ob (objC (h.get? b)) (fun c => (nthL c o).map fun v => (v, h)) = (cellO (h.get? b) o).map fun v => (v, h)
      cases h.get? b with
      | none => rfl
      | some x => cases x <;> first | rfl | (simp only [ob, objC, cellO, nthL_eq])
    · rename_i n
      show ob (objC (h.get? b)) (fun c => cutK c o n fun c => some (Value.agg c.toArray, h)) = (cellsO (h.get? b) o n).map fun c => (Value.agg c.toArray, h)
      cases h.get? b with
      | none => rfl
      | some x =>
        cases x <;> try rfl
        simp only [ob, objC, cellsO, cutK_eq]
        split <;> rfl
  case store n a x =>
    simp only [evOp, e_store, eop, setF_eq, nbeq, forceL_eq, vC_eq]
    generalize a.ev fr = v
    cases v <;> try rfl
    rename_i p; cases p <;> try rfl
    rename_i ad; obtain ⟨b, o, sp⟩ := ad; cases sp <;> try rfl
    show cond (decide ((x.ev fr).cells.toList.length = n) && (x.ev fr).cells.toList.all scal) (ob (setE lo h b o (x.ev fr).cells.toList) fun h' => some (undef, h')) none = _
    have e1 : ∀ z : Option EH, (ob z fun h' => some (undef, h')) = z.map fun h' => (undef, h') := fun z => by cases z <;> rfl
    rw [e1]
    by_cases h1 : (x.ev fr).cells.size = n <;> by_cases h2 : (x.ev fr).cells.toList.all scal = true <;> simp [h1, h2]
  case nilCheck x => simp only [evOp, e_nilCheck, eop, aop]; cases x.ev fr <;> try rfl
                     rename_i a; cases a <;> rfl
  case bin op x y => simp only [evOp, e_bin, eop, aop, retV_eq, binF_eq]; cases binA op (x.ev fr) (y.ev fr) <;> rfl
  case len s x =>
    cases s
    · simp only [evOp, e_len, eop, aop]; cases x.ev fr <;> rfl
    · simp only [evOp, e_lenT, eop, aop]; cases x.ev fr <;> rfl
  case part off agg x =>
    simp only [evOp, e_part, eop, aop, retV_eq, nthL_eq]
    cases x.ev fr <;> try rfl
    rename_i cs
    cases agg with
    | none =>
      show (cs.toList[off]?).map (fun v => (v, h)) = _
      simp only [partL]
      cases cs.toList[off]? <;> rfl
    | some n => rfl
  case fieldAddr off x =>
    simp only [evOp, e_fieldAddr, eop, aop]
    cases x.ev fr <;> try rfl
    rename_i a; cases a <;> rfl
  case indexAddrS e x i =>
    simp only [evOp, e_indexAddrS, eop, aop]
    cases x.ev fr <;> try rfl
    rename_i a len cap
    cases a <;> try rfl
    cases i.ev fr <;> try rfl
    rename_i k n
    simp only [ltI_eq]
    by_cases h1 : 0 ≤ n <;> by_cases h2 : n < len
    · rw [if_pos ⟨h1, h2⟩]; simp [h2, show ¬ n < 0 by omega]
    · rw [if_neg (fun h => h2 h.2)]; simp [h2]
    · rw [if_neg (fun h => h1 h.1)]; simp [show n < 0 by omega]
    · rw [if_neg (fun h => h1 h.1)]; simp [show n < 0 by omega]
end Go.RS

