/- The runner, and that it is right (2). -/
import Derived.Test.YtidnkmbicedmjaaDoorSimEw
set_option linter.all false
namespace Go.RS
open Go

abbrev CallR := Value → List Value → EH → Option (Value × EH)
noncomputable def callOpd (op : AOp) : Option (Opd × List Opd) := AOp.casesOn (motive := fun _ => Option (Opd × List Opd)) op (fun _ => none) (fun _ _ _ => none) (fun _ => none) (fun _ => none) (fun _ _ => none) (fun _ _ _ => none) (fun _ _ => none) (fun _ _ _ => none) (fun _ => none) (fun _ _ _ => none) (fun _ _ _ => none) (fun _ _ _ _ => none) (fun _ _ _ _ => none) (fun _ _ => none) (fun _ _ => none) (fun _ _ _ => none) none (fun _ _ _ _ => none) (fun _ _ _ _ _ => none) (fun _ _ _ _ _ _ => none) (fun _ _ => none) (fun _ _ _ => none) (fun _ _ _ _ => none) (fun _ _ _ => none) (fun _ _ _ _ _ => none) (fun _ _ => none) (fun _ _ _ _ _ => none) (fun _ _ _ _ => none) (fun _ _ _ _ => none) (fun _ _ _ => none) (fun _ _ => none) (fun _ _ => none) (fun _ => none) (fun _ _ _ _ => none) (fun _ _ _ => none) (fun f as => some (f, as)) none
theorem callOpd_some {op : AOp} {f : Opd} {as : List Opd} (h : callOpd op = some (f, as)) : op = .call f as := by
  cases op <;> simp [callOpd] at h
  obtain ⟨rfl, rfl⟩ := h; rfl
theorem ob_some {α β : Type} {o : Option α} {k : α → Option β} {y : β} (h : ob o k = some y) : ∃ x, o = some x ∧ k x = some y := by
  cases o with
  | none => cases h
  | some x => exact ⟨x, rfl, h⟩
theorem ob2_some {α γ β : Type} {o : Option (α × γ)} {k : α → γ → Option β} {y : β} (h : ob2 o k = some y) : ∃ a b, o = some (a, b) ∧ k a b = some y := by
  cases o with
  | none => cases h
  | some x => obtain ⟨a, b⟩ := x; exact ⟨a, b, rfl, h⟩
theorem cond_some {β : Type} {c : Bool} {x : Option β} {y : β} (h : cond c x none = some y) : c = true ∧ x = some y := by
  cases c with
  | true => exact ⟨rfl, h⟩
  | false => cases h

/-! ### Lists of operations -/
noncomputable def stepO (lo : Nat) (call : CallR) (o : AOper) (fr : FF) (h : EH) (k : FF → EH → Option (FF × EH)) : Option (FF × EH) :=
  cond (wantedA o.guard fr.get)
    (Option.casesOn (callOpd o.op)
      (ob2 (evOp o.op lo fr.get h) fun v h1 => putK fr o.dst v fun fr => k fr h1)
      fun q => ob2 (call (q.1.ev fr.get) (q.2.map (·.ev fr.get)) h) fun v h1 => putK fr o.dst v fun fr => k fr h1)
    (putK fr o.dst undef fun fr => k fr h)
noncomputable def runOps (lo : Nat) (call : CallR) (l : List AOper) : FF → EH → Option (FF × EH) := List.rec (motive := fun _ => FF → EH → Option (FF × EH)) (fun fr h => some (fr, h)) (fun o _ ih fr h => stepO lo call o fr h ih) l
def lateB (o : AOper) (fr : Fr) : Bool :=
  match o.op with
  | .store _ a _ => match a.ev fr with
    | .pointer (some p) => o.late.all fun x => match x.ev fr with | .pointer (some q) => q.block != p.block | _ => false
    | _ => false
  | _ => o.late.isEmpty
theorem lateB_ok {o : AOper} {fr : Fr} (h : lateB o fr = true) : lateOk o fr := by
  unfold lateB at h
  unfold lateOk
  split at h
  · rename_i n a x ho
    simp only [ho]
    split at h
    · rename_i p hp
      simp only [hp]
      intro y hy
      have := List.all_eq_true.1 h y hy
      split at this
      · rename_i q hq; simp only [hq]; simpa using this
      · cases this
    · cases h
  · rename_i hne
    split
    · rename_i n a x ho; exact absurd ho (hne n a x)
    · simpa using h
noncomputable def stepD (lo : Nat) (call : CallR) (o : AOper) (fr : FF) (h : EH) (k : FF → EH → Option (FF × EH)) : Option (FF × EH) :=
  cond (wantedA o.guard fr.get)
    (Option.casesOn (callOpd o.op)
      (cond (o.op.still || (o.seqd && lateB o fr.get)) (ob2 (evOp o.op lo fr.get h) fun v h1 => putK fr o.dst v fun fr => k fr h1) none)
      fun q => ob2 (call (q.1.ev fr.get) (q.2.map (·.ev fr.get)) ⟨h.n, h.n, h.t⟩) fun v h1 => cond (Nat.ble h.n h1.low || (o.seqd && o.late.isEmpty)) (putK fr o.dst v fun fr => k fr (cond (Nat.ble h.low h1.low) ⟨h1.n, h.low, h1.t⟩ ⟨h1.n, h1.low, h1.t⟩)) none)
    (putK fr o.dst undef fun fr => k fr h)
noncomputable def runOpsD (lo : Nat) (call : CallR) (l : List AOper) : FF → EH → Option (FF × EH) := List.rec (motive := fun _ => FF → EH → Option (FF × EH)) (fun fr h => some (fr, h)) (fun o _ ih fr h => stepD lo call o fr h ih) l

inductive ECfg where
  | code (c : ACode) (fr : FF) (h : EH)
  | fn (v : Value) (args : List Value) (h : EH)
inductive ERes where
  | out (e : AExit) (f : FF) (h : EH)
  | val (v : Value) (h : EH)
noncomputable def ECfg.a : ECfg → Cfg
  | .code c fr h => .code c fr.get h.ah
  | .fn v args h => .fn v args h.ah
noncomputable def ERes.a : ERes → Res
  | .out e fr h => .fr e fr.get h.ah
  | .val v h => .v v h.ah
def ECfg.h : ECfg → EH
  | .code _ _ h => h
  | .fn _ _ h => h
def ERes.h : ERes → EH
  | .out _ _ h => h
  | .val _ h => h
def AExit.isN : AExit → Bool
  | .normal => true
  | _ => false
def AExit.isNR : AExit → Bool
  | .normal | .ret => true
  | _ => false
def rdyB : LoopState → Bool
  | .ready => true
  | _ => false
def busyB : LoopState → Bool
  | .busy => true
  | _ => false
theorem isN_iff {e : AExit} (h : e.isN = true) : e = .normal := by cases e <;> first | rfl | cases h
theorem isN_not {e : AExit} (h : ¬ e.isN = true) : e ≠ .normal := by rintro rfl; exact h rfl
theorem isNR_iff {e : AExit} (h : e.isNR = true) : e = .normal ∨ e = .ret := by cases e <;> first | exact .inl rfl | exact .inr rfl | cases h
theorem rdy_iff {s : LoopState} (h : rdyB s = true) : s = .ready := by cases s <;> first | rfl | cases h
theorem busy_not {s : LoopState} (h : busyB s = false) : s ≠ .busy := by rintro rfl; cases h

noncomputable def resK {β : Type} (r : Option ERes) (k : AExit → FF → EH → Option β) : Option β := Option.casesOn r none fun r => ERes.casesOn r k fun _ _ => none
noncomputable def valK {β : Type} (r : Option ERes) (k : Value → EH → Option β) : Option β := Option.casesOn r none fun r => ERes.casesOn r (fun _ _ _ => none) k
noncomputable def loopK {β : Type} (r : Option AObj) (k : ALoop → Option β) : Option β := Option.casesOn r none fun r => AObj.casesOn r (fun _ => none) (fun _ _ => none) k none
theorem resK_some {β : Type} {r : Option ERes} {k : AExit → FF → EH → Option β} {y : β} (h : resK r k = some y) : ∃ e fr h, r = some (.out e fr h) ∧ k e fr h = some y := by
  cases r with
  | none => cases h
  | some r => cases r with
    | out e fr h1 => exact ⟨e, fr, h1, rfl, h⟩
    | val v h1 => cases h
theorem valK_some {β : Type} {r : Option ERes} {k : Value → EH → Option β} {y : β} (h : valK r k = some y) : ∃ v h, r = some (.val v h) ∧ k v h = some y := by
  cases r with
  | none => cases h
  | some r => cases r with
    | out e fr h1 => cases h
    | val v h1 => exact ⟨v, h1, rfl, h⟩
theorem loopK_some {β : Type} {r : Option AObj} {k : ALoop → Option β} {y : β} (h : loopK r k = some y) : ∃ L, r = some (.loop L) ∧ k L = some y := by
  cases r with
  | none => cases h
  | some r => cases r <;> first | (cases h; done) | exact ⟨_, rfl, h⟩

noncomputable def callOf (ev : ECfg → Option ERes) : CallR := fun v args h => valK (ev (.fn v args h)) fun v h => some (v, h)

noncomputable def resultE (fr : Fr) (h : EH) (r : Nat × Option (Option Nat)) : Option Value :=
  match r.2 with
  | none => some (fr r.1)
  | some agg => match fr r.1 with
    | .pointer (some ⟨b, o, none⟩) => Option.casesOn agg (cellO (h.get? b) o) fun n => (cellsO (h.get? b) o n).map fun c => .agg c.toArray
    | _ => none
noncomputable def resultsE (rs : List (Nat × Option (Option Nat))) (fr : Fr) (h : EH) : Option Value :=
  match rs.mapM (resultE fr h) with
  | some [v] => some v
  | some vs => some (.tuple vs.toArray)
  | none => none
theorem resultsE_eq (rs : List (Nat × Option (Option Nat))) (fr : Fr) (h : EH) : resultsE rs fr h = resultsA rs fr h.ah := by
  have : resultE fr h = resultA fr h.ah := by
    funext r
    obtain ⟨s, k⟩ := r
    unfold resultE resultA
    cases k with
    | none => rfl
    | some agg =>
      simp only
      generalize fr s = v
      cases v <;> try rfl
      rename_i p; cases p <;> try rfl
      rename_i ad; obtain ⟨b, o, sp⟩ := ad; cases sp <;> try rfl
      simp only
      cases agg with
      | none => unfold cellAt cellO; rw [EH.get_ah]; rfl
      | some n => unfold cellsAt cellsO; rw [EH.get_ah]; rfl
  unfold resultsE resultsA
  rw [this]
  rfl

section
variable (G : Nat → Option AFn) (lo : Nat) (ev : ECfg → Option ERes)
abbrev CR := FF → EH → Option ERes
def c_skip : CR := fun fr h => some (.out .normal fr h)
noncomputable def c_region (d : Bool) (ops : List AOper) : CR := fun fr h => ob2 (Bool.casesOn d (runOps lo (callOf ev) ops fr h) (runOpsD lo (callOf ev) ops fr h)) fun fr h => some (.out .normal fr h)
noncomputable def c_seq (a b : ACode) : CR := fun fr h => resK (ev (.code a fr h)) fun e fr1 h1 => cond e.isN (ev (.code b fr1 h1)) (some (.out e fr1 h1))
noncomputable def c_cond (c : Opd) (a b : ACode) : CR := fun fr h => match c.ev fr.get with | .bool t => cond t (ev (.code a fr h)) (ev (.code b fr h)) | _ => none
noncomputable def c_block (id : Nat) (c : ACode) : CR := fun fr h => resK (ev (.code c fr h)) fun e fr1 h1 => some (.out (e.leave id) fr1 h1)
noncomputable def c_loop (c : ACode) : CR := fun fr h => resK (ev (.code c fr h)) fun e fr1 h1 => cond e.isN (ev (.code (.loop c) fr1 h1)) (some (.out e fr1 h1))
def c_exit (id : Nat) : CR := fun fr h => some (.out (.exit id) fr h)
def c_ret : CR := fun fr h => some (.out .ret fr h)
def c_scope (c : ACode) : CR := fun fr h => ev (.code c fr h)
noncomputable def c_range (f : Opd) (ps : List Nat) (assign body : ACode) : CR := fun fr h => match f.ev fr.get with
  | .func (.func g) first cap => ob (h.push (.loop ⟨fr.get, ps, assign, body, .ready, none⟩)) fun h1 => valK (ev (.fn (.func (.func g) first cap) [.func (.yield h.n) #[] #[]] h1)) fun _ h2 => loopK (h2.get? h.n) fun L =>
      cond (busyB L.state) none (ob (h2.set h.n (.loop { L with state := .exhausted })) fun h3 => some (.out (pendExit L.pending) fr h3))
  | _ => none
noncomputable def codeK (c : ACode) : CR := match c with
  | .skip => c_skip
  | .region d ops => c_region lo ev d ops
  | .seq a b => c_seq ev a b
  | .cond c a b => c_cond ev c a b
  | .block id c => c_block ev id c
  | .loop c => c_loop ev c
  | .rangeFunc f ps a b => c_range ev f ps a b
  | .exit id => c_exit id
  | .scope c => c_scope ev c
  | .ret => c_ret
  | .bad => fun _ _ => none
noncomputable def f_func (f : Nat) (args : List Value) (h : EH) : Option ERes := ob (G f) fun F => cond (Nat.ble args.length F.ntmps) (resK (ev (.code F.body (FF.of (argsFr args)) h)) fun e fr1 h1 => cond e.isNR (ob (resultsE F.results fr1.get h1) fun v => some (.val v h1)) none) none
noncomputable def f_yield (l : Nat) (args : List Value) (h : EH) : Option ERes := cond (Nat.ble lo l) (loopK (h.get? l) fun L => cond (Nat.beq args.length L.params.length) (resK (ev (.code L.assign (FF.of (setParams L.fr L.params args)) h)) fun e1 fr1 h1 => cond e1.isN (loopK (h1.get? l) fun L1 =>
  cond (rdyB L1.state) (ob (h1.set l (.loop { L1 with state := .busy })) fun h1' => resK (ev (.code L.body fr1 h1')) fun e _ h2 => loopK (h2.get? l) fun L2 => ob (h2.set l (.loop { L2 with state := e.stateAfter, pending := e.jump })) fun h3 => some (.val (.bool e.goesOn) h3)) none) none) none) none
noncomputable def fnK (v : Value) (args : List Value) (h : EH) : Option ERes := match v with
  | .func (.func f) first cap => forceL (first.toList ++ args ++ cap.toList) fun args => f_func G ev f args h
  | .func (.yield l) first cap => cond (first.isEmpty && cap.isEmpty) (f_yield lo ev l args h) none
  | _ => none
noncomputable def ev1 (c : ECfg) : Option ERes := ECfg.casesOn c (fun c fr h => codeK lo ev c fr h) fun v args h => fnK G lo ev v args h
end
noncomputable def evN (G : Nat → Option AFn) (lo n : Nat) : ECfg → Option ERes := Nat.rec (motive := fun _ => ECfg → Option ERes) (fun _ => none) (fun _ ih c => ev1 G lo ih c) n

def Sound (G : Env) (lo : Nat) (ev : ECfg → Option ERes) : Prop := ∀ c r, ev c = some r → B G lo c.a r.a ∧ EStep c.h r.h
section
variable {G : Env} {lo : Nat} {ev : ECfg → Option ERes}
theorem callOf_sound (hs : Sound G lo ev) {v v1 : Value} {args : List Value} {h h1 : EH} (hc : callOf ev v args h = some (v1, h1)) : B G lo (.fn v args h.ah) (.v v1 h1.ah) ∧ EStep h h1 := by
  obtain ⟨v2, h2, he, hx⟩ := valK_some hc
  cases hx
  exact hs (.fn v args h) (.val v1 h1) he
theorem runOps_sound (hs : Sound G lo ev) : ∀ {l : List AOper} {fr fr1 : FF} {h h1 : EH}, runOps lo (callOf ev) l fr h = some (fr1, h1) → B G lo (.ops l fr.get h.ah) (.fr .normal fr1.get h1.ah) ∧ EStep h h1
  | [], fr, fr1, h, h1, he => by cases he; exact ⟨.ops_nil, .refl _⟩
  | o :: os, fr, fr1, h, h1, he => by
    have he : stepO lo (callOf ev) o fr h (runOps lo (callOf ev) os) = some (fr1, h1) := he
    unfold stepO at he
    cases hw : wantedA o.guard fr.get with
    | true =>
      rw [hw] at he
      simp only [cond_true] at he
      cases hc : callOpd o.op with
      | none =>
        rw [hc] at he
        obtain ⟨v, h2, hv, he⟩ := ob2_some he
        rw [evOp_eq] at hv
        obtain ⟨k1, k2⟩ := eop_good hv
        obtain ⟨fr', e1, e2⟩ := putK_spec fr o.dst v (fun fr => runOps lo (callOf ev) os fr h2)
        rw [e1] at he
        obtain ⟨k3, k4⟩ := runOps_sound hs he
        rw [e2] at k3
        exact ⟨.ops_op hw k1 k3, k2.trans k4⟩
      | some q =>
        obtain ⟨f, args⟩ := q
        rw [hc] at he
        obtain ⟨v, h2, hv, he⟩ := ob2_some he
        obtain ⟨k1, k2⟩ := callOf_sound hs hv
        obtain ⟨fr', e1, e2⟩ := putK_spec fr o.dst v (fun fr => runOps lo (callOf ev) os fr h2)
        rw [e1] at he
        obtain ⟨k3, k4⟩ := runOps_sound hs he
        rw [e2] at k3
        exact ⟨.ops_call hw (callOpd_some hc) k1 k3, k2.trans k4⟩
    | false =>
      rw [hw] at he
      simp only [cond_false] at he
      obtain ⟨fr', e1, e2⟩ := putK_spec fr o.dst undef (fun fr => runOps lo (callOf ev) os fr h)
      rw [e1] at he
      obtain ⟨k3, k4⟩ := runOps_sound hs he
      rw [e2] at k3
      exact ⟨.ops_skip hw k3, k4⟩
theorem runOpsD_sound (hs : Sound G lo ev) : ∀ {l : List AOper} {fr fr1 : FF} {h h1 : EH}, runOpsD lo (callOf ev) l fr h = some (fr1, h1) → B G lo (.opsD l fr.get h.ah) (.fr .normal fr1.get h1.ah) ∧ EStep h h1
  | [], fr, fr1, h, h1, he => by cases he; exact ⟨.opsD_nil, .refl _⟩
  | o :: os, fr, fr1, h, h1, he => by
    have he : stepD lo (callOf ev) o fr h (runOpsD lo (callOf ev) os) = some (fr1, h1) := he
    unfold stepD at he
    cases hw : wantedA o.guard fr.get with
    | true =>
      rw [hw] at he
      simp only [cond_true] at he
      cases hc : callOpd o.op with
      | none =>
        rw [hc] at he
        obtain ⟨hd, he⟩ := cond_some he
        obtain ⟨v, h2, hv, he⟩ := ob2_some he
        rw [evOp_eq] at hv
        obtain ⟨k1, k2⟩ := eop_good hv
        obtain ⟨fr', e1, e2⟩ := putK_spec fr o.dst v (fun fr => runOpsD lo (callOf ev) os fr h2)
        rw [e1] at he
        obtain ⟨k3, k4⟩ := runOpsD_sound hs he
        rw [e2] at k3
        simp only [Bool.or_eq_true, Bool.and_eq_true] at hd
        exact ⟨.opsD_op hw k1 (hd.imp id fun h => ⟨h.1, lateB_ok h.2⟩) k3, k2.trans k4⟩
      | some q =>
        obtain ⟨f, args⟩ := q
        rw [hc] at he
        obtain ⟨v, h2, hv, he⟩ := ob2_some he
        obtain ⟨hg, he⟩ := cond_some he
        obtain ⟨k1, k2⟩ := callOf_sound hs hv
        have hlow : (cond (Nat.ble h.low h2.low) ⟨h2.n, h.low, h2.t⟩ ⟨h2.n, h2.low, h2.t⟩ : EH) = ⟨h2.n, Nat.min h.low h2.low, h2.t⟩ := by
          rw [nble, Bool.cond_decide]
          split
          · rename_i hle; rw [show Nat.min h.low h2.low = h.low from Nat.min_eq_left hle]
          · rename_i hle; rw [show Nat.min h.low h2.low = h2.low from Nat.min_eq_right (by omega)]
        rw [hlow] at he
        obtain ⟨fr', e1, e2⟩ := putK_spec fr o.dst v (fun fr => runOpsD lo (callOf ev) os fr ⟨h2.n, Nat.min h.low h2.low, h2.t⟩)
        rw [e1] at he
        obtain ⟨k3, k4⟩ := runOpsD_sound hs he
        rw [e2] at k3
        have k5 : B G lo (.fn (f.ev fr.get) (args.map (·.ev fr.get)) h.ah) (.v v h2.ah) := k1
        have k6 : EStep h ⟨h2.n, Nat.min h.low h2.low, h2.t⟩ := ⟨k2.n, Nat.min_le_left _ _, fun b h3 h4 => k2.keep b h3 (Nat.lt_of_lt_of_le h4 (Nat.min_le_right _ _))⟩
        refine ⟨.opsD_call hw (callOpd_some hc) k5 ?_ k3, k6.trans k4⟩
        simp only [Bool.or_eq_true, Bool.and_eq_true, Nat.ble_eq, List.isEmpty_iff] at hg
        refine hg.imp (fun hg => ⟨?_, fun b hb => ?_⟩) id
        · rw [EH.size_ah, EH.size_ah]; exact k2.n
        · rw [EH.size_ah] at hb
          exact k2.keep b hb (Nat.lt_of_lt_of_le hb hg)
    | false =>
      rw [hw] at he
      simp only [cond_false] at he
      obtain ⟨fr', e1, e2⟩ := putK_spec fr o.dst undef (fun fr => runOpsD lo (callOf ev) os fr h)
      rw [e1] at he
      obtain ⟨k3, k4⟩ := runOpsD_sound hs he
      rw [e2] at k3
      exact ⟨.opsD_skip hw k3, k4⟩
end
end Go.RS

