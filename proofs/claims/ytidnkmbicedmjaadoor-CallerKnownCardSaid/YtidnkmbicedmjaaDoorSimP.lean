/- Code (3): the whole run followed. -/
import Derived.Test.YtidnkmbicedmjaaDoorSimO
namespace Go.RS
open Go

section
variable (P : Program) (lo n0 : Nat)

def CodeSim (c : ACode) (fr : Fr) (h : AH) (e : AExit) (fr1 : Fr) (h1 : AH) : Prop :=
  ∀ (c' : Code) (N : Nat) (ro : Option Nat) (β : Bij) (w : World) (a : Act), lowC P N c' = c → HRel P lo n0 β h w → FRel β fr a.tmps → a.tmps.size = N → LoopAt ro w → ∀ Q : Exit → Act → World → Prop,
    (∀ β1 w1 a1 new, FRel β1 fr1 a1.tmps → a1.tmps.size = N → a1.defers = new ++ a.defers → MarkL w.heap.size w1 new → HRel P lo n0 β1 h1 w1 → Ext lo β h w β1 h1 w1 → Q e.real a1 w1) → c'.wpIn (FW ro) 0 P Q a w
def RoundSim (c : ACode) (fr : Fr) (h : AH) (e : AExit) (fr1 : Fr) (h1 : AH) : Prop :=
  ∃ m : Nat, ∀ (c' : Code) (N : Nat) (ro : Option Nat) (β : Bij) (w : World) (a : Act), lowC P N c' = c → HRel P lo n0 β h w → FRel β fr a.tmps → a.tmps.size = N → LoopAt ro w → ∀ Q : Exit → Act → World → Prop,
    (∀ β1 w1 a1 new, FRel β1 fr1 a1.tmps → a1.tmps.size = N → a1.defers = new ++ a.defers → MarkL w.heap.size w1 new → HRel P lo n0 β1 h1 w1 → Ext lo β h w β1 h1 w1 → Q e.real a1 w1) → Code.roundsIn (FW ro) 0 P c' Q m a w
def FnSim (v : Value) (args : List Value) (h : AH) (v1 : Value) (h1 : AH) : Prop :=
  ∀ (β : Bij) (w : World) (v' : Value) (args' : Array Value), VRel β v v' → LRel β args args'.toList → HRel P lo n0 β h w → ∃ d : Deferred, (Deferred.ofValue v' args').run P w = .ok d w ∧
    ∀ K : Value → World → Prop, (∀ β1 w1 v1', VRel β1 v1 v1' → HRel P lo n0 β1 h1 w1 → Ext lo β h w β1 h1 w1 → K v1' w1) →
      (∃ f as, (invoke d.target d.args).run P w = .ok (.enter f as) w ∧ CallsIn Fence.wide 0 P f as w (retK K)) ∨
      ((∃ l, v = .func (.yield l) #[] #[]) ∧ ∃ l f tm as bd, (invoke d.target d.args).run P w = .ok (.round l f tm as bd) w ∧ RoundIn Fence.wide 0 P l f tm as bd w (retK K))

def Mot : Cfg → Res → Prop
  | .ops l fr h, .fr e fr1 h1 => e = .normal ∧ Tr P lo n0 false l fr h fr1 h1 ∧ h.size ≤ h1.size
  | .opsD l fr h, .fr e fr1 h1 => e = .normal ∧ Tr P lo n0 true l fr h fr1 h1 ∧ h.size ≤ h1.size
  | .code c fr h, .fr e fr1 h1 => CodeSim P lo n0 c fr h e fr1 h1 ∧ h.size ≤ h1.size ∧ ∀ c0, c = .loop c0 → RoundSim P lo n0 c0 fr h e fr1 h1
  | .fn v args h, .v v1 h1 => FnSim P lo n0 v args h v1 h1 ∧ h.size ≤ h1.size
  | _, _ => False
end

section
variable {P : Program} {lo n0 : Nat} {fr fr1 fr2 : Fr} {h h1 h2 : AH}

theorem FnSim.step {f : Opd} {args : List Opd} {v : Value} (hs : FnSim P lo n0 (f.ev fr) (args.map (·.ev fr)) h v h1) : StepSim P lo n0 (.call f args) fr h v h1 := by
  intro o hlo ro β w a fr' R he F hla next Q hnext
  obtain ⟨c, fo, hop, hcal, hf, hargs⟩ := low_call hlo
  have e1 : f.ev fr' = f.ev fr := he f (by simp [AOp.opds])
  have e2 : args.map (·.ev fr') = args.map (·.ev fr) := List.map_congr_left fun x hx => he x (by simp [AOp.opds, hx])
  have r1 : VRel β (f.ev fr) (a.eval fo) := by rw [← e1]; exact opd_rel R F hf
  have r2 : LRel β (args.map (·.ev fr)) (c.args.map a.eval).toList := by rw [← e2, Array.toList_map]; exact list_rel R F hargs
  obtain ⟨d, hd, hK⟩ := hs β w _ _ r1 r2 R
  refine ⟨fun f _ => FW_fn ro f, ?_⟩
  rw [semAt_low hlo]
  have hrun : (execOp a.eval o).run P w = (invoke d.target d.args).run P w := by
    simp only [execOp, hop, resolve, hcal, Sem.run_bind, hd, Result.andThen_ok]
  rw [hrun]
  rcases hK (fun v w => next (a.put o.dst v) w) hnext with ⟨g, as, hi, hc⟩ | ⟨_, l, g, tm, as, bd, hi, hc⟩
  · rw [hi, Oper.uponIn_enter]
    refine ⟨FW_depth ro, (calls_FW hc).mono fun e w2 he => ?_⟩
    cases e with
    | returned v => exact he
    | panicked c => exact he.elim
    | outgrown => exact he.elim
  · rw [hi, Oper.uponIn_round]
    refine ⟨FW_depth ro, (rounds_FW hc).mono fun e w2 he => ?_⟩
    cases e with
    | returned v => exact he
    | panicked c => exact he.elim
    | outgrown => exact he.elim

theorem frel_params {β : Bij} : ∀ (ps : List Nat) (vs : List Value) (vs' : List Value) (fr : Fr) (tm : Array Value), FRel β fr tm → LRel β vs vs' → vs.length = ps.length → (∀ p ∈ ps, p < tm.size) →
    FRel β (setParams fr ps vs) ((ps.zip vs').foldl (fun (tm : Array Value) (x : Nat × Value) => tm.setIfInBounds x.1 x.2) tm) ∧ ((ps.zip vs').foldl (fun (tm : Array Value) (x : Nat × Value) => tm.setIfInBounds x.1 x.2) tm).size = tm.size
  | [], vs, vs', fr, tm, hF, _, _, _ => by cases vs <;> exact ⟨hF, rfl⟩
  | p :: ps, [], vs', fr, tm, hF, _, hl, _ => by simp at hl
  | p :: ps, v :: vs, [], fr, tm, hF, hr, hl, _ => by have := hr.1; simp at this
  | p :: ps, v :: vs, v' :: vs', fr, tm, hF, hr, hl, hb => by
    have h1 := hF.set (hb p (by simp)) hr.head
    have := frel_params ps vs vs' (upd fr p v) (tm.setIfInBounds p v') h1 hr.tail (by simpa using hl) (fun q hq => by simpa using hb q (by simp [hq]))
    simpa [setParams] using this

theorem frel_args {β : Bij} {vs : List Value} {vs' : Array Value} (h : LRel β vs vs'.toList) (k : Nat) : FRel β (argsFr vs) (vs' ++ Array.replicate k undef) := by
  intro i
  unfold argsFr
  have hlen : vs.length = vs'.size := by simpa using h.1
  rw [Array.getD_eq_getD_getElem?, List.getD_eq_getElem?_getD]
  by_cases hi : i < vs.length
  · rw [Array.getElem?_append_left (by omega), List.getElem?_eq_getElem hi, Array.getElem?_eq_getElem (by omega)]
    exact h.2 i _ _ (List.getElem?_eq_getElem hi) (by rw [Array.getElem?_toList, Array.getElem?_eq_getElem (by omega)]; rfl)
  · rw [List.getElem?_eq_none (by omega), Array.getElem?_append_right (by omega), Array.getElem?_replicate]
    simp only [Option.getD_none]
    split <;> exact .undef β

theorem CodeSim.then {c1 : ACode} {c1' : Code} {N : Nat} {ro : Option Nat} {β : Bij} {w : World} {a : Act} {e : AExit} {Q Q' : Exit → Act → World → Prop} (hs : CodeSim P lo n0 c1 fr h .normal fr1 h1) (hc : lowC P N c1' = c1)
    (R : HRel P lo n0 β h w) (F : FRel β fr a.tmps) (hN : a.tmps.size = N) (hla : LoopAt ro w)
    (hQ : ∀ β1 w1 a1 new, FRel β1 fr2 a1.tmps → a1.tmps.size = N → a1.defers = new ++ a.defers → MarkL w.heap.size w1 new → HRel P lo n0 β1 h2 w1 → Ext lo β h w β1 h2 w1 → Q e.real a1 w1)
    (hnext : ∀ β1 w1 a1, HRel P lo n0 β1 h1 w1 → FRel β1 fr1 a1.tmps → a1.tmps.size = N → LoopAt ro w1 →
      (∀ β2 w2 a2 new, FRel β2 fr2 a2.tmps → a2.tmps.size = N → a2.defers = new ++ a1.defers → MarkL w1.heap.size w2 new → HRel P lo n0 β2 h2 w2 → Ext lo β1 h1 w1 β2 h2 w2 → Q e.real a2 w2) → Q' .normal a1 w1) :
    c1'.wpIn (FW ro) 0 P Q' a w := by
  refine hs c1' N ro β w a hc R F hN hla _ fun β1 w1 a1 new F1 N1 D1 M1 R1 E1 => ?_
  refine hnext β1 w1 a1 R1 F1 N1 (hla.ext E1) fun β2 w2 a2 new2 F2 N2 D2 M2 R2 E2 => ?_
  exact hQ β2 w2 a2 (new2 ++ new) F2 N2 (by rw [D2, D1, List.append_assoc]) ((M1.ext R1 E2).append M2 E1.ws (M1.lt)) R2 (E1.trans E2)

def tailQ (ro : Option Nat) (P : Program) (Q : Exit → Act → World → Prop) (a : Act) (w : World) : Option Code → Prop
  | none => Q .normal a w
  | some c => c.wpIn (FW ro) 0 P Q a w
theorem real_jump {L : ALoop} {x : Option Code} {ro : Option Nat} {a : Act} {w : World} {Q : Exit → Act → World → Prop} (hj : JRel L.pending x) (hQ : Q (pendExit L.pending).real a w) :
    tailQ ro P Q a w x := by
  cases hp : L.pending with
  | none =>
    rw [hp] at hj hQ
    cases x with
    | none => exact hQ
    | some c => cases c <;> exact hj.elim
  | some j =>
    rw [hp] at hj hQ
    cases x with
    | none => cases j <;> exact hj.elim
    | some c =>
      cases j with
      | exit id =>
        cases c <;> try (exact hj.elim)
        simp only [JRel] at hj
        subst hj
        exact wpIn_exit hQ
      | ret =>
        cases c <;> try (exact hj.elim)
        exact wpIn_ret hQ

theorem low_fn {f : Nat} {A : AFn} (hf : lowFn P f = some A) : ∃ fn c, P.funcs[f]? = some fn ∧ fn.body = some c ∧ fn.results.toList.mapM (lowRes P) = some A.results ∧ fn.ntmps = A.ntmps ∧ lowC P fn.ntmps c = A.body ∧ (fn.name == "runtime.NumGoroutine") = false := by
  simp only [lowFn, Option.bind_eq_bind, Option.bind_eq_some_iff] at hf
  obtain ⟨fn, h1, c, h2, rs, h3, hf⟩ := hf
  split at hf
  · cases hf
  · rename_i hn
    cases hf
    exact ⟨fn, c, h1, h2, h3, rfl, rfl, by simpa using hn⟩

theorem endRound_jump (e : AExit) : ∃ jump : Option Code, JRel e.jump jump ∧ jump.isNone = e.goesOn ∧ (if jump.isNone then LoopState.ready else LoopState.done) = e.stateAfter ∧
    ∀ (P : Program) (l : Nat) (R : Ending → World → Prop) (a : Act) (w : World), (∃ v w', (Instr.endRound l jump).run P w = .ok v w' ∧ R (.returned v) w') → roundPost P l R e.real a w := by
  cases e with
  | normal => exact ⟨none, trivial, rfl, rfl, fun _ _ _ _ _ h => h⟩
  | exit id => exact ⟨some (.exit id), rfl, rfl, rfl, fun _ _ _ _ _ h => h⟩
  | ret => exact ⟨some .ret, trivial, rfl, rfl, fun _ _ _ _ _ h => h⟩
end

section
variable {P : Program} {lo n0 : Nat} {G : Env}

theorem Less.junk {h h' : AH} (hk : Less h h') {b : Nat} (hb : h[b]? = some .junk) : h'[b]? = some .junk := by
  rcases hk.2 b with h1 | h1
  · rw [h1]; exact hb
  · exact h1.2
theorem Less.not {h h' : AH} (hk : Less h h') {b : Nat} (hb : h'[b]? ≠ some .junk) : h[b]? = h'[b]? := by
  rcases hk.2 b with h1 | h1
  · exact h1.symm
  · exact absurd h1.2 hb
theorem HRel.less {β : Bij} {h h' : AH} {w : World} (R : HRel P lo n0 β h w) (hk : Less h h') : HRel P lo n0 β h' w := by
  refine ⟨fun b r d hb => ?_, fun b r d o hb ho => ?_, R.img, R.low, fun b b' r d d' hl hl' hb hb' hj hj' => R.inj b b' r d d' hl hl' hb hb' (by rw [hk.not hj]; exact hj) (by rw [hk.not hj']; exact hj'), R.glob, by rw [hk.1]; exact R.los, R.n0s⟩
  · rw [hk.1]; exact R.dom b r d hb
  · rcases hk.2 b with h1 | h1
    · rw [h1] at ho; exact R.obj b r d o hb ho
    · rw [h1.2] at ho; cases ho; trivial
theorem Ext.less {β β1 : Bij} {h h' h1 : AH} {w w1 : World} (E : Ext lo β h' w β1 h1 w1) (hk : Less h h') : Ext lo β h w β1 h1 w1 := by
  refine ⟨fun b hb => E.agree b (by rw [hk.1]; exact hb), by rw [← hk.1]; exact E.hs, E.ws, fun b x hx hb => E.junk b x hx (hk.junk hb), fun r hr hj => E.keep r hr fun b d hl hb => hk.junk (hj b d hl hb), fun b r d hb hx => ?_, E.lps, E.env⟩
  rcases E.fresh b r d (by rw [hk.1]; exact hb) hx with h2 | ⟨b0, d0, hl0, h3, h4⟩
  · exact .inl h2
  · exact .inr ⟨b0, d0, hl0, h3, by rw [hk.not h4]; exact h4⟩

/-- **THE SIMULATION.** -/
theorem sim (hG : ∀ f A, G.fn f = some A → lowFn P f = some A) (hO : ∀ f args v h, G.pure f args v h → FnSim P lo n0 (.func (.func f) #[] #[]) args h v h) (hmix : P.follows .mixedOrders = true) {c : Cfg} {r : Res} (hb : B G lo c r) : Mot P lo n0 c r := by
  induction hb with
  | ops_nil => exact ⟨rfl, .nil, Nat.le_refl _⟩
  | @ops_skip o os fr h r hw _ ih =>
    cases r with
    | v v h => exact ih.elim
    | fr e fr1 h1 => exact ⟨ih.1, .skip hw ih.2.1, ih.2.2⟩
  | @ops_op o os fr h v h1 r hw ho _ ih =>
    cases r with
    | v v h => exact ih.elim
    | fr e fr1 h2 => exact ⟨ih.1, .step hw (.of_op ho) (.inr ho) (fun hx => by cases hx) (aop_size ho) ih.2.1, Nat.le_trans (aop_size ho) ih.2.2⟩
  | @ops_call o os fr h f args v h1 r hw he _ _ ihc ih =>
    cases r with
    | v v h => exact ih.elim
    | fr e fr1 h2 => exact ⟨ih.1, .step hw (by rw [he]; exact ihc.1.step) (.inl ⟨f, args, he⟩) (fun hx => by cases hx) ihc.2 ih.2.1, Nat.le_trans ihc.2 ih.2.2⟩
  | opsD_nil => exact ⟨rfl, .nil, Nat.le_refl _⟩
  | @opsD_skip o os fr h r hw _ ih =>
    cases r with
    | v v h => exact ih.elim
    | fr e fr1 h1 => exact ⟨ih.1, .skip hw ih.2.1, ih.2.2⟩
  | @opsD_op o os fr h v h1 r hw ho hd _ ih =>
    cases r with
    | v v h => exact ih.elim
    | fr e fr1 h2 => exact ⟨ih.1, .step hw (.of_op ho) (.inr ho) (fun _ => hd.imp id .inr) (aop_size ho) ih.2.1, Nat.le_trans (aop_size ho) ih.2.2⟩
  | @opsD_call o os fr h f args v h1 r hw he _ hd _ ihc ih =>
    cases r with
    | v v h => exact ih.elim
    | fr e fr1 h2 =>
      refine ⟨ih.1, .step hw (by rw [he]; exact ihc.1.step) (.inl ⟨f, args, he⟩) (fun _ => ?_) ihc.2 ih.2.1, Nat.le_trans ihc.2 ih.2.2⟩
      rcases hd with hd | hd
      · exact .inr (.inl hd)
      · refine .inr (.inr ⟨hd.1, ?_⟩)
        unfold lateOk
        rw [he]
        exact hd.2
  | @skip fr h =>
    refine ⟨fun c' N ro β w a hc R F hN hla Q hQ => ?_, Nat.le_refl _, fun c0 h0 => by cases h0⟩
    have := hQ β w a [] F hN rfl (.nil _ _) R (.refl R)
    rcases low_skip hc with rfl | ⟨l, rfl⟩
    · exact wpIn_skip this
    · exact wpIn_label this
  | @region ops fr h r _ ih =>
    cases r with
    | v v h => exact ih.elim
    | fr e fr1 h1 =>
      obtain ⟨rfl, hT, hsz⟩ := ih
      refine ⟨fun c' N ro β w a hc R F hN hla Q hQ => ?_, hsz, fun c0 h0 => by cases h0⟩
      obtain ⟨id, os, rfl, rfl⟩ := low_region hc
      refine wpIn_region ?_
      have := region_text (ops := os) (ro := ro) (N := N) 0 hT (by simp) (Nat.zero_le _) R F hN hla Q (fun β1 w1 a1 F1 N1 D1 R1 E1 => hQ β1 w1 a1 [] F1 N1 (by simpa using D1) (.nil _ _) R1 E1)
      rw [List.range_eq_range']
      simpa using this
  | @regionD ops fr h r _ ih =>
    cases r with
    | v v h => exact ih.elim
    | fr e fr1 h1 =>
      obtain ⟨rfl, hT, hsz⟩ := ih
      refine ⟨fun c' N ro β w a hc R F hN hla Q hQ => ?_, hsz, fun c0 h0 => by cases h0⟩
      obtain ⟨id, os, rfl, rfl⟩ := low_region hc
      exact region_drawn hmix hT R F hN hla (fun β1 w1 a1 F1 N1 D1 R1 E1 => hQ β1 w1 a1 [] F1 N1 (by simpa using D1) (.nil _ _) R1 E1)
  | @seq x y fr h fr1 h1 r _ _ iha ihb =>
    cases r with
    | v v h => exact ihb.elim
    | fr e fr2 h2 =>
      refine ⟨fun c' N ro β w a hc R F hN hla Q hQ => ?_, Nat.le_trans iha.2.1 ihb.2.1, fun c0 h0 => by cases h0⟩
      obtain ⟨x', y', rfl, hx, hy⟩ := low_seq hc
      refine wpIn_seq (iha.1.then hx R F hN hla hQ fun β1 w1 a1 R1 F1 N1 la1 hQ1 => ?_)
      exact ihb.1 y' N ro β1 w1 a1 hy R1 F1 N1 la1 Q hQ1
  | @seq_out x y fr h e fr1 h1 _ he iha =>
    refine ⟨fun c' N ro β w a hc R F hN hla Q hQ => ?_, iha.2.1, fun c0 h0 => by cases h0⟩
    obtain ⟨x', y', rfl, hx, hy⟩ := low_seq hc
    refine wpIn_seq (iha.1 x' N ro β w a hx R F hN hla _ fun β1 w1 a1 new F1 N1 D1 M1 R1 E1 => ?_)
    have := hQ β1 w1 a1 new F1 N1 D1 M1 R1 E1
    cases e with
    | normal => exact absurd rfl he
    | exit id => exact this
    | ret => exact this
  | @cond_t c x y fr h r hc0 _ ih =>
    cases r with
    | v v h => exact ih.elim
    | fr e fr1 h1 =>
      refine ⟨fun c' N ro β w a hc R F hN hla Q hQ => ?_, ih.2.1, fun c0 h0 => by cases h0⟩
      obtain ⟨co, x', y', rfl, hco, hx, hy⟩ := low_cond hc
      have hv := opd_rel R F hco
      rw [hc0] at hv
      exact wpIn_cond_true hv.bool_inv (ih.1 x' N ro β w a hx R F hN hla Q hQ)
  | @cond_f c x y fr h r hc0 _ ih =>
    cases r with
    | v v h => exact ih.elim
    | fr e fr1 h1 =>
      refine ⟨fun c' N ro β w a hc R F hN hla Q hQ => ?_, ih.2.1, fun c0 h0 => by cases h0⟩
      obtain ⟨co, x', y', rfl, hco, hx, hy⟩ := low_cond hc
      have hv := opd_rel R F hco
      rw [hc0] at hv
      exact wpIn_cond_false hv.bool_inv (ih.1 y' N ro β w a hy R F hN hla Q hQ)
  | @block id c fr h e fr1 h1 _ ih =>
    refine ⟨fun c' N ro β w a hc R F hN hla Q hQ => ?_, ih.2.1, fun c0 h0 => by cases h0⟩
    obtain ⟨x', rfl, hx⟩ := low_block hc
    refine wpIn_block (ih.1 x' N ro β w a hx R F hN hla _ fun β1 w1 a1 new F1 N1 D1 M1 R1 E1 => ?_)
    have := hQ β1 w1 a1 new F1 N1 D1 M1 R1 E1
    cases e with
    | normal => exact this
    | ret => exact this
    | exit i =>
      by_cases hi : i = id
      · simpa [AExit.leave, AExit.real, Exit.inBlock, hi] using this
      · simpa [AExit.leave, AExit.real, Exit.inBlock, hi] using this
  | @loop c fr h fr1 h1 r _ _ iha ihb =>
    cases r with
    | v v h => exact ihb.elim
    | fr e fr2 h2 =>
      obtain ⟨m, hm⟩ := ihb.2.2 c rfl
      have hR : RoundSim P lo n0 c fr h e fr2 h2 := ⟨m + 1, fun c' N ro β w a hc R F hN hla Q hQ => by
        rw [roundsIn_succ]
        exact iha.1.then hc R F hN hla hQ fun β1 w1 a1 R1 F1 N1 la1 hQ1 => hm c' N ro β1 w1 a1 hc R1 F1 N1 la1 Q hQ1⟩
      refine ⟨fun c' N ro β w a hc R F hN hla Q hQ => ?_, Nat.le_trans iha.2.1 ihb.2.1, fun c0 h0 => by cases h0; exact hR⟩
      obtain ⟨x', rfl, hx⟩ := low_loop hc
      obtain ⟨m', hm'⟩ := hR
      exact wpIn_loop_rounds m' (hm' x' N ro β w a hx R F hN hla Q hQ)
  | @loop_out c fr h e fr1 h1 _ he iha =>
    have hR : RoundSim P lo n0 c fr h e fr1 h1 := ⟨1, fun c' N ro β w a hc R F hN hla Q hQ => by
      rw [roundsIn_succ]
      refine iha.1 c' N ro β w a hc R F hN hla _ fun β1 w1 a1 new F1 N1 D1 M1 R1 E1 => ?_
      have := hQ β1 w1 a1 new F1 N1 D1 M1 R1 E1
      cases e with
      | normal => exact absurd rfl he
      | exit id => exact this
      | ret => exact this⟩
    refine ⟨fun c' N ro β w a hc R F hN hla Q hQ => ?_, iha.2.1, fun c0 h0 => by cases h0; exact hR⟩
    obtain ⟨x', rfl, hx⟩ := low_loop hc
    obtain ⟨m', hm'⟩ := hR
    exact wpIn_loop_rounds m' (hm' x' N ro β w a hx R F hN hla Q hQ)
  | @exit id fr h =>
    refine ⟨fun c' N ro β w a hc R F hN hla Q hQ => ?_, Nat.le_refl _, fun c0 h0 => by cases h0⟩
    have := hQ β w a [] F hN rfl (.nil _ _) R (.refl R)
    rw [low_exit hc]
    exact wpIn_exit this
  | @ret fr h =>
    refine ⟨fun c' N ro β w a hc R F hN hla Q hQ => ?_, Nat.le_refl _, fun c0 h0 => by cases h0⟩
    have := hQ β w a [] F hN rfl (.nil _ _) R (.refl R)
    rw [low_ret hc]
    exact wpIn_ret this
  | @scope c fr h r _ ih =>
    cases r with
    | v v h => exact ih.elim
    | fr e fr1 h1 =>
      refine ⟨fun c' N ro β w a hc R F hN hla Q hQ => ?_, ih.2.1, fun c0 h0 => by cases h0⟩
      obtain ⟨x', rfl, hx⟩ := low_scope hc
      refine wpIn_scope (ih.1 x' N ro β w a hx R F hN hla _ fun β1 w1 a1 new F1 N1 D1 M1 R1 E1 => ?_)
      have := hQ β1 w1 a1 new F1 N1 D1 M1 R1 E1
      cases e with
      | normal => exact this
      | exit id => exact this
      | ret => exact this
  | @rangeFunc f ps assign body fr h g first cap v h2 L hf _ hl hs ih =>
    have hsz : h.size + 1 ≤ h2.size := by have := ih.2; simpa using this
    refine ⟨fun c' N ro β w a hc R F hN hla Q hQ => ?_, by simp; omega, fun c0 h0 => by cases h0⟩
    obtain ⟨fo, pa, x', y', rfl, hfo, hpa, hpb, hx, hy⟩ := low_rangeFunc hc
    refine wpIn_rangeFunc fun fn hfn => ?_
    have hround : (FW ro).round = ro := FW_round ro
    rw [← hN] at hpb hx hy
    obtain ⟨l, mark, w1, hen, hmark, R1, E1⟩ := enter_rel R F hla fn hpa hpb hx hy
    have hv := opd_rel R F hfo
    rw [hf] at hv
    have hle1 := E1.le R
    have hβl : bset β h.size (l, (0, 0)) h.size = some (l, (0, 0)) := bset_same _ _ _
    obtain ⟨d, hd, hK⟩ := ih.1 _ w1 (a.eval fo) #[.func (.yield l) #[] #[]] (hv.mono hle1)
      (by
        show LRel _ [_] [_]
        exact .cons (.func (.yield hβl) rfl (fun i v v' h => by simp at h) rfl (fun i v v' h => by simp at h)) (.nil _)) R1
    have hK := hK (fun u w3 => rangePost (FW ro) 0 P l Q { a with defers := mark ++ a.defers } (.returned u) w3) (fun β2 w2 u hu R2 E2 => by
      have hb2 : bset β h.size (l, (0, 0)) h.size = some (l, (0, 0)) := hβl
      have hb3 := E2.agree h.size (by simp)
      rw [hb2] at hb3
      obtain ⟨_, L', hL', hLR⟩ := R2.obj _ _ _ _ hb3 hl
      have hst : L'.state ≠ .busy := by rw [hLR.st]; exact hs
      have hlo : lo ≤ h.size := R.los
      obtain ⟨R3, E3⟩ := R2.set hlo hb3 (by rw [hl]; simp) (.loop { L with state := .exhausted }) (.loop { L' with state := .exhausted })
        ⟨rfl, _, rfl, ⟨hLR.fr, hLR.ps, hLR.pb, hLR.a, hLR.b, rfl, hLR.pj⟩⟩ (by simp) (fun _ _ => ⟨_, rfl⟩)
      refine ⟨L'.pending, _, run_endLoop hL' hst, real_jump hLR.pj ?_⟩
      have E12 := E1.trans E2
      have E13 := E12.trans E3
      exact hQ β2 _ { a with defers := mark ++ a.defers } mark (F.mono (E13.le R)) hN rfl ((hmark.ext R1 E2).ext R2 E3) R3 E13)
    rcases hK with ⟨q, as, hi, hcall⟩ | ⟨⟨l', hl'⟩, _⟩
    · refine ⟨l, mark, w1, d, w1, q, as, w1, ?_, ?_, fun f' _ => FW_fn ro f', hi, FW_depth ro, (calls_FW hcall).mono fun e w3 he => ?_⟩
      · rw [hround]; exact hen
      · simpa [resolve, rangeCall, Act.eval] using hd
      · cases e with
        | returned v => exact he
        | panicked c => exact he.elim
        | outgrown => exact he.elim
    · cases hl'
  | @weak c fr h h' r hk _ ih =>
    cases r with
    | v v h => exact ih.elim
    | fr e fr1 h1 =>
      have key : ∀ {β : Bij} {w : World}, HRel P lo n0 β h w → HRel P lo n0 β h' w := fun R => R.less hk
      refine ⟨fun c' N ro β w a hc R F hN hla Q hQ => ?_, by rw [← hk.1]; exact ih.2.1, fun c0 h0 => ?_⟩
      · exact ih.1 c' N ro β w a hc (key R) F hN hla Q fun β1 w1 a1 new F1 N1 D1 M1 R1 E1 => hQ β1 w1 a1 new F1 N1 D1 M1 R1 (E1.less hk)
      · obtain ⟨m, hm⟩ := ih.2.2 c0 h0
        exact ⟨m, fun c' N ro β w a hc R F hN hla Q hQ => hm c' N ro β w a hc (key R) F hN hla Q fun β1 w1 a1 new F1 N1 D1 M1 R1 E1 => hQ β1 w1 a1 new F1 N1 D1 M1 R1 (E1.less hk)⟩
  | @fn_pure f args v h hp => exact ⟨hO f args v h hp, Nat.le_refl _⟩
  | @fn_func f first cap args h A e fr1 h1 v hGf _ hn he hr ih =>
    refine ⟨fun β w v' args' hv hargs R => ?_, ih.2.1⟩
    obtain ⟨fn, c, hfn, hbody, hres, hnt, hlow, hname⟩ := low_fn (hG _ _ hGf)
    cases hv with
    | @func _ f' _ x' _ c' hfr s1 k1 s2 k2 =>
      cases hfr with
      | func =>
        refine ⟨_, rfl, fun K hK => .inl ⟨f, x' ++ args' ++ c', ?_, ?_⟩⟩
        · simp only [invoke, callFunc]
          have hname' : fn.name ≠ "runtime.NumGoroutine" := by simpa using hname
          simp [hfn, hname', hbody]
        · have hL : LRel β (first.toList ++ args ++ cap.toList) (x' ++ args' ++ c').toList := by
            simp only [Array.toList_append]
            exact ((arr_rel s1 k1).append hargs).append (arr_rel s2 k2)
          have hsz : (x' ++ args' ++ c').size = (first.toList ++ args ++ cap.toList).length := by rw [hL.1]; simp
          refine callsIn_of_wp_marks hfn hbody trivial ?_
          refine ih.1 c fn.ntmps none β w _ (by rw [hlow]) R (frel_args hL _) (by simp only [Array.size_append, Array.size_replicate] at hsz ⊢; omega) (fun l hl => by cases hl) _ fun β1 w1 a1 new F1 N1 D1 M1 R1 E1 => ?_
          have key : LeavesInM Fence.wide 0 P fn a1.tmps (retK K) a1.defers .returning w1 := by
            obtain ⟨rs, rfl, h3, h4⟩ := M1
            rw [D1, List.append_nil]
            exact leaves F1 hres hr (fun w2 u hu R2 E2 => hK β1 w2 u hu R2 E2) rs w1 R1 E1 h3 h4
          rcases he with rfl | rfl
          · exact key
          · exact key
  | @fn_yield l args h L fr1 h1 L1 e fr2 h2 L2 hlo hl hn _ hl1 hs _ hl2 iha ihb =>
    refine ⟨fun β w v' args' hv hargs R => ?_, by have h3 := iha.2.1; have h4 := ihb.2.1; simp at h4 ⊢; omega⟩
    cases hv with
    | @func _ f' _ x' _ c' hfr s1 k1 s2 k2 =>
      cases hfr with
      | @yield _ l' hβ =>
        have hx' : x' = #[] := Array.eq_empty_of_size_eq_zero (by rw [← s1]; rfl)
        have hc' : c' = #[] := Array.eq_empty_of_size_eq_zero (by rw [← s2]; rfl)
        subst hx'; subst hc'
        obtain ⟨_, L', hL', hLR⟩ := R.obj _ _ _ _ hβ hl
        have hlen : args'.size = L'.params.size := by
          have h5 := hargs.1
          have h6 := congrArg List.length hLR.ps
          simp at h5 h6; omega
        refine ⟨_, rfl, fun K hK => .inr ⟨⟨l, rfl⟩, l', L'.fn, (L'.params.zip args').foldl (fun tmps (t, a) => tmps.setIfInBounds t a) L'.tmps, L'.assign, L'.body, ?_, ?_⟩⟩
        · simp only [invoke, Array.empty_append]
          exact run_yield hL' hlen
        · obtain ⟨Fp, Np⟩ := frel_params L.params args args'.toList L.fr L'.tmps hLR.fr hargs hn hLR.pb
          have hfold : (L'.params.zip args').foldl (fun tmps (t, a) => tmps.setIfInBounds t a) L'.tmps = (L.params.zip args'.toList).foldl (fun (tm : Array Value) (x : Nat × Value) => tm.setIfInBounds x.1 x.2) L'.tmps := by
            rw [← Array.foldl_toList, Array.toList_zip, hLR.ps]
          rw [hfold]
          refine roundIn_of_wpIn (F := Fence.wide) trivial ?_
          have hla : LoopAt (some l') w := fun l0 h0 => by cases h0; exact ⟨L', hL'⟩
          refine iha.1 L'.assign L'.tmps.size (some l') β w _ hLR.a R Fp Np hla _ fun β1 w1 a1 new F1 N1 D1 M1 R1 E1 => ?_
          have hβ1 : β1 l = some (l', (0, 0)) := by rw [E1.agree l (Array.getElem?_eq_some_iff.1 hl).1]; exact hβ
          obtain ⟨_, L1', hL1', hLR1⟩ := R1.obj _ _ _ _ hβ1 hl1
          have hj1 : h1[l]? ≠ some .junk := by rw [hl1]; simp
          obtain ⟨R2, E2⟩ := R1.set hlo hβ1 hj1 (.loop { L1 with state := .busy }) (.loop { L1' with state := .busy })
            ⟨rfl, _, rfl, ⟨hLR1.fr, hLR1.ps, hLR1.pb, hLR1.a, hLR1.b, rfl, hLR1.pj⟩⟩ (by simp) (fun _ _ => ⟨_, rfl⟩)
          refine ⟨_, run_beginRound hL1' (by rw [hLR1.st]; exact hs), ?_⟩
          have hla2 : LoopAt (some l') (w1.putObj l' (.loop { L1' with state := .busy })) := (hla.ext E1).ext E2
          refine ihb.1 L'.body L'.tmps.size (some l') β1 _ a1 hLR.b R2 F1 N1 hla2 _ fun β2 w2 a2 new2 F2 N2 D2 M2 R3 E3 => ?_
          have hls : l < (h1.setIfInBounds l (.loop { L1 with state := .busy })).size := by
            have := (Array.getElem?_eq_some_iff.1 hl1).1; simpa using this
          have hβ2 : β2 l = some (l', (0, 0)) := by rw [E3.agree l hls]; exact hβ1
          obtain ⟨_, L2', hL2', hLR2⟩ := R3.obj _ _ _ _ hβ2 hl2
          have hj2 : h2[l]? ≠ some .junk := by rw [hl2]; simp
          obtain ⟨jump, hj, hgo, hsa, hpost⟩ := endRound_jump e
          obtain ⟨R4, E4⟩ := R3.set hlo hβ2 hj2 (.loop { L2 with state := e.stateAfter, pending := e.jump }) (.loop { L2' with state := if jump.isNone then .ready else .done, pending := jump })
            ⟨rfl, _, rfl, ⟨hLR2.fr, hLR2.ps, hLR2.pb, hLR2.a, hLR2.b, hsa, hj⟩⟩ (by simp) (fun _ _ => ⟨_, rfl⟩)
          refine hpost _ _ _ _ _ ⟨_, _, run_endRound jump hL2', ?_⟩
          exact hK β2 _ _ (by rw [hgo]; exact .bool _) R4 (((E1.trans E2).trans E3).trans E4)
end
end Go.RS
