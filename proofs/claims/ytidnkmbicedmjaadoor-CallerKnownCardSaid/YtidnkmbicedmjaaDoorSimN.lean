/- One operation of a region, whatever the frame's other slots hold; regions in the order of the text. -/
import Derived.Test.YtidnkmbicedmjaaDoorSimM
namespace Go.RS
open Go

theorem map_ev {ps : List (Nat × Nat × Opd)} {fr fr' : Fr} (h : ∀ x ∈ ps.map (·.2.2), x.ev fr = x.ev fr') : (ps.map fun p => (p.1, p.2.1, p.2.2.ev fr)) = ps.map fun p => (p.1, p.2.1, p.2.2.ev fr') := by
  apply List.map_congr_left
  intro p hp
  rw [h p.2.2 (List.mem_map.2 ⟨p, hp, rfl⟩)]
theorem opt_ev {x : Option Opd} {fr fr' : Fr} (h : ∀ y ∈ x.toList, y.ev fr = y.ev fr') : x.map (·.ev fr) = x.map (·.ev fr') := by
  cases x with
  | none => rfl
  | some y => simp [h y (by simp)]
theorem fold_ev {mx : Bool} {fr fr' : Fr} : ∀ {r : List Opd} {v : Value}, (∀ y ∈ r, y.ev fr = y.ev fr') → r.foldlM (fun a y => minmax2 mx a (y.ev fr)) v = r.foldlM (fun a y => minmax2 mx a (y.ev fr')) v
  | [], v, _ => rfl
  | y :: r, v, h => by
    rw [List.foldlM_cons, List.foldlM_cons, h y (by simp)]
    congr 1
    funext z
    exact fold_ev (fun u hu => h u (by simp [hu]))
theorem aop_congr {lo : Nat} {op : AOp} {fr fr' : Fr} (h : AH) (he : ∀ x ∈ op.opds, x.ev fr = x.ev fr') : aop lo op fr h = aop lo op fr' h := by
  cases op <;> simp only [AOp.opds, List.mem_cons, List.not_mem_nil, or_false, forall_eq_or_imp, forall_eq] at he
  case build z ps => simp only [aop, map_ev he]
  case buildSlice n z ps => simp only [aop, map_ev he]
  case load agg x => cases agg <;> simp only [aop, he]
  case makeFunc fn f c =>
    have e1 : f.map (·.ev fr) = f.map (·.ev fr') := List.map_congr_left fun x hx => he x (by simp [hx])
    have e2 : c.map (·.ev fr) = c.map (·.ev fr') := List.map_congr_left fun x hx => he x (by simp [hx])
    simp only [aop, e1, e2]
  case sliceS e x l hh m =>
    have e1 := opt_ev (x := l) (fr := fr) (fr' := fr') fun y hy => he.2 y (by simp only [List.mem_append]; exact .inl (.inl hy))
    have e2 := opt_ev (x := hh) (fr := fr) (fr' := fr') fun y hy => he.2 y (by simp only [List.mem_append]; exact .inl (.inr hy))
    have e3 := opt_ev (x := m) (fr := fr) (fr' := fr') fun y hy => he.2 y (by simp only [List.mem_append]; exact .inr hy)
    simp only [aop, he.1, e1, e2, e3]
  case sliceA n e x l hh m =>
    have e1 := opt_ev (x := l) (fr := fr) (fr' := fr') fun y hy => he.2 y (by simp only [List.mem_append]; exact .inl (.inl hy))
    have e2 := opt_ev (x := hh) (fr := fr) (fr' := fr') fun y hy => he.2 y (by simp only [List.mem_append]; exact .inl (.inr hy))
    have e3 := opt_ev (x := m) (fr := fr) (fr' := fr') fun y hy => he.2 y (by simp only [List.mem_append]; exact .inr hy)
    simp only [aop, he.1, e1, e2, e3]
  case minmax mx x r => simp only [aop, he.1, fold_ev (mx := mx) he.2]
  case len s x => cases s <;> simp only [aop, he]
  all_goals first
    | (simp only [aop]; done)
    | (simp only [aop, he]; done)
    | rfl

abbrev FW : Option Nat → Fence
  | none => Fence.wide
  | some l => Fence.wide.inRound l
theorem FW_fn (ro : Option Nat) (f : FuncId) : (FW ro).fn f := by cases ro <;> trivial
theorem FW_depth (ro : Option Nat) : (FW ro).depth.isSome = true → 1 ≤ 0 := by cases ro <;> intro h <;> cases h
theorem FW_round (ro : Option Nat) : (FW ro).round = ro := by cases ro <;> rfl

section
variable {P : Program} {lo n0 : Nat} {β : Bij} {h h1 : AH} {w : World} {fr : Fr} {a : Act}

def LoopAt (ro : Option Nat) (w : World) : Prop := ∀ l, ro = some l → ∃ L : Loop, w.heap[l]? = some (.loop L)
theorem LoopAt.ext {ro : Option Nat} {β1 : Bij} {w1 : World} (hl : LoopAt ro w) (e : Ext lo β h w β1 h1 w1) : LoopAt ro w1 := fun l hr => by
  obtain ⟨L, hL⟩ := hl l hr
  exact e.lps l L hL

/-- What following one operation gives, in whatever frame agrees on its operands. -/
def StepSim (P : Program) (lo n0 : Nat) (op : AOp) (fr : Fr) (h : AH) (v : Value) (h1 : AH) : Prop :=
  ∀ (o : Oper), lowOp P o.op = some op → ∀ (ro : Option Nat) (β : Bij) (w : World) (a : Act) (fr' : Fr), HRel P lo n0 β h w → (∀ x ∈ op.opds, x.ev fr' = x.ev fr) → FRel β fr' a.tmps → LoopAt ro w →
    ∀ (next : Act → World → Prop) (Q : Exit → Act → World → Prop), (∀ β1 w1 v', VRel β1 v v' → HRel P lo n0 β1 h1 w1 → Ext lo β h w β1 h1 w1 → next (a.put o.dst v') w1) → o.wpIn (FW ro) 0 P a w next Q

theorem semAt_low {o : Oper} {op : AOp} (hl : lowOp P o.op = some op) (ro : Option Nat) (ρ : Operand → Value) : o.semAt ro ρ = execOp ρ o := by
  cases ro with
  | none => rfl
  | some l =>
    unfold Oper.semAt
    split
    · rename_i c hd
      rw [hd] at hl; simp [lowOp] at hl
    · rfl
theorem StepSim.of_op {op : AOp} {v : Value} (hv : aop lo op fr h = some (v, h1)) : StepSim P lo n0 op fr h v h1 := by
  intro o hl ro β w a fr' R he F hlp next Q hnext
  refine ⟨fun f _ => FW_fn ro f, ?_⟩
  rw [semAt_low hl]
  rw [← aop_congr h he] at hv
  obtain ⟨β1, w1, v', nx, hr, hnx, hvv, hR, hE⟩ := op_sim R F hl hv
  rw [hr]
  rcases hnx with rfl | ⟨rfl, rfl⟩
  · exact hnext β1 w1 v' hvv hR hE
  · exact hnext β1 w1 undef hvv hR hE

/-- A run of a list of operations, each followed. -/
inductive Tr (P : Program) (lo n0 : Nat) (D : Bool) : List AOper → Fr → AH → Fr → AH → Prop where
  | nil {fr : Fr} {h : AH} : Tr P lo n0 D [] fr h fr h
  | skip {o : AOper} {os : List AOper} {fr : Fr} {h : AH} {fr1 : Fr} {h1 : AH} (hw : wantedA o.guard fr = false) (ht : Tr P lo n0 D os (putF fr o.dst undef) h fr1 h1) : Tr P lo n0 D (o :: os) fr h fr1 h1
  | step {o : AOper} {os : List AOper} {fr : Fr} {h : AH} {v : Value} {h' : AH} {fr1 : Fr} {h1 : AH} (hw : wantedA o.guard fr = true) (hs : StepSim P lo n0 o.op fr h v h') (hop : (∃ f args, o.op = .call f args) ∨ aop lo o.op fr h = some (v, h'))
      (hd : D = true → (o.op.still = true ∨ Grow h h' ∨ (o.seqd = true ∧ lateOk o fr))) (hmono : h.size ≤ h'.size)
      (ht : Tr P lo n0 D os (putF fr o.dst v) h' fr1 h1) : Tr P lo n0 D (o :: os) fr h fr1 h1

theorem wanted_rel {ops : Array Oper} {o : Oper} {g : Option (Nat × Bool)} (hg : guardSlot ops o = some g) (hF : ∀ s w, g = some (s, w) → VRel β (fr s) (a.tmps.getD s undef)) : Region.wanted o (yielded ops a.tmps) = wantedA g fr := by
  unfold guardSlot at hg
  unfold Region.wanted wantedA
  cases hog : o.guard with
  | none => rw [hog] at hg; cases hg; rfl
  | some jw =>
    obtain ⟨j, want⟩ := jw
    rw [hog] at hg
    simp only [Option.map_eq_some_iff] at hg
    obtain ⟨d, hd, rfl⟩ := hg
    have hr := hF d want rfl
    simp only [yielded, hd, Option.bind_some]
    rw [Array.getD_eq_getD_getElem?] at hr
    cases ht : a.tmps[d]? with
    | none =>
      rw [ht] at hr
      simp only [Option.getD_none, undef] at hr
      generalize fr d = z at hr
      cases hr
      rfl
    | some u =>
      rw [ht] at hr
      simp only [Option.getD_some] at hr
      generalize fr d = z at hr
      cases hr <;> first | rfl | (rename_i b; cases b <;> cases want <;> rfl)

theorem put_rel (F : FRel β fr a.tmps) {N : Nat} (hN : a.tmps.size = N) {d : Option Nat} (hd : d.all (· < N) = true) {v v' : Value} (hv : VRel β v v') : FRel β (putF fr d v) (a.put d v').tmps ∧ (a.put d v').tmps.size = N := by
  cases d with
  | none => exact ⟨F, hN⟩
  | some d =>
    simp only [Option.all_some, decide_eq_true_eq] at hd
    exact ⟨F.set (by omega) hv, by simp [Act.put, hN]⟩
theorem put_defers (a : Act) (d : Option Nat) (v : Value) : (a.put d v).defers = a.defers := by cases d <;> rfl

theorem lowOper_some {ops : Array Oper} {N : Nat} {o : Oper} {op : AOp} {g : Option (Nat × Bool)} (hl : lowOper P N ops o = some (op, g)) : lowOp P o.op = some op ∧ guardSlot ops o = some g ∧ o.dst.all (· < N) = true := by
  simp only [lowOper, Option.bind_eq_bind, Option.bind_eq_some_iff] at hl
  obtain ⟨x, h1, y, h2, hl⟩ := hl
  split at hl
  · rename_i hd; cases hl; exact ⟨h1, h2, hd⟩
  · cases hl
theorem no_bad {D : Bool} {os : List AOper} {fr1 : Fr} (ht : Tr P lo n0 D (badOper :: os) fr h fr1 h1) : False := by
  cases ht with
  | skip hw _ => simp [badOper, wantedA] at hw
  | step hw hs hop _ _ _ =>
    rcases hop with ⟨f, args, he⟩ | he
    · simp [badOper] at he
    · simp [badOper, aop] at he

theorem lowText_some {ops : Array Oper} {N : Nat} {o : Oper} {D : Bool} {os : List AOper} {fr1 : Fr} (ht : Tr P lo n0 D (lowText P N ops o :: os) fr h fr1 h1) :
    ∃ op g, lowOper P N ops o = some (op, g) ∧ lowText P N ops o = { dst := o.dst, op, guard := g, seqd := false, late := [] } := by
  cases hx : lowOper P N ops o with
  | none => simp only [lowText, hx] at ht; exact (no_bad ht).elim
  | some x => exact ⟨x.1, x.2, rfl, by simp only [lowText, hx]⟩
/-- **A region that does not draw its order.** -/
theorem region_text {ops : Array Oper} {N : Nat} {ro : Option Nat} : ∀ (k : Nat) {l : List AOper} {fr : Fr} {h : AH} {fr1 : Fr} {h1 : AH} {β : Bij} {w : World} {a : Act}, Tr P lo n0 false l fr h fr1 h1 → l = (lowRegion P N ops false).drop k → k ≤ ops.size →
    HRel P lo n0 β h w → FRel β fr a.tmps → a.tmps.size = N → LoopAt ro w → ∀ (Q : Exit → Act → World → Prop),
    (∀ β1 w1 a1, FRel β1 fr1 a1.tmps → a1.tmps.size = N → a1.defers = a.defers → HRel P lo n0 β1 h1 w1 → Ext lo β h w β1 h1 w1 → Q .normal a1 w1) →
    wpOpsIn (FW ro) 0 P ops Q (List.range' k (ops.size - k)) a w := by
  intro k l fr h fr1 h1 β w a ht
  have hlen : (lowRegion P N ops false).length = ops.size := by simp [lowRegion]
  have common : ∀ {o : AOper} {os : List AOper} {k : Nat}, o :: os = (lowRegion P N ops false).drop k → k ≤ ops.size → k < ops.size ∧ os = (lowRegion P N ops false).drop (k + 1) ∧ ∀ hk : k < ops.size, o = lowText P N ops ops[k] := by
    intro o os k hl hk
    have hkl : k < ops.size := by
      have := congrArg List.length hl
      simp at this; omega
    refine ⟨hkl, ?_, fun hk2 => ?_⟩
    · have := congrArg List.tail hl
      simpa [List.tail_drop] using this
    · have := congrArg (·[0]?) hl
      simp only [List.getElem?_cons_zero, List.getElem?_drop, Nat.add_zero, lowRegion, if_true, List.getElem?_map, Array.getElem?_toList, Array.getElem?_eq_getElem hk2, Option.map_some, Option.some.injEq] at this
      exact this
  induction ht generalizing k β w a with
  | nil =>
    intro hl hk R F hN hlp Q hQ
    have : ops.size - k = 0 := by
      have := congrArg List.length hl
      simp at this; omega
    rw [this]
    exact hQ β w a F hN rfl R (.refl R)
  | @skip o os fr h fr1 h1 hw ht ih =>
    intro hl hk R F hN hlp Q hQ
    obtain ⟨hkl, hos, hoe⟩ := common hl hk
    have hoe := hoe hkl
    have ht0 : Tr P lo n0 false (o :: os) fr h fr1 h1 := .skip hw ht
    rw [hoe] at ht0
    obtain ⟨op, g, q5, q6⟩ := lowText_some ht0
    rw [q6] at hoe; subst hoe
    rw [show ops.size - k = (ops.size - (k + 1)) + 1 by omega, List.range'_succ]
    have ho : ops[k]? = some ops[k] := Array.getElem?_eq_getElem hkl
    obtain ⟨r1, r2, r3⟩ := lowOper_some q5
    rw [wpOpsIn_cons]
    unfold wpOpIn
    simp only [ho]
    have hwt : Region.wanted ops[k] (yielded ops a.tmps) = false := by rw [wanted_rel r2 (fun s _ _ => F s)]; exact hw
    simp only [hwt, Bool.false_eq_true, if_false]
    refine ⟨fun f _ => FW_fn ro f, ?_⟩
    obtain ⟨F2, N2⟩ := put_rel F hN r3 (.undef β)
    refine ih (k + 1) hos (by omega) R F2 N2 hlp Q (fun β1 w1 a1 x1 x2 x3 x4 x5 => hQ β1 w1 a1 x1 x2 ?_ x4 x5)
    rw [x3, put_defers]
  | @step o os fr h v h' fr1 h1 hw hs hop hd hmono ht ih =>
    intro hl hk R F hN hlp Q hQ
    obtain ⟨hkl, hos, hoe⟩ := common hl hk
    have hoe := hoe hkl
    have ht0 : Tr P lo n0 false (o :: os) fr h fr1 h1 := .step hw hs hop hd hmono ht
    rw [hoe] at ht0
    obtain ⟨op, g, q5, q6⟩ := lowText_some ht0
    rw [q6] at hoe; subst hoe
    rw [show ops.size - k = (ops.size - (k + 1)) + 1 by omega, List.range'_succ]
    have ho : ops[k]? = some ops[k] := Array.getElem?_eq_getElem hkl
    obtain ⟨r1, r2, r3⟩ := lowOper_some q5
    rw [wpOpsIn_cons]
    unfold wpOpIn
    simp only [ho]
    have hwt : Region.wanted ops[k] (yielded ops a.tmps) = true := by rw [wanted_rel r2 (fun s _ _ => F s)]; exact hw
    simp only [hwt, if_true]
    refine hs ops[k] r1 ro β w a fr R (fun _ _ => rfl) F hlp _ _ (fun β1 w1 v' hv R1 E1 => ?_)
    obtain ⟨F2, N2⟩ := put_rel (F.mono (E1.le R)) hN r3 hv
    refine ih (k + 1) hos (by omega) R1 F2 N2 (hlp.ext E1) Q (fun β2 w2 a2 x1 x2 x3 x4 x5 => hQ β2 w2 a2 x1 x2 ?_ x4 (E1.trans x5))
    rw [x3, put_defers]
end
end Go.RS
