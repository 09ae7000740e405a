/- Code (2): what each form of code asks of the machine. -/
import Derived.Test.YtidnkmbicedmjaaDoorSimS
namespace Go.RS
open Go

section
variable {lo : Nat} {fr : Fr} {h h1 : AH} {v : Value}
theorem setCells_size {b o : Nat} {vs : List Value} {h1 : AH} (hs : setCells lo h b o vs = some h1) : h1.size = h.size := by
  unfold setCells at hs
  split at hs
  · split at hs
    · cases hs; simp
    · cases hs
  · cases hs
theorem append_size {e bytes : Nat} {s x v : Value} (hv : appendA lo h e bytes s x = some (v, h1)) : h.size ≤ h1.size := by
  unfold appendA at hv
  repeat' split at hv
  all_goals first
    | (cases hv; done)
    | (cases hv; simp; done)
    | (simp only [Option.map_eq_some_iff, Prod.mk.injEq] at hv; obtain ⟨h', h2, _, rfl⟩ := hv; rw [setCells_size h2]; exact Nat.le_refl _)
theorem aop_size {op : AOp} (hv : aop lo op fr h = some (v, h1)) : h.size ≤ h1.size := by
  by_cases hs : op.still = true
  · exact (aop_still hs hv).1
  · cases op <;> simp only [AOp.still, not_true_eq_false] at hs
    case store n a x =>
      simp only [aop] at hv
      repeat' split at hv
      all_goals first
        | (cases hv; done)
        | (simp only [Option.map_eq_some_iff, Prod.mk.injEq] at hv; obtain ⟨h', h2, _, rfl⟩ := hv; rw [setCells_size h2]; exact Nat.le_refl _)
    case append e b s x => exact append_size (by simpa only [aop] using hv)
    case call f as => cases hv
    all_goals
      simp only [aop] at hv
      repeat' split at hv
      all_goals first
        | (cases hv; done)
        | (cases hv; simp; done)
        | (simp only [Option.map_eq_some_iff, Prod.mk.injEq] at hv; obtain ⟨f, h2, _, rfl⟩ := hv; cases f <;> simp [updMap]; done)
        | (simp only [Option.map_eq_some_iff] at hv; obtain ⟨f, h2, hv⟩ := hv; cases f <;> simp only [entMap, Prod.mk.injEq] at hv <;> (obtain ⟨_, rfl⟩ := hv; simp); done)
end

section
variable {P : Program} {lo n0 : Nat} {F : Fence} {n : Nat} {Q : Exit → Act → World → Prop} {a : Act} {w : World}

theorem stepR_scope {b : Frame} {k : List Item} {cs : List Frame} {c : Code} : step P (lone (b.atR a (.code (.scope c) :: k)) cs w) = .next (lone (b.atR a (.code c :: .inScope c :: k)) cs w) :=
  step_lone_go (by simp [stepG, stepG.exec, Frame.atR])
theorem stepR_inScope {b : Frame} {k : List Item} {cs : List Frame} {c : Code} : step P (lone (b.atR a (.inScope c :: k)) cs w) = .next (lone (b.atR a k) cs w) :=
  step_lone_go (by simp [stepG, stepG.exec, Frame.atR])
def noGoto (Q : Exit → Act → World → Prop) : Exit → Act → World → Prop
  | .goto _, _, _ => False
  | e, a, w => Q e a w
theorem wpIn_scope {c : Code} (h : c.wpIn F n P (noGoto Q) a w) : (Code.scope c).wpIn F n P Q a w := by
  intro b k cs hro hb hr
  have h0 : (lone (b.atR a (.code (.scope c) :: k)) cs w).fenced P F := fenced_calm hb hr rfl
  obtain ⟨e, a₁, w₁, hq, harr⟩ := h b (.inScope c :: k) cs hro hb hr
  cases e with
  | normal => exact ⟨.normal, a₁, w₁, hq, .head h0 stepR_scope (StepsIn.trans harr (.one (fenced_calm hb hr rfl) stepR_inScope))⟩
  | exit id =>
    have hx : exitTo id (.inScope c :: k) = exitTo id k := by simp [exitTo]
    exact ⟨.exit id, a₁, w₁, hq, fun k' hk => .head h0 stepR_scope (harr.1 k' (by rw [hx]; exact hk)),
      fun hr' hk => let ⟨k₁, h1, h2⟩ := harr.2 hr' (by rw [hx]; exact hk); ⟨k₁, h1, .head h0 stepR_scope h2⟩⟩
  | goto l => exact hq.elim
  | ret => exact ⟨_, a₁, w₁, hq, .of_steps (.one h0 stepR_scope) harr⟩
  | panic ch => exact ⟨_, a₁, w₁, hq, .of_steps (.one h0 stepR_scope) harr⟩
  | outgrown => exact ⟨_, a₁, w₁, hq, .of_steps (.one h0 stepR_scope) harr⟩

theorem calls_FW {ro : Option Nat} {f : FuncId} {as : Array Value} {R : Ending → World → Prop} (h : CallsIn Fence.wide 0 P f as w R) : CallsIn (FW ro) (0 - 1) P f as w R := by
  cases ro
  · exact h
  · exact h
theorem rounds_FW {ro : Option Nat} {l : Nat} {f : FuncId} {tm : Array Value} {as bd : Code} {R : Ending → World → Prop} (h : RoundIn Fence.wide 0 P l f tm as bd w R) : RoundIn (FW ro) (0 - 1) P l f tm as bd w R := by
  cases ro
  · exact h
  · exact h

/-! ### The forms of lowered code -/
variable {N : Nat} {c' : Code}
theorem low_skip (hc : lowC P N c' = .skip) : c' = .skip ∨ ∃ l, c' = .label l := by
  cases c' <;> simp only [lowC] at hc <;> (repeat' split at hc) <;> cases hc
  · exact .inl rfl
  · exact .inr ⟨_, rfl⟩
theorem low_region {dr : Bool} {ops : List AOper} (hc : lowC P N c' = .region dr ops) : ∃ id os, c' = .region id os dr ∧ lowRegion P N os dr = ops := by
  cases c' <;> simp only [lowC] at hc <;> (repeat' split at hc) <;> cases hc
  exact ⟨_, _, rfl, rfl⟩
theorem low_seq {x y : ACode} (hc : lowC P N c' = .seq x y) : ∃ a b, c' = .seq a b ∧ lowC P N a = x ∧ lowC P N b = y := by
  cases c' <;> simp only [lowC] at hc <;> (repeat' split at hc) <;> cases hc
  exact ⟨_, _, rfl, rfl, rfl⟩
theorem low_cond {c : Opd} {x y : ACode} (hc : lowC P N c' = .cond c x y) : ∃ co a b, c' = .cond co a b ∧ lowOpd P co = some c ∧ lowC P N a = x ∧ lowC P N b = y := by
  cases c' <;> simp only [lowC] at hc <;> (repeat' split at hc) <;> cases hc
  exact ⟨_, _, _, rfl, ‹_›, rfl, rfl⟩
theorem low_block {id : Nat} {x : ACode} (hc : lowC P N c' = .block id x) : ∃ a, c' = .block id a ∧ lowC P N a = x := by
  cases c' <;> simp only [lowC] at hc <;> (repeat' split at hc) <;> cases hc
  exact ⟨_, rfl, rfl⟩
theorem low_loop {x : ACode} (hc : lowC P N c' = .loop x) : ∃ a, c' = .loop a ∧ lowC P N a = x := by
  cases c' <;> simp only [lowC] at hc <;> (repeat' split at hc) <;> cases hc
  exact ⟨_, rfl, rfl⟩
theorem low_scope {x : ACode} (hc : lowC P N c' = .scope x) : ∃ a, c' = .scope a ∧ lowC P N a = x := by
  cases c' <;> simp only [lowC] at hc <;> (repeat' split at hc) <;> cases hc
  exact ⟨_, rfl, rfl⟩
theorem low_exit {id : Nat} (hc : lowC P N c' = .exit id) : c' = .exit id := by
  cases c' <;> simp only [lowC] at hc <;> (repeat' split at hc) <;> cases hc
  rfl
theorem low_ret (hc : lowC P N c' = .ret) : c' = .ret := by
  cases c' <;> simp only [lowC] at hc <;> (repeat' split at hc) <;> cases hc
  rfl
theorem low_rangeFunc {f : Opd} {ps : List Nat} {x y : ACode} (hc : lowC P N c' = .rangeFunc f ps x y) : ∃ fo pa a b, c' = .rangeFunc fo pa a b ∧ lowOpd P fo = some f ∧ pa.toList = ps ∧ (∀ p ∈ ps, p < N) ∧ lowC P N a = x ∧ lowC P N b = y := by
  cases c' <;> simp only [lowC] at hc <;> (repeat' split at hc) <;> cases hc
  rename_i hall hf
  refine ⟨_, _, _, _, rfl, hf, rfl, fun p hp => ?_, rfl, rfl⟩
  have := Array.all_eq_true_iff_forall_mem.1 hall p (by simpa using hp)
  simpa using this

theorem low_call {o : Op} {f : Opd} {args : List Opd} (hl : lowOp P o = some (.call f args)) : ∃ c fo, o = .call c ∧ c.callee = .value fo ∧ lowOpd P fo = some f ∧ lowList P c.args.toList = some args := by
  cases o <;> simp only [lowOp, lowBin, eqOp, Option.bind_eq_bind] at hl
  case call c =>
    unfold lowCall at hl
    split at hl
    · rename_i fo hfo
      simp only [Option.bind_eq_bind, Option.bind_eq_some_iff, Option.some.injEq, AOp.call.injEq] at hl
      obtain ⟨x, hx, ys, hys, rfl, rfl⟩ := hl
      exact ⟨c, fo, rfl, hfo, hx, hys⟩
    · cases hl
    · rename_i b hb
      exfalso
      unfold lowBuiltin at hl
      simp only [Option.bind_eq_bind] at hl
      repeat' (first
        | (cases hl; done)
        | (rw [Option.bind_eq_some_iff] at hl; obtain ⟨_, _, hl⟩ := hl)
        | (rw [Option.map_eq_some_iff] at hl; obtain ⟨_, _, hl⟩ := hl)
        | split at hl)
  all_goals exfalso
  all_goals repeat' (first
        | (cases hl; done)
        | (rw [Option.bind_eq_some_iff] at hl; obtain ⟨_, _, hl⟩ := hl)
        | (rw [Option.map_eq_some_iff] at hl; obtain ⟨_, _, hl⟩ := hl)
        | split at hl)
  all_goals (rename_i he; cases he)
end
end Go.RS
