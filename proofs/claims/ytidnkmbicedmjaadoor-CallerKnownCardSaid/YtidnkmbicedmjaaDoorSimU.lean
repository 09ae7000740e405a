/- Regions that draw their order (3): an operation looks at its operands alone. -/
import Derived.Test.YtidnkmbicedmjaaDoorSimT
namespace Go.RS
open Go

section
variable {P : Program}

theorem arr_map_congr {xs : Array Operand} {ρ ρ' : Operand → Value} (h : ∀ x ∈ xs, ρ x = ρ' x) : xs.map ρ = xs.map ρ' := Array.map_congr_left h
theorem execOp_congr {o : Oper} {op : AOp} (hl : lowOp P o.op = some op) {ρ ρ' : Operand → Value} (he : ∀ x ∈ o.op.operands, ρ x = ρ' x) : execOp ρ o = execOp ρ' o := by
  obtain ⟨dst, op0, ty, pos, after, guard⟩ := o
  simp only at hl he
  cases op0 <;> first
    | (simp only [lowOp] at hl; cases hl; done)
    | (simp only [Op.operands, List.mem_toArray, List.mem_cons, List.not_mem_nil, or_false, forall_eq_or_imp, forall_eq] at he; simp only [execOp, he]; done)
    | skip
  case build t ps =>
    have : (ps.map fun (x : Nat × Operand) => match x with | (i, x) => (i, ρ x)) = ps.map fun (x : Nat × Operand) => match x with | (i, x) => (i, ρ' x) := by
      apply Array.map_congr_left
      intro p hp
      obtain ⟨i, x⟩ := p
      show (i, ρ x) = (i, ρ' x)
      rw [he x (by simp only [Op.operands, List.mem_toArray, List.mem_map]; exact ⟨(i, x), by simpa using hp, rfl⟩)]
    simp only [execOp, this]
  case buildSlice t n ps =>
    have : (ps.map fun (x : Nat × Operand) => match x with | (i, x) => (i, ρ x)) = ps.map fun (x : Nat × Operand) => match x with | (i, x) => (i, ρ' x) := by
      apply Array.map_congr_left
      intro p hp
      obtain ⟨i, x⟩ := p
      show (i, ρ x) = (i, ρ' x)
      rw [he x (by simp only [Op.operands, List.mem_toArray, List.mem_map]; exact ⟨(i, x), by simpa using hp, rfl⟩)]
    simp only [execOp, this]
  case makeFunc fn first cap =>
    simp only [Op.operands, Array.mem_append] at he
    have e1 : first.map ρ = first.map ρ' := arr_map_congr fun x hx => he x (.inl hx)
    have e2 : cap.map ρ = cap.map ρ' := arr_map_congr fun x hx => he x (.inr hx)
    simp only [execOp, e1, e2]
  case makeMap t r =>
    cases r with
    | none => rfl
    | some r => simp only [Op.operands, Option.toArray] at he; simp only [execOp, Option.map_some, he r (by simp)]
  case slice t x l h m =>
    simp only [Op.operands, Array.mem_append] at he
    have e0 : ρ x = ρ' x := he x (.inl (.inl (.inl (by simp))))
    have e1 : l.map ρ = l.map ρ' := by cases l with | none => rfl | some l => simp only [Option.map_some]; rw [he l (.inl (.inl (.inr (by simp))))]
    have e2 : h.map ρ = h.map ρ' := by cases h with | none => rfl | some l => simp only [Option.map_some]; rw [he l (.inl (.inr (by simp)))]
    have e3 : m.map ρ = m.map ρ' := by cases m with | none => rfl | some l => simp only [Option.map_some]; rw [he l (.inr (by simp))]
    simp only [execOp, e0, e1, e2, e3]
  case call c =>
    simp only [Op.operands, Call.operands, Array.mem_append] at he
    have e1 : c.args.map ρ = c.args.map ρ' := arr_map_congr fun x hx => he x (.inr hx)
    have : resolve ρ c ty = resolve ρ' c ty := by
      unfold resolve
      cases hc : c.callee with
      | value f => simp only [hc] at he; simp only [e1, he f (.inl (by simp))]
      | invoke r m => simp only [hc] at he; simp only [e1, he r (.inl (by simp))]
      | builtin b => simp only [e1]
    simp only [execOp, this]

theorem put_tmps {a a' : Act} (hs : a'.tmps.size = a.tmps.size) {d : Option Nat} {v v' : Value} (h : a'.put d v = a'.put d v') : a.put d v = a.put d v' := by
  cases d with
  | none => rfl
  | some d =>
    by_cases hd : d < a.tmps.size
    · have := congrArg (fun x : Act => x.tmps[d]?) h
      simp only [Act.put] at this
      rw [Array.getElem?_setIfInBounds_self_of_lt (by omega), Array.getElem?_setIfInBounds_self_of_lt (by omega)] at this
      cases this; rfl
    · simp only [Act.put]
      rw [Array.setIfInBounds_eq_of_size_le (by omega), Array.setIfInBounds_eq_of_size_le (by omega)]

theorem wpIn_congr {o : Oper} {op : AOp} (hl : lowOp P o.op = some op) {a a' : Act} (hs : a'.tmps.size = a.tmps.size) (he : ∀ x ∈ o.op.operands, a'.eval x = a.eval x) {ro : Option Nat} {w : World}
    {next : Act → World → Prop} {Q : Exit → Act → World → Prop}
    (h : o.wpIn (FW ro) 0 P a' w (fun a1 w1 => ∃ v, a1 = a'.put o.dst v ∧ next (a.put o.dst v) w1) (fun _ _ _ => False)) : o.wpIn (FW ro) 0 P a w next Q := by
  refine ⟨fun f _ => FW_fn ro f, ?_⟩
  have h2 := h.2
  rw [semAt_low hl] at h2 ⊢
  rw [execOp_congr hl he] at h2
  have key : ∀ v w1, (∃ v', a'.put o.dst v = a'.put o.dst v' ∧ next (a.put o.dst v') w1) → next (a.put o.dst v) w1 := by
    rintro v w1 ⟨v', h1, h2⟩
    rw [put_tmps hs h1]; exact h2
  generalize ((execOp a.eval o).run P w) = r at h2
  cases r with
  | ok nx w1 =>
    cases nx with
    | value v => exact key v w1 h2
    | skip => exact key undef w1 h2
    | enter f args =>
      rw [Oper.uponIn_enter] at h2 ⊢
      refine ⟨h2.1, h2.2.mono fun e w2 he => ?_⟩
      cases e with
      | returned v => exact key v w2 he
      | panicked c => exact he.elim
      | outgrown => exact (by obtain ⟨_, _, h⟩ := (he : LetsOut fun _ _ _ => False); exact h.elim)
    | row row args =>
      rw [Oper.uponIn_row] at h2 ⊢
      exact ⟨h2.1, h2.2.mono fun v w2 he => key v w2 he⟩
    | round l f tmps assign body =>
      rw [Oper.uponIn_round] at h2 ⊢
      refine ⟨h2.1, h2.2.mono fun e w2 he => ?_⟩
      cases e with
      | returned v => exact key v w2 he
      | panicked c => exact he.elim
      | outgrown => exact (by obtain ⟨_, _, h⟩ := (he : LetsOut fun _ _ _ => False); exact h.elim)
    | defer d =>
      obtain ⟨v, h3, _⟩ := h2
      have := congrArg (fun x : Act => x.defers.length) h3
      simp [put_defers] at this
    | _ => exact h2.elim
  | halt e w1 =>
    cases e <;> exact h2.elim
end
end Go.RS
