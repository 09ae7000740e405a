/- Each operation of the abstract machine is followed by the real one (10): all of them. -/
import Derived.Test.YtidnkmbicedmjaaDoorSimK
namespace Go.RS
open Go

section
variable {P : Program} {lo n0 : Nat} {β : Bij} {h h1 : AH} {w : World} {fr : Fr} {a : Act}

theorem op_minmax (R : HRel P lo n0 β h w) (F : FRel β fr a.tmps) {mx : Bool} : ∀ {more : List Operand} {ys : List Opd} {x x' v : Value}, lowList P more = some ys → VRel β x x' → ys.foldlM (fun c y => minmax2 mx c (y.ev fr)) x = some v →
    ∃ v', ((more.map a.eval).foldlM (if mx then Builtin.max2 else Builtin.min2) x').run P w = .ok v' w ∧ VRel β v v'
  | [], ys, x, x', v, hl, hx, hv => by
    simp [lowList] at hl; subst hl
    simp at hv; subst hv
    exact ⟨x', rfl, hx⟩
  | y :: more, ys, x, x', v, hl, hx, hv => by
    simp only [lowList, Option.bind_eq_bind, Option.bind_eq_some_iff] at hl
    obtain ⟨z, hz, zs, hzs, he⟩ := hl
    cases he
    rw [List.foldlM_cons] at hv
    simp only [Option.bind_eq_bind, Option.bind_eq_some_iff] at hv
    obtain ⟨c, hc, hv⟩ := hv
    have hy := opd_rel R F hz
    unfold minmax2 at hc
    split at hc
    · rename_i k m k' n hy0
      rw [hy0] at hy
      split at hc
      · rename_i hk; subst hk
        cases hc
        obtain ⟨v', h1, h2⟩ := op_minmax R F (mx := mx) hzs (.int k _) hv
        refine ⟨v', ?_, h2⟩
        rw [hx.int_inv, List.map_cons, hy.int_inv, List.foldlM_cons]
        simp only [Sem.run_bind]
        cases mx
        · simpa [Builtin.min2] using h1
        · simpa [Builtin.max2] using h1
      · cases hc
    · cases hc

theorem callOp_run {c : Call} {b : Builtin} {ty : TypeId} (hc : c.callee = .builtin b) {s : Sem Value} (hb : Go.builtin b c.argTypes ty (c.args.map fun | .const _ => true | _ => false) (c.args.map a.eval) = (do pure (.value (← s)))) :
    (do let d ← resolve a.eval c ty; invoke d.target d.args : Sem Next) = (do pure (.value (← s))) := by
  simp only [resolve, hc, pure_bind, invoke]
  exact hb

theorem op_builtin (R : HRel P lo n0 β h w) (F : FRel β fr a.tmps) {c : Call} {b : Builtin} {ty : TypeId} (hcal : c.callee = .builtin b) {op : AOp} (hl : lowBuiltin P b c = some op) {v : Value} (hv : aop lo op fr h = some (v, h1)) :
    OpSim P lo n0 β h w v h1 ((do let d ← resolve a.eval c ty; invoke d.target d.args : Sem Next).run P w) := by
  obtain ⟨callee, args, argTypes⟩ := c
  simp only at hcal
  simp only [lowBuiltin] at hl
  split at hl
  · split at hl
    · rename_i t ts x hts hxs
      simp only [Option.bind_eq_bind, Option.bind_eq_some_iff] at hl
      obtain ⟨d, hd, x', hx', hl⟩ := hl
      have hx := opd_rel R F hx'
      have hargs : args = #[x] := by rw [← Array.toArray_toList (xs := args), hxs]
      have hat : argTypes[0]? = some t := by rw [← Array.getElem?_toList, hts]; rfl
      clear hxs
      subst hargs
      rw [callOp_run (s := Builtin.len_ argTypes ty #[a.eval x]) hcal (by simp [builtin])]
      have key : ∀ n : Nat, v = .int .i64 n → h1 = h → (Builtin.len_ argTypes ty #[a.eval x]).run P w = .ok (.int .i64 n) w → OpSim P lo n0 β h w v h1 ((do pure (.value (← Builtin.len_ argTypes ty #[a.eval x])) : Sem Next).run P w) := by
        intro n e1 e2 e3
        subst e1; subst e2
        exact (VSim.quiet R (.int _ _) e3).op
      cases d <;> simp only at hl <;> first
        | (cases hl; done)
        | skip
      · cases hl
        simp only [aop] at hv
        split at hv
        · rename_i s hp
          rw [hp] at hx
          simp only [Option.some.injEq, Prod.mk.injEq] at hv
          refine key s.size hv.1.symm hv.2.symm ?_
          simp [Builtin.len_, hat, run_underlying hd, hx.str_inv, goInt]
        · cases hv
      · cases hl
        simp only [aop] at hv
        split at hv
        · rename_i b n cp hp
          rw [hp] at hx
          simp only [Option.some.injEq, Prod.mk.injEq] at hv
          refine key n hv.1.symm hv.2.symm ?_
          generalize a.eval x = ax at hx
          cases hx <;> simp [Builtin.len_, hat, run_underlying hd, goInt]
        · cases hv
      · cases hl
        simp only [aop, Option.some.injEq, Prod.mk.injEq] at hv
        refine key _ hv.1.symm hv.2.symm ?_
        simp [Builtin.len_, hat, run_underlying hd, goInt]
    · cases hl
  · split at hl
    · rename_i t u s x hts hxs
      simp only [Option.bind_eq_bind, Option.bind_eq_some_iff] at hl
      obtain ⟨d, hd, du, hdu, hl⟩ := hl
      split at hl
      · simp only [Option.bind_eq_some_iff] at hl
        obtain ⟨i, hi, hl⟩ := hl
        split at hl
        · rename_i hz
          simp only [Option.bind_eq_some_iff, Option.some.injEq] at hl
          obtain ⟨s', hs', x', hx', rfl⟩ := hl
          have hargs : args = #[s, x] := by rw [← Array.toArray_toList (xs := args), hxs]
          have hat : argTypes = #[t, u] := by rw [← Array.toArray_toList (xs := argTypes), hts]
          clear hxs hts
          subst hargs; subst hat
          rw [callOp_run (s := Builtin.append_ #[t, u] ty #[a.eval s, a.eval x]) hcal (by simp [builtin])]
          cases hiz : i.zero with
          | none => rw [hiz] at hz; cases hz
          | some z =>
            rw [hiz] at hz
            simp only [aop] at hv
            exact (op_append R hd hdu hi hiz (by simpa using hz) (opd_rel R F hs') (opd_rel R F hx') hv).op
        · cases hl
      · cases hl
    · cases hl
  · split at hl
    · rename_i x r hxs
      simp only [Option.bind_eq_bind, Option.bind_eq_some_iff, Option.some.injEq] at hl
      obtain ⟨x', hx', r', hr', rfl⟩ := hl
      simp only [aop, Option.map_eq_some_iff, Prod.mk.injEq] at hv
      obtain ⟨v0, hv, rfl, rfl⟩ := hv
      obtain ⟨v', h1, h2⟩ := op_minmax R F (mx := false) hr' (opd_rel R F hx') hv
      rw [callOp_run (s := Builtin.min_ argTypes ty (args.map a.eval)) hcal (by simp [builtin])]
      refine (VSim.quiet R h2 ?_).op
      have : (args.map a.eval).toList = a.eval x :: r.map a.eval := by rw [Array.toList_map, hxs]; rfl
      simp only [Builtin.min_, this]
      simpa using h1
    · cases hl
  · split at hl
    · rename_i x r hxs
      simp only [Option.bind_eq_bind, Option.bind_eq_some_iff, Option.some.injEq] at hl
      obtain ⟨x', hx', r', hr', rfl⟩ := hl
      simp only [aop, Option.map_eq_some_iff, Prod.mk.injEq] at hv
      obtain ⟨v0, hv, rfl, rfl⟩ := hv
      obtain ⟨v', h1, h2⟩ := op_minmax R F (mx := true) hr' (opd_rel R F hx') hv
      rw [callOp_run (s := Builtin.max_ argTypes ty (args.map a.eval)) hcal (by simp [builtin])]
      refine (VSim.quiet R h2 ?_).op
      have : (args.map a.eval).toList = a.eval x :: r.map a.eval := by rw [Array.toList_map, hxs]; rfl
      simp only [Builtin.max_, this]
      simpa using h1
    · cases hl
  · cases hl

/-- **An operation that is no call of a Go function.** -/
theorem op_sim (R : HRel P lo n0 β h w) (F : FRel β fr a.tmps) {o : Oper} {op : AOp} (hl : lowOp P o.op = some op) {v : Value} (hv : aop lo op fr h = some (v, h1)) :
    OpSim P lo n0 β h w v h1 ((execOp a.eval o).run P w) := by
  obtain ⟨dst, op0, ty, pos, after, guard⟩ := o
  simp only at hl
  cases op0 <;> simp only [lowOp] at hl
  case move x =>
    simp only [Option.map_eq_some_iff] at hl
    obtain ⟨y, hy, rfl⟩ := hl
    simp only [aop, Option.some.injEq, Prod.mk.injEq] at hv
    obtain ⟨rfl, rfl⟩ := hv
    exact .quiet R (opd_rel R F hy) rfl
  case assign x =>
    simp only [Option.map_eq_some_iff] at hl
    obtain ⟨y, hy, rfl⟩ := hl
    simp only [aop, Option.some.injEq, Prod.mk.injEq] at hv
    obtain ⟨rfl, rfl⟩ := hv
    exact .quiet R (opd_rel R F hy) rfl
  case pick c x y =>
    simp only [Option.bind_eq_bind, Option.bind_eq_some_iff, Option.some.injEq] at hl
    obtain ⟨c', hc, x', hx, y', hy, rfl⟩ := hl
    simp only [aop] at hv
    split at hv
    · rename_i t hct
      have hcr := opd_rel R F hc
      rw [hct] at hcr
      simp only [Option.some.injEq, Prod.mk.injEq] at hv
      obtain ⟨rfl, rfl⟩ := hv
      refine .quiet R (v' := if t then a.eval x else a.eval y) ?_ ?_
      · cases t
        · exact opd_rel R F hy
        · exact opd_rel R F hx
      · simp only [execOp, hcr.bool_inv, asBool, Sem.run_bind, Sem.run_pure, Result.andThen_ok]
    · cases hv
  case alloc t =>
    simp only [Option.bind_eq_some_iff] at hl
    obtain ⟨z, hz, hl⟩ := hl
    split at hl
    · rename_i hc; cases hl
      simp only [aop, Option.some.injEq, Prod.mk.injEq] at hv
      obtain ⟨rfl, rfl⟩ := hv
      exact (op_alloc R hz hc).op
    · cases hl
  case box t x =>
    simp only [Option.map_eq_some_iff] at hl
    obtain ⟨y, hy, rfl⟩ := hl
    simp only [aop, Option.some.injEq, Prod.mk.injEq] at hv
    obtain ⟨rfl, rfl⟩ := hv
    exact (op_box R t (opd_rel R F hy)).op
  case build t parts =>
    simp only [Option.bind_eq_bind, Option.bind_eq_some_iff] at hl
    obtain ⟨z, hz, place, hpl, ps, hps, hl⟩ := hl
    split at hl
    · rename_i hc; cases hl
      simp only [aop, Option.map_eq_some_iff, Prod.mk.injEq] at hv
      obtain ⟨c, hf, rfl, rfl⟩ := hv
      exact (op_build R F hz hpl hps hc hf).op
    · cases hl
  case buildSlice t n parts =>
    simp only [Option.bind_eq_bind, Option.bind_eq_some_iff] at hl
    obtain ⟨d, hd, hl⟩ := hl
    split at hl
    · rename_i e
      simp only [Option.bind_eq_some_iff] at hl
      obtain ⟨s, hs, z, hz, ps, hps, hl⟩ := hl
      split at hl
      · rename_i hc
        obtain ⟨c1, c2, c3, c4⟩ := hc
        cases hl
        simp only [aop, Option.map_eq_some_iff, Prod.mk.injEq] at hv
        obtain ⟨c, hf, rfl, rfl⟩ := hv
        have hn : n < openCap := by
          have h1 : n * 1 ≤ n * s := Nat.mul_le_mul_left _ (Nat.pos_of_ne_zero c4)
          have : openCap = 18446744073709551616 := rfl
          omega
        exact (op_buildSlice R F hd hs hz hps c1 c2 c3 c4 hn hf).op
      · cases hl
    · cases hl
  case load t x =>
    simp only [Option.bind_eq_bind, Option.bind_eq_some_iff, Option.some.injEq] at hl
    obtain ⟨agg, hagg, y, hy, rfl⟩ := hl
    have hx := opd_rel R F hy
    cases agg with
    | none =>
      simp only [aop] at hv
      split at hv
      · rename_i b o' hp
        rw [hp] at hx
        simp only [Option.map_eq_some_iff, Prod.mk.injEq] at hv
        obtain ⟨v0, hc, rfl, rfl⟩ := hv
        exact (op_load R hagg hc hx).op
      · cases hv
    | some n =>
      simp only [aop] at hv
      split at hv
      · rename_i b o' hp
        rw [hp] at hx
        simp only [Option.map_eq_some_iff, Prod.mk.injEq] at hv
        obtain ⟨c, hc, rfl, rfl⟩ := hv
        exact (op_load R hagg (v := .agg c.toArray) (by simp [hc]) hx).op
      · cases hv
  case store t x y =>
    simp only [Option.bind_eq_bind, Option.bind_eq_some_iff, Option.some.injEq] at hl
    obtain ⟨n, hn, x', hx', y', hy', rfl⟩ := hl
    have hx := opd_rel R F hx'
    simp only [aop] at hv
    split at hv
    · rename_i b o' hp
      rw [hp] at hx
      split at hv
      · rename_i hc
        simp only [Option.map_eq_some_iff, Prod.mk.injEq] at hv
        obtain ⟨h', hs, rfl, rfl⟩ := hv
        exact (op_store R hn hx (opd_rel R F hy') hc.1 hc.2 hs).op
      · cases hv
    · cases hv
  case nilCheck x =>
    simp only [Option.map_eq_some_iff] at hl
    obtain ⟨y, hy, rfl⟩ := hl
    have hx := opd_rel R F hy
    simp only [aop] at hv
    split at hv
    · rename_i p hp
      rw [hp] at hx
      simp only [Option.some.injEq, Prod.mk.injEq] at hv
      obtain ⟨rfl, rfl⟩ := hv
      obtain ⟨p', hp', _⟩ := hx.ptr_inv
      refine .quiet R (v' := a.eval x) hx ?_
      simp only [execOp, hp', Sem.run_pure]
    · cases hv
  case binOp op t x y yt =>
    simp only [Option.bind_eq_bind, Option.bind_eq_some_iff] at hl
    obtain ⟨x', hx', y', hy', hl⟩ := hl
    have hx := opd_rel R F hx'
    have hy := opd_rel R F hy'
    refine VSim.op (s := (do eqGuard op t x y (a.eval x) (a.eval y); binOp op t (a.eval x) (a.eval y))) ?_
    have hbin : ∀ {op'}, op' = op → (binA op' (x'.ev fr) (y'.ev fr)).map (fun v => (v, h)) = some (v, h1) → VSim P lo n0 β h w v h1 ((do eqGuard op t x y (a.eval x) (a.eval y); binOp op t (a.eval x) (a.eval y) : Sem Value).run P w) := by
      intro op' he hb
      subst he
      simp only [Option.map_eq_some_iff, Prod.mk.injEq] at hb
      obtain ⟨v0, hb, rfl, rfl⟩ := hb
      exact op_bin R hx hy hb
    have heq : ∀ neg : Bool, op = (if neg then .neq else .eql) → eqOp P neg t x' y' = some ‹AOp› → VSim P lo n0 β h w v h1 ((do eqGuard op t x y (a.eval x) (a.eval y); binOp op t (a.eval x) (a.eval y) : Sem Value).run P w) := by
      intro neg he hq
      subst he
      simp only [eqOp, Option.bind_eq_some_iff] at hq
      obtain ⟨d, hd, hq⟩ := hq
      have nilCase : ∀ k, eqKOk k d = true → aop lo (.eqNil k neg x' y') fr h = some (v, h1) →
          VSim P lo n0 β h w v h1 ((do eqGuard (if neg then .neq else .eql) t x y (a.eval x) (a.eval y); binOp (if neg then .neq else .eql) t (a.eval x) (a.eval y) : Sem Value).run P w) := by
        intro k hk hv
        simp only [aop, Option.map_eq_some_iff, Prod.mk.injEq] at hv
        obtain ⟨b, hb, rfl, rfl⟩ := hv
        exact op_eqNil R hd hk hx hy hb
      have aggCase : isAggD d = true → (if P.eqGuardType P.depth t then none else (flatT P 50 t).map fun ks => AOp.eqAgg neg ks x' y') = some ‹AOp› → VSim P lo n0 β h w v h1 ((do eqGuard (if neg then .neq else .eql) t x y (a.eval x) (a.eval y); binOp (if neg then .neq else .eql) t (a.eval x) (a.eval y) : Sem Value).run P w) := by
        intro hag hq
        split at hq
        · cases hq
        · rename_i hg
          simp only [Option.map_eq_some_iff] at hq
          obtain ⟨ks, hks, rfl⟩ := hq
          simp only [aop, Option.map_eq_some_iff, Prod.mk.injEq] at hv
          obtain ⟨b, hb, rfl, rfl⟩ := hv
          exact op_eqAgg R hd hag (by simpa using hg) hks hx hy hb
      cases d <;> simp only at hq
      case bool =>
        cases hq
        simp only [aop] at hv
        split at hv
        · rename_i p q hp hq
          rw [hp] at hx; rw [hq] at hy
          simp only [Option.some.injEq, Prod.mk.injEq] at hv
          obtain ⟨rfl, rfl⟩ := hv
          exact op_eqBool R hd hx hy
        · cases hv
      case int k => cases hq; exact hbin rfl hv
      case string => cases hq; exact hbin rfl hv
      case slice e => cases hq; exact nilCase .slice rfl hv
      case map k e => cases hq; exact nilCase .map rfl hv
      case func p r vd => cases hq; exact nilCase .func rfl hv
      case struct fs => exact aggCase rfl hq
      case array n e => exact aggCase rfl hq
      all_goals cases hq
    cases op <;> simp only [lowBin] at hl <;> first
      | (cases hl; done)
      | exact heq false rfl hl
      | exact heq true rfl hl
      | (cases hl; exact hbin rfl hv)
  case unOp op t x =>
    simp only [Option.map_eq_some_iff] at hl
    obtain ⟨y, hy, rfl⟩ := hl
    simp only [aop, Option.map_eq_some_iff, Prod.mk.injEq] at hv
    obtain ⟨v0, hu, rfl, rfl⟩ := hv
    exact (op_un R (opd_rel R F hy) hu).op
  case convert s d x =>
    simp only [Option.bind_eq_bind, Option.bind_eq_some_iff] at hl
    obtain ⟨ds, hds, hl⟩ := hl
    split at hl
    · simp only [Option.bind_eq_some_iff] at hl
      obtain ⟨dd, hdd, hl⟩ := hl
      split at hl
      · simp only [Option.bind_eq_some_iff, Option.some.injEq] at hl
        obtain ⟨y, hy, rfl⟩ := hl
        have hx := opd_rel R F hy
        simp only [aop] at hv
        split at hv
        · rename_i p hp
          rw [hp] at hx
          simp only [Option.some.injEq, Prod.mk.injEq] at hv
          obtain ⟨rfl, rfl⟩ := hv
          exact (op_conv R hds hdd hx).op
        · cases hv
      · cases hl
    · cases hl
  case makeFunc fn first cap =>
    cases fn <;> simp only at hl <;> first
      | (cases hl; done)
      | skip
    simp only [Option.bind_eq_bind, Option.bind_eq_some_iff, Option.some.injEq] at hl
    obtain ⟨fs, hfs, cs, hcs, rfl⟩ := hl
    simp only [aop, Option.some.injEq, Prod.mk.injEq] at hv
    obtain ⟨rfl, rfl⟩ := hv
    have r1 := list_rel R F hfs
    have r2 := list_rel R F hcs
    refine VSim.op (.quiet R (v' := .func (.func _) (first.map a.eval) (cap.map a.eval)) (.func (.func _) ?_ ?_ ?_ ?_) rfl)
    · have := r1.1; simpa using this
    · intro i u u' p q; exact r1.2 i u u' (by simpa using p) (by simpa using q)
    · have := r2.1; simpa using this
    · intro i u u' p q; exact r2.2 i u u' (by simpa using p) (by simpa using q)
  case makeMap t r =>
    cases r <;> simp only at hl <;> first
      | (cases hl; done)
      | skip
    cases hl
    simp only [aop, Option.some.injEq, Prod.mk.injEq] at hv
    obtain ⟨rfl, rfl⟩ := hv
    refine VSim.op (.new R (o := .map [] 0) (o' := .map #[] 0) ⟨rfl, #[], rfl, ⟨rfl, fun i e e' p => by simp at p⟩⟩ (.map (r' := w.heap.size) (by simp [objSize])) ?_)
    simp [Instr.makeMap]
  case makeSlice t l c =>
    simp only [Option.bind_eq_bind, Option.bind_eq_some_iff] at hl
    obtain ⟨d, hd, hl⟩ := hl
    split at hl
    · simp only [Option.bind_eq_some_iff] at hl
      obtain ⟨i, hi, z, hz, hl⟩ := hl
      split at hl
      · rename_i hc
        simp only [Option.bind_eq_some_iff, Option.some.injEq] at hl
        obtain ⟨l', hl', c', hc', rfl⟩ := hl
        have hx := opd_rel R F hl'
        have hy := opd_rel R F hc'
        simp only [aop] at hv
        split at hv
        · rename_i p q hp hq
          rw [hp] at hx; rw [hq] at hy
          split at hv
          · rename_i hb
            simp only [Option.some.injEq, Prod.mk.injEq] at hv
            obtain ⟨rfl, rfl⟩ := hv
            exact (op_makeSlice R hd hi hz hc.1 hc.2.1 hc.2.2 hx hy hb).op
          · cases hv
        · cases hv
      · cases hl
    · cases hl
  case slice t x lo' hi mx =>
    simp only [Option.bind_eq_bind, Option.bind_eq_some_iff] at hl
    obtain ⟨d, hd, x', hx', l2, hl2, h2, hh2, m2, hm2, hl⟩ := hl
    have hx := opd_rel R F hx'
    have ors : ∀ {y : Option Operand} {y' : Option Opd}, lowOpt P y = some y' → ORel' β (y'.map (·.ev fr)) (y.map a.eval) := by
      intro y y' hy
      rcases opt_rel R F hy with ⟨rfl, rfl⟩ | ⟨p, q, rfl, rfl, hpq⟩
      · trivial
      · exact hpq
    cases d <;> simp only at hl <;> first
      | (cases hl; done)
      | skip
    · simp only [Option.bind_eq_some_iff, Option.some.injEq] at hl
      obtain ⟨s, hs, rfl⟩ := hl
      simp only [aop] at hv
      split at hv
      · rename_i b len cap hp
        rw [hp] at hx
        split at hv
        · rename_i hc
          simp only [Option.map_eq_some_iff, Prod.mk.injEq] at hv
          obtain ⟨v0, hv, rfl, rfl⟩ := hv
          exact (op_sliceS R hd hs hx hc.1 hc.2 (ors hl2) (ors hh2) (ors hm2) hv).op
        · cases hv
      · cases hv
    · split at hl
      · rename_i hn
        simp only [Option.bind_eq_some_iff, Option.some.injEq] at hl
        obtain ⟨s, hs, rfl⟩ := hl
        simp only [aop] at hv
        split at hv
        · rename_i p hp
          rw [hp] at hx
          simp only [Option.map_eq_some_iff, Prod.mk.injEq] at hv
          obtain ⟨v0, hv, rfl, rfl⟩ := hv
          exact (op_sliceA R hd hs hn hx (ors hl2) (ors hh2) (ors hm2) hv).op
        · cases hv
      · cases hl
  case fieldAddr s x f =>
    simp only [Option.bind_eq_bind, Option.bind_eq_some_iff] at hl
    obtain ⟨d, hd, hl⟩ := hl
    split at hl
    · simp only [Option.bind_eq_some_iff] at hl
      obtain ⟨fd, hfd, n, hn, hl⟩ := hl
      split at hl
      · cases hl
      · rename_i hn0
        simp only [Option.bind_eq_some_iff, Option.some.injEq] at hl
        obtain ⟨x', hx', rfl⟩ := hl
        have hx := opd_rel R F hx'
        simp only [aop] at hv
        split at hv
        · rename_i p hp
          rw [hp] at hx
          simp only [Option.some.injEq, Prod.mk.injEq] at hv
          obtain ⟨rfl, rfl⟩ := hv
          exact (op_fieldAddr R hd hfd hn hn0 hx).op
        · cases hv
    · cases hl
  case field t x f =>
    simp only [Option.bind_eq_bind, Option.bind_eq_some_iff] at hl
    obtain ⟨d, hd, hl⟩ := hl
    split at hl
    · simp only [Option.bind_eq_some_iff, Option.some.injEq] at hl
      obtain ⟨fd, hfd, agg, hagg, x', hx', rfl⟩ := hl
      have hx := opd_rel R F hx'
      simp only [aop] at hv
      split at hv
      · rename_i p hp
        rw [hp] at hx
        simp only [Option.map_eq_some_iff, Prod.mk.injEq] at hv
        obtain ⟨v0, hv, rfl, rfl⟩ := hv
        exact (op_part R hd hfd hagg hx hv).op
      · cases hv
    · cases hl
  case indexAddr t x i =>
    simp only [Option.bind_eq_bind, Option.bind_eq_some_iff] at hl
    obtain ⟨d, hd, x', hx', i', hi', hl⟩ := hl
    have hx := opd_rel R F hx'
    have hi := opd_rel R F hi'
    cases d <;> simp only at hl <;> first
      | (cases hl; done)
      | skip
    · simp only [Option.bind_eq_some_iff, Option.some.injEq] at hl
      obtain ⟨s, hs, rfl⟩ := hl
      simp only [aop] at hv
      split at hv
      · rename_i p q hp hq
        rw [hp] at hx; rw [hq] at hi
        split at hv
        · rename_i hb
          simp only [Option.some.injEq, Prod.mk.injEq] at hv
          obtain ⟨rfl, rfl⟩ := hv
          exact (op_indexAddrS R hd hs hx hi hb).op
        · cases hv
      · cases hv
    · simp only [Option.bind_eq_some_iff, Option.some.injEq] at hl
      obtain ⟨s, hs, rfl⟩ := hl
      simp only [aop] at hv
      split at hv
      · rename_i p q hp hq
        rw [hp] at hx; rw [hq] at hi
        split at hv
        · rename_i hb
          simp only [Option.some.injEq, Prod.mk.injEq] at hv
          obtain ⟨rfl, rfl⟩ := hv
          exact (op_indexAddrA R hd hs hx hi hb).op
        · cases hv
      · cases hv
  case index t x i =>
    simp only [Option.bind_eq_bind, Option.bind_eq_some_iff] at hl
    obtain ⟨d, hd, x', hx', i', hi', hl⟩ := hl
    have hx := opd_rel R F hx'
    have hi := opd_rel R F hi'
    cases d <;> simp only at hl <;> first
      | (cases hl; done)
      | skip
    · cases hl
      simp only [aop] at hv
      split at hv
      · rename_i p q hp hq
        rw [hp] at hx; rw [hq] at hi
        split at hv
        · rename_i hb
          simp only [Option.map_eq_some_iff, Prod.mk.injEq] at hv
          obtain ⟨v0, hv, rfl, rfl⟩ := hv
          exact (op_indexStr R hd hx hi hb hv).op
        · cases hv
      · cases hv
    · simp only [Option.bind_eq_some_iff, Option.some.injEq] at hl
      obtain ⟨s, hs, agg, hagg, rfl⟩ := hl
      simp only [aop] at hv
      split at hv
      · rename_i p q hp hq
        rw [hp] at hx; rw [hq] at hi
        split at hv
        · rename_i hb
          simp only [Option.map_eq_some_iff, Prod.mk.injEq] at hv
          obtain ⟨v0, hv, rfl, rfl⟩ := hv
          exact (op_indexA R hd hs hagg hx hi hb hv).op
        · cases hv
      · cases hv
  case lookup t m k ok =>
    simp only [Option.bind_eq_bind, Option.bind_eq_some_iff] at hl
    obtain ⟨d, hd, hl⟩ := hl
    split at hl
    · simp only [Option.bind_eq_some_iff] at hl
      obtain ⟨z, hz, hl⟩ := hl
      split at hl
      · rename_i hc
        simp only [Option.bind_eq_some_iff, Option.some.injEq] at hl
        obtain ⟨s, hs, m', hm', k', hk', rfl⟩ := hl
        simp only [aop] at hv
        split at hv
        · cases hv
        · rename_i es hes
          split at hv
          · cases hv
          · rename_i hok
            simp only [Option.map_eq_some_iff, Prod.mk.injEq] at hv
            obtain ⟨f, hf, rfl, rfl⟩ := hv
            exact (op_lookup R hd (keyShape_ty hs) hz hc (opd_rel R F hm') (opd_rel R F hk') hes (by simpa using hok) hf).op
      · cases hl
    · cases hl
  case insert t m k x =>
    simp only [Option.bind_eq_bind, Option.bind_eq_some_iff] at hl
    obtain ⟨d, hd, hl⟩ := hl
    split at hl
    · simp only [Option.bind_eq_some_iff, Option.some.injEq] at hl
      obtain ⟨s, hs, m', hm', k', hk', x', hx', rfl⟩ := hl
      have hm := opd_rel R F hm'
      simp only [aop] at hv
      split at hv
      · rename_i r hp
        rw [hp] at hm
        split at hv
        · rename_i hc
          split at hv
          · rename_i es clock hes
            simp only [Option.map_eq_some_iff, Prod.mk.injEq] at hv
            obtain ⟨f, hf, rfl, rfl⟩ := hv
            exact (op_mapUpdate R hd (keyShape_ty hs) hm (opd_rel R F hk') (opd_rel R F hx') hc.1 hes hc.2 hf).op
          · cases hv
        · cases hv
      · cases hv
    · cases hl
  case mapUpdate t m k x =>
    simp only [Option.bind_eq_bind, Option.bind_eq_some_iff] at hl
    obtain ⟨d, hd, hl⟩ := hl
    split at hl
    · simp only [Option.bind_eq_some_iff, Option.some.injEq] at hl
      obtain ⟨s, hs, m', hm', k', hk', x', hx', rfl⟩ := hl
      have hm := opd_rel R F hm'
      simp only [aop] at hv
      split at hv
      · rename_i r hp
        rw [hp] at hm
        split at hv
        · rename_i hc
          split at hv
          · rename_i es clock hes
            simp only [Option.map_eq_some_iff, Prod.mk.injEq] at hv
            obtain ⟨f, hf, rfl, rfl⟩ := hv
            exact (op_mapUpdate R hd (keyShape_ty hs) hm (opd_rel R F hk') (opd_rel R F hx') hc.1 hes hc.2 hf).op
          · cases hv
        · cases hv
      · cases hv
    · cases hl
  case mapEntry t m k =>
    simp only [Option.bind_eq_bind, Option.bind_eq_some_iff] at hl
    obtain ⟨d, hd, hl⟩ := hl
    split at hl
    · simp only [Option.bind_eq_some_iff] at hl
      obtain ⟨z, hz, hl⟩ := hl
      split at hl
      · rename_i hcz
        simp only [Option.bind_eq_some_iff, Option.some.injEq] at hl
        obtain ⟨s, hs, m', hm', k', hk', rfl⟩ := hl
        have hm := opd_rel R F hm'
        simp only [aop] at hv
        split at hv
        · rename_i r hp
          rw [hp] at hm
          split at hv
          · rename_i hc
            split at hv
            · rename_i es clock hes
              simp only [Option.map_eq_some_iff] at hv
              obtain ⟨f, hf, hv⟩ := hv
              exact (op_mapEntry R hd (keyShape_ty hs) hz hcz hm (opd_rel R F hk') hc.1 hes hc.2 hf hv).op
            · cases hv
          · cases hv
        · cases hv
      · cases hl
    · cases hl
  case entryStore t m s x =>
    simp only [Option.bind_eq_bind, Option.bind_eq_some_iff, Option.some.injEq] at hl
    obtain ⟨m', hm', s', hs', x', hx', rfl⟩ := hl
    have hm := opd_rel R F hm'
    have hs := opd_rel R F hs'
    simp only [aop] at hv
    split at hv
    · rename_i r k born hp hq
      rw [hp] at hm; rw [hq] at hs
      split at hv
      · rename_i hc
        split at hv
        · rename_i es clock hes
          split at hv
          · rename_i i hi
            simp only [Option.some.injEq, Prod.mk.injEq] at hv
            obtain ⟨rfl, rfl⟩ := hv
            exact (op_entryStore R t hm hs (opd_rel R F hx') hc hes hi).op
          · cases hv
        · cases hv
      · cases hv
    · cases hv
  case extract x i =>
    simp only [Option.bind_eq_bind, Option.bind_eq_some_iff, Option.some.injEq] at hl
    obtain ⟨x', hx', rfl⟩ := hl
    have hx := opd_rel R F hx'
    simp only [aop] at hv
    split at hv
    · rename_i p hp
      rw [hp] at hx
      simp only [Option.map_eq_some_iff, Prod.mk.injEq] at hv
      obtain ⟨v0, hv, rfl, rfl⟩ := hv
      exact (op_extract R hx hv).op
    · cases hv
  case call c =>
    simp only [lowCall] at hl
    split at hl
    · -- a function's value
      simp only [Option.bind_eq_bind, Option.bind_eq_some_iff, Option.some.injEq] at hl
      obtain ⟨f', hf', l', hl', rfl⟩ := hl
      simp [aop] at hv
    · cases hl
    · rename_i b hcal
      exact op_builtin R F hcal hl hv
  all_goals (cases hl)
end
end Go.RS
