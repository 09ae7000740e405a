/- Each operation of the abstract machine is followed by the real one. -/
import Derived.Test.YtidnkmbicedmjaaDoorSimB
import Derived.Laws.Append
import Derived.Laws.CopyRow
import Derived.ChangeKeysEq
namespace Go.RS
open Go

section
variable {P : Program} {lo n0 : Nat} {β : Bij} {h h1 : AH} {w : World} {fr : Fr} {a : Act}

theorem opd_rel (R : HRel P lo n0 β h w) (F : FRel β fr a.tmps) {x : Operand} {y : Opd} (hx : lowOpd P x = some y) : VRel β (y.ev fr) (a.eval x) := by
  cases x with
  | tmp t => simp only [lowOpd, Option.some.injEq] at hx; subst hx; exact F t
  | const v =>
    simp only [lowOpd] at hx
    split at hx
    · rename_i hc; cases hx; exact closedV_rel hc
    · cases hx
  | global g =>
    simp only [lowOpd] at hx
    split at hx
    · rename_i hg; cases hx
      obtain ⟨z, hz⟩ := R.glob g hg
      exact .ptr ⟨rfl, rfl, (0, z), hz, by simp⟩
    · cases hx
  | func f =>
    simp only [lowOpd, Option.some.injEq] at hx; subst hx
    exact .func (.func f) rfl (fun i v v' h => by simp at h) rfl (fun i v v' h => by simp at h)

theorem list_rel (R : HRel P lo n0 β h w) (F : FRel β fr a.tmps) : ∀ {xs : List Operand} {ys : List Opd}, lowList P xs = some ys → LRel β (ys.map (·.ev fr)) (xs.map a.eval)
  | [], ys, hx => by simp [lowList] at hx; subst hx; exact .nil β
  | x :: xs, ys, hx => by
    simp only [lowList, Option.bind_eq_bind, Option.bind_eq_some_iff] at hx
    obtain ⟨y, hy, z, hz, he⟩ := hx
    cases he
    exact .cons (opd_rel R F hy) (list_rel R F hz)
theorem opt_rel (R : HRel P lo n0 β h w) (F : FRel β fr a.tmps) {x : Option Operand} {y : Option Opd} (hx : lowOpt P x = some y) :
    (x = none ∧ y = none) ∨ ∃ x' y', x = some x' ∧ y = some y' ∧ VRel β (y'.ev fr) (a.eval x') := by
  cases x with
  | none => simp [lowOpt] at hx; exact .inl ⟨rfl, hx.symm⟩
  | some x =>
    simp only [lowOpt, Option.map_eq_some_iff] at hx
    obtain ⟨y, hy, rfl⟩ := hx
    exact .inr ⟨x, y, rfl, rfl, opd_rel R F hy⟩

/-- What following one operation gives. -/
def OpSim (P : Program) (lo n0 : Nat) (β : Bij) (h : AH) (w : World) (v : Value) (h1 : AH) (r : Result Next) : Prop :=
  ∃ β1 w1 v' nx, r = .ok nx w1 ∧ (nx = .value v' ∨ (nx = .skip ∧ v' = undef)) ∧ VRel β1 v v' ∧ HRel P lo n0 β1 h1 w1 ∧ Ext lo β h w β1 h1 w1

theorem OpSim.quiet (R : HRel P lo n0 β h w) {v v' : Value} (hv : VRel β v v') {r : Result Next} (hr : r = .ok (.value v') w) : OpSim P lo n0 β h w v h r :=
  ⟨β, w, v', .value v', hr, .inl rfl, hv, R, .refl R⟩
theorem OpSim.new (R : HRel P lo n0 β h w) {o : AObj} {o' : Obj} (ho : ORel P β True o (some o') (0, objSize o')) {v v' : Value}
    (hv : VRel (bset β h.size (w.heap.size, (0, objSize o'))) v v') {r : Result Next} (hr : r = .ok (.value v') { w with heap := w.heap.push o' }) : OpSim P lo n0 β h w v (h.push o) r :=
  ⟨_, _, v', .value v', hr, .inl rfl, hv, (R.alloc o o' ho).1, (R.alloc o o' ho).2⟩

theorem cells_new {β : Bij} {c : List Value} {c' : Array Value} {e : TypeId} (h : LRel β c c'.toList) : ORel P β True (.cells c) (some (.cells c' e (0, 0))) (0, objSize (.cells c' e (0, 0))) :=
  ⟨c', e, (0, 0), rfl, fun _ => rfl, rfl, fun i v hv => by
    obtain ⟨v', h1, h2⟩ := h.get hv
    exact ⟨v', by simpa using h1, h2⟩⟩
theorem arel_new {z : Nat} : ARel (bset β h.size (w.heap.size, (0, z))) ⟨h.size, 0, none⟩ ⟨w.heap.size, 0, none⟩ := ⟨rfl, rfl, (0, z), by simp, rfl⟩
theorem ptr_new {z : Nat} : VRel (bset β h.size (w.heap.size, (0, z))) (ptr h.size 0) (.pointer (some ⟨w.heap.size, 0, none⟩)) :=
  .ptr ⟨rfl, rfl, (0, z), by simp, rfl⟩

/-- A cell that reads. -/
theorem cell_rel (R : HRel P lo n0 β h w) {b o : Nat} {v : Value} (hc : cellAt h b o = some v) {a' : Addr} (ha : ARel β ⟨b, o, none⟩ a') :
    ∃ v', w.cell? a' = some v' ∧ VRel β v v' := by
  obtain ⟨_, hs, d, hb, ho⟩ := ha
  unfold cellAt at hc
  split at hc
  · rename_i c hcb
    obtain ⟨c', e, fz, h1, _, _, h3⟩ := R.obj b a'.block d _ hb hcb
    obtain ⟨v', h4, h5⟩ := h3 o v hc
    refine ⟨v', ?_, h5⟩
    unfold World.cell?
    rw [h1]
    simp only [hs, Option.isSome_none, Bool.false_eq_true, if_false]
    rw [ho]; exact h4
  · cases hc
theorem cells_rel (R : HRel P lo n0 β h w) {b o n : Nat} {c : List Value} (hc : cellsAt h b o n = some c) {a' : Addr} (ha : ARel β ⟨b, o, none⟩ a') :
    c.length = n ∧ ∃ c' : List Value, LRel β c c' ∧ ∀ (j : Nat) (v : Value), c'[j]? = some v → w.cell? (a'.add j) = some v := by
  obtain ⟨_, hs, d, hb, ho⟩ := ha
  unfold cellsAt at hc
  split at hc
  · rename_i cs hcb
    split at hc
    · rename_i hlen
      cases hc
      obtain ⟨c', e, fz, h1, _, _, h3⟩ := R.obj b a'.block d _ hb hcb
      have hlen' : ∀ i, i < cs.length → d.1 + i < c'.size := fun i hi => by
        obtain ⟨v', h4, _⟩ := h3 i cs[i] (List.getElem?_eq_getElem hi)
        exact (Array.getElem?_eq_some_iff.1 h4).1
      refine ⟨by simp; omega, (c'.toList.drop (d.1 + o)).take n, ⟨?_, ?_⟩, ?_⟩
      · simp only [List.length_take, List.length_drop, Array.length_toList]
        rcases Nat.eq_zero_or_pos n with hn | hn
        · simp [hn]
        · have := hlen' (o + n - 1) (by omega); omega
      · intro i v v' x y
        rw [List.getElem?_take] at x y
        split at x
        · rename_i hi
          rw [if_pos hi, List.getElem?_drop] at y
          rw [List.getElem?_drop] at x
          obtain ⟨v2, h4, h5⟩ := h3 _ _ x
          rw [← Array.getElem?_toList] at h4
          rw [Nat.add_assoc] at y
          rw [y] at h4; cases h4; exact h5
        · cases x
      · intro j v hv
        rw [List.getElem?_take] at hv
        split at hv
        · rw [List.getElem?_drop] at hv
          unfold World.cell?
          have e1 : (a'.add j).block = a'.block := by unfold Addr.add; split <;> rfl
          have e2 : (a'.add j).spot = none := by unfold Addr.add; split <;> simp [hs]
          have e3 : (a'.add j).off = a'.off + j := by unfold Addr.add; split <;> simp_all
          rw [e1, h1]
          simp only [e2, e3, Option.isSome_none, Bool.false_eq_true, if_false]
          rw [ho, ← Array.getElem?_toList]; exact hv
        · cases hv
    · cases hc
  · cases hc

theorem ARel.add {β : Bij} {x x' : Addr} (h : ARel β x x') (n : Nat) : ARel β (x.add n) (x'.add n) := by
  obtain ⟨h1, h2, d, h3, h4⟩ := h
  unfold Addr.add
  split
  · exact ⟨h1, h2, d, h3, h4⟩
  · exact ⟨rfl, rfl, d, h3, by simp; omega⟩
theorem VRel.ptr_inv {β : Bij} {x : Addr} {v' : Value} (h : VRel β (.pointer (some x)) v') : ∃ x', v' = .pointer (some x') ∧ ARel β x x' := by
  cases h with
  | ptr h => exact ⟨_, rfl, h⟩
theorem VRel.int_inv {β : Bij} {k : IntKind} {n : Int} {v' : Value} (h : VRel β (.int k n) v') : v' = .int k n := by cases h; rfl
theorem VRel.bool_inv {β : Bij} {b : Bool} {v' : Value} (h : VRel β (.bool b) v') : v' = .bool b := by cases h; rfl
theorem VRel.str_inv {β : Bij} {s : ByteArray} {v' : Value} (h : VRel β (.string s) v') : v' = .string s := by cases h; rfl
theorem VRel.agg_inv {β : Bij} {x : Array Value} {v' : Value} (h : VRel β (.agg x) v') : ∃ x', v' = .agg x' ∧ LRel β x.toList x'.toList := by
  cases h with
  | agg s h => exact ⟨_, rfl, arr_rel s h⟩
theorem VRel.tuple_inv {β : Bij} {x : Array Value} {v' : Value} (h : VRel β (.tuple x) v') : ∃ x', v' = .tuple x' ∧ LRel β x.toList x'.toList := by
  cases h with
  | tuple s h => exact ⟨_, rfl, arr_rel s h⟩

/-- A store of cells into a block of the run's own. -/
theorem set_rel (R : HRel P lo n0 β h w) {b o : Nat} {vs vs' : List Value} (hs : setCells lo h b o vs = some h1) (hv : LRel β vs vs') (hsc : vs.all scal = true) {a' : Addr} (ha : ARel β ⟨b, o, none⟩ a') :
    ∃ w1, (storeCells a' vs').run P w = .ok () w1 ∧ HRel P lo n0 β h1 w1 ∧ Ext lo β h w β h1 w1 := by
  obtain ⟨_, hsp, d, hb, ho⟩ := ha
  dsimp only at hb ho
  unfold setCells at hs
  split at hs
  · rename_i c hcb
    split at hs
    · rename_i hlo
      obtain ⟨hlo, hlen⟩ := hlo
      cases hs
      obtain ⟨c', e, fz, g1, g2, gz, g3⟩ := R.obj b a'.block d _ hb hcb
      have hfz := g2 hlo; subst hfz
      have hlen' : ∀ i, i < c.length → d.1 + i < c'.size := fun i hi => by
        obtain ⟨v', h4, _⟩ := g3 i c[i] (List.getElem?_eq_getElem hi)
        exact (Array.getElem?_eq_some_iff.1 h4).1
      have hone : ∀ v ∈ vs', v.oneCell' = true := by
        intro v hv'
        obtain ⟨i, hi⟩ := List.getElem?_of_mem hv'
        have hil : i < vs.length := hv.1 ▸ (List.getElem?_eq_some_iff.1 hi).1
        have h5 := hv.2 i vs[i] v (List.getElem?_eq_getElem hil) hi
        have h6 := h5.scal
        rw [List.all_eq_true.1 hsc vs[i] (by simp)] at h6
        cases v <;> simp_all [RS.scal, Value.oneCell']
      have haddr : a' = ⟨a'.block, a'.off, none⟩ := by obtain ⟨x, y, z⟩ := a'; simp only at hsp; subst hsp; rfl
      by_cases hvs : vs = []
      · subst hvs
        have hnil : vs' = [] := List.eq_nil_of_length_eq_zero hv.1.symm
        subst hnil
        refine ⟨w, by simp [storeCells], ?_⟩
        have : splice c o [] = c := by simp [splice]
        rw [this]
        have he : h.setIfInBounds b (.cells c) = h := by
          apply Array.ext_getElem?
          intro i
          by_cases hi : i = b
          · subst hi
            have hlt : i < h.size := (R.dom i _ _ hb).1
            rw [Array.getElem?_setIfInBounds_self]; simp only [hlt, if_true]; exact hcb.symm
          · rw [Array.getElem?_setIfInBounds_ne (Ne.symm hi)]
        rw [he]
        exact ⟨R, .refl R⟩
      · have hpos : 0 < vs.length := List.length_pos_iff.2 hvs
        have hin : a'.off + 0 + vs'.length ≤ c'.size := by
          have h7 := hlen' (o + vs.length - 1) (by omega)
          rw [ho, ← hv.1]; omega
        have hrun := run_storeCells_at (P := P) a'.block a'.off e vs' 0 c' w g1 hin hone
        rw [← haddr] at hrun
        refine ⟨_, hrun, ?_⟩
        have hw : w.setRow a'.block (c'.toList.take (a'.off + 0) ++ vs' ++ c'.toList.drop (a'.off + 0 + vs'.length)).toArray =
            { w with heap := w.heap.setIfInBounds a'.block (.cells (c'.toList.take a'.off ++ vs' ++ c'.toList.drop (a'.off + vs'.length)).toArray e (0, 0)) } := by
          simp only [World.setRow, Nat.add_zero]
          congr 1
          apply Array.ext_getElem?
          intro i
          by_cases hi : i = a'.block
          · subst hi
            have hlt : a'.block < w.heap.size := (R.dom b _ _ hb).2
            rw [Array.getElem?_modify, if_pos rfl, g1, Array.getElem?_setIfInBounds_self]
            simp only [hlt, if_true, Option.map_some]
          · rw [Array.getElem?_setIfInBounds_ne (Ne.symm hi), Array.getElem?_modify, if_neg (Ne.symm hi)]
        rw [hw]
        refine R.set hlo hb (by rw [hcb]; simp) _ _ ?_ (by simp) (fun L hL => by rw [g1] at hL; cases hL)
        refine ⟨_, _, _, rfl, fun _ => rfl, ?_, fun i v hiv => ?_⟩
        · rw [← gz]; have := hv.1; simp; omega
        simp only [List.getElem?_toArray]
        unfold RS.splice at hiv
        by_cases hi1 : i < o
        · rw [List.append_assoc, List.getElem?_append_left (by simp; omega), List.getElem?_take, if_pos hi1] at hiv
          obtain ⟨v', h8, h9⟩ := g3 i v hiv
          refine ⟨v', ?_, h9⟩
          rw [List.append_assoc, List.getElem?_append_left (by simp; omega), List.getElem?_take, if_pos (by omega), Array.getElem?_toList]
          exact h8
        · by_cases hi2 : i < o + vs.length
          · rw [List.append_assoc, List.getElem?_append_right (by simp; omega), List.getElem?_append_left (by simp; omega)] at hiv
            have hmin : (c.take o).length = o := by simp; omega
            rw [hmin] at hiv
            obtain ⟨v', h8, h9⟩ := hv.get hiv
            refine ⟨v', ?_, h9⟩
            have hmin' : (c'.toList.take a'.off).length = a'.off := by simp; omega
            have hl' := hv.1
            rw [List.append_assoc, List.getElem?_append_right (by rw [hmin']; omega), hmin', List.getElem?_append_left (by omega)]
            rw [show d.1 + i - a'.off = i - o by omega]; exact h8
          · rw [List.getElem?_append_right (by simp; omega), List.getElem?_drop] at hiv
            have hmin : (c.take o ++ vs).length = o + vs.length := by simp; omega
            rw [hmin] at hiv
            rw [show o + vs.length + (i - (o + vs.length)) = i by omega] at hiv
            obtain ⟨v', h8, h9⟩ := g3 i v hiv
            refine ⟨v', ?_, h9⟩
            have hl' := hv.1
            have hmin' : (c'.toList.take a'.off ++ vs').length = a'.off + vs'.length := by simp; omega
            rw [List.getElem?_append_right (by rw [hmin']; omega), hmin', List.getElem?_drop, show a'.off + vs'.length + (d.1 + i - (a'.off + vs'.length)) = d.1 + i by omega, Array.getElem?_toList]
            exact h8
    · cases hs
  · cases hs
end
end Go.RS
