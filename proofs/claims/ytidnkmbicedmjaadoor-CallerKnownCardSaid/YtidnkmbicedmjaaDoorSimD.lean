/- Each operation of the abstract machine is followed by the real one (2). -/
import Derived.Test.YtidnkmbicedmjaaDoorSimC
import Derived.Laws.Entries
namespace Go.RS
open Go

section
variable {P : Program} {lo n0 : Nat} {β : Bij} {h h1 : AH} {w : World} {fr : Fr} {a : Act}

def VSim (P : Program) (lo n0 : Nat) (β : Bij) (h : AH) (w : World) (v : Value) (h1 : AH) (r : Result Value) : Prop :=
  ∃ β1 w1 v', r = .ok v' w1 ∧ VRel β1 v v' ∧ HRel P lo n0 β1 h1 w1 ∧ Ext lo β h w β1 h1 w1
def USim (P : Program) (lo n0 : Nat) (β : Bij) (h : AH) (w : World) (h1 : AH) (r : Result Unit) : Prop :=
  ∃ β1 w1, r = .ok () w1 ∧ HRel P lo n0 β1 h1 w1 ∧ Ext lo β h w β1 h1 w1
theorem VSim.quiet (R : HRel P lo n0 β h w) {v v' : Value} (hv : VRel β v v') {r : Result Value} (hr : r = .ok v' w) : VSim P lo n0 β h w v h r :=
  ⟨β, w, v', hr, hv, R, .refl R⟩
theorem VSim.new (R : HRel P lo n0 β h w) {o : AObj} {o' : Obj} (ho : ORel P β True o (some o') (0, objSize o')) {v v' : Value}
    (hv : VRel (bset β h.size (w.heap.size, (0, objSize o'))) v v') {r : Result Value} (hr : r = .ok v' { w with heap := w.heap.push o' }) : VSim P lo n0 β h w v (h.push o) r :=
  ⟨_, _, v', hr, hv, (R.alloc o o' ho).1, (R.alloc o o' ho).2⟩
theorem VSim.op {v : Value} {s : Sem Value} (hs : VSim P lo n0 β h w v h1 (s.run P w)) : OpSim P lo n0 β h w v h1 ((do pure (.value (← s)) : Sem Next).run P w) := by
  obtain ⟨β1, w1, v', hr, hv, hR, hE⟩ := hs
  exact ⟨β1, w1, v', .value v', by simp [hr], .inl rfl, hv, hR, hE⟩
theorem USim.op {s : Sem Unit} (hs : USim P lo n0 β h w h1 (s.run P w)) : OpSim P lo n0 β h w undef h1 ((do s; pure .skip : Sem Next).run P w) := by
  obtain ⟨β1, w1, hr, hR, hE⟩ := hs
  exact ⟨β1, w1, undef, .skip, by simp [hr], .inr ⟨rfl, rfl⟩, .undef _, hR, hE⟩

theorem szOf_run {t : TypeId} {n : Nat} (h : szOf P t = some n) (w : World) : (sizeOf t).run P w = .ok n w := by
  simp only [szOf, Option.map_eq_some_iff] at h
  obtain ⟨i, hi, rfl⟩ := h
  simp [sizeOf, typeInfo, hi]
theorem zeroOf_run {t : TypeId} {z : Value} (h : zeroOf P t = some z) (w : World) : (zeroValue t).run P w = .ok z w := by
  simp only [zeroOf, Option.bind_eq_some_iff] at h
  obtain ⟨i, hi, hz⟩ := h
  simp [zeroValue, typeInfo, hi, hz]
theorem isAgg_run {t : TypeId} {d : TypeDesc} (h : P.underlying t = some d) (w : World) : (isAgg t).run P w = .ok (isAggD d) w := by
  simp only [isAgg, Sem.run_bind, run_underlying h, Result.andThen_ok]
  cases d <;> rfl
theorem sure_run (x : Addr) (w : World) : (Instr.sureAddr (.pointer (some x))).run P w = .ok x w := rfl

theorem loadVar_rel (R : HRel P lo n0 β h w) {t : TypeId} {agg : Option Nat} (ht : aggSz P t = some agg) {b o : Nat} {v : Value}
    (hv : (match agg with | none => cellAt h b o | some n => (cellsAt h b o n).map fun c => .agg c.toArray) = some v) {a' : Addr} (ha : ARel β ⟨b, o, none⟩ a') :
    ∃ v', (loadVar t a').run P w = .ok v' w ∧ VRel β v v' := by
  simp only [aggSz, Option.bind_eq_some_iff] at ht
  obtain ⟨d, hd, ht⟩ := ht
  split at ht
  · rename_i hag
    simp only [Option.map_eq_some_iff] at ht
    obtain ⟨n, hn, rfl⟩ := ht
    simp only [Option.map_eq_some_iff] at hv
    obtain ⟨c, hc, rfl⟩ := hv
    obtain ⟨hlen, c', hcc, hcell⟩ := cells_rel R hc ha
    refine ⟨.agg c'.toArray, ?_, .agg' (by simpa using hcc)⟩
    have hl : n = c'.length := by rw [← hlen, hcc.1]
    simp only [loadVar, Sem.run_bind, isAgg_run hd, Result.andThen_ok, hag, if_true, szOf_run hn]
    rw [hl, run_loadCells_list w a' c' hcell]
    rfl
  · rename_i hag
    cases ht
    obtain ⟨v', h1, h2⟩ := cell_rel R hv ha
    refine ⟨v', ?_, h2⟩
    simp only [loadVar, Sem.run_bind, isAgg_run hd, Result.andThen_ok, hag]
    simp [h1]

theorem op_load (R : HRel P lo n0 β h w) {t : TypeId} {agg : Option Nat} (ht : aggSz P t = some agg) {b o : Nat} {v : Value}
    (hv : (match agg with | none => cellAt h b o | some n => (cellsAt h b o n).map fun c => .agg c.toArray) = some v) {x' : Value} (hx : VRel β (.pointer (some ⟨b, o, none⟩)) x') :
    VSim P lo n0 β h w v h ((Instr.loadAt t x').run P w) := by
  obtain ⟨a', rfl, ha⟩ := hx.ptr_inv
  obtain ⟨v', h1, h2⟩ := loadVar_rel R ht hv ha
  refine .quiet R h2 ?_
  simp only [Instr.loadAt, Sem.run_bind, sure_run, Result.andThen_ok, h1]

theorem op_store (R : HRel P lo n0 β h w) {t : TypeId} {n : Nat} (ht : szOf P t = some n) {b o : Nat} {v v' x' : Value} (hx : VRel β (.pointer (some ⟨b, o, none⟩)) x') (hv : VRel β v v')
    (hn : v.cells.size = n) (hsc : v.cells.toList.all scal = true) (hs : setCells lo h b o v.cells.toList = some h1) :
    USim P lo n0 β h w h1 ((Instr.storeAt t x' v').run P w) := by
  obtain ⟨a', rfl, ha⟩ := hx.ptr_inv
  obtain ⟨w1, hr, hR, hE⟩ := set_rel R hs hv.cells hsc ha
  refine ⟨β, w1, ?_, hR, hE⟩
  have hn' : v'.cells.size = n := by rw [hv.cells_size, hn]
  simp only [Instr.storeAt, Sem.run_bind, sure_run, Result.andThen_ok, storeVar, szOf_run ht, hn', ne_eq, not_true_eq_false, if_false, hr]

theorem op_alloc (R : HRel P lo n0 β h w) {t : TypeId} {z : Value} (hz : zeroOf P t = some z) (hc : z.cells.all closedS = true) :
    VSim P lo n0 β h w (ptr h.size 0) (h.push (.cells z.cells.toList)) ((Instr.alloc t true (.tuple #[])).run P w) := by
  refine .new R (o' := .cells z.cells t (0, 0)) (cells_new (closedL_rel (by simpa using hc))) ptr_new ?_
  simp only [Instr.alloc, Sem.run_bind, zeroOf_run hz, Result.andThen_ok, newVar, newRow, run_newObj, Sem.run_pure]
theorem op_box (R : HRel P lo n0 β h w) (t : TypeId) {v v' : Value} (hv : VRel β v v') :
    VSim P lo n0 β h w (ptr h.size 0) (h.push (.cells v.cells.toList)) ((Instr.box t v').run P w) := by
  refine .new R (o' := .cells v'.cells t (0, 0)) (cells_new hv.cells) ptr_new ?_
  simp only [Instr.box, Sem.run_bind, Result.andThen_ok, newVar, newRow, run_newObj, Sem.run_pure]

/-! ### Values put together -/
theorem zip_set (vs : List Value) : ∀ (off j : Nat) (cells : List Value), off + j + vs.length ≤ cells.length →
    (vs.toArray.zipIdx j).foldl (fun (cs : Array Value) (p : Value × Nat) => cs.setIfInBounds (off + p.2) p.1) cells.toArray = (splice cells (off + j) vs).toArray := by
  induction vs with
  | nil => intro off j cells _; rw [← Array.foldl_toList]; simp [splice]
  | cons v vs ih =>
    intro off j cells hl
    simp only [List.length_cons] at hl
    have e1 : ((v :: vs).toArray.zipIdx j).foldl (fun (cs : Array Value) (p : Value × Nat) => cs.setIfInBounds (off + p.2) p.1) cells.toArray =
        (vs.toArray.zipIdx (j + 1)).foldl (fun (cs : Array Value) (p : Value × Nat) => cs.setIfInBounds (off + p.2) p.1) (cells.toArray.setIfInBounds (off + j) v) := by
      rw [← Array.foldl_toList, ← Array.foldl_toList]
      simp [List.zipIdx_cons]
    rw [e1]
    have e2 : cells.toArray.setIfInBounds (off + j) v = (cells.set (off + j) v).toArray := by simp
    rw [e2, ih off (j + 1) _ (by simp; omega)]
    congr 1
    unfold splice
    apply List.ext_getElem?
    intro i
    have h1 : ((cells.set (off + j) v).take (off + (j + 1))).length = off + (j + 1) := by simp; omega
    have h2 : (cells.take (off + j)).length = off + j := by simp; omega
    by_cases c1 : i < off + j
    · rw [List.append_assoc, List.append_assoc, List.getElem?_append_left (by omega), List.getElem?_append_left (by omega), List.getElem?_take, List.getElem?_take, if_pos (by omega), if_pos c1, List.getElem?_set_ne (by omega)]
    · by_cases c2 : i = off + j
      · subst c2
        rw [List.append_assoc, List.getElem?_append_left (by omega), List.getElem?_take, if_pos (by omega), List.getElem?_set_self (by omega)]
        rw [List.append_assoc, List.getElem?_append_right (by omega), h2]
        simp
      · by_cases c3 : i < off + j + (vs.length + 1)
        · rw [List.append_assoc, List.getElem?_append_right (by omega), h1, List.getElem?_append_left (by omega)]
          rw [List.append_assoc, List.getElem?_append_right (by omega), h2, List.getElem?_append_left (by simp; omega)]
          rw [show i - (off + j) = (i - (off + (j + 1))) + 1 by omega, List.getElem?_cons_succ]
        · rw [List.getElem?_append_right (by simp; omega), List.getElem?_append_right (by simp; omega), List.getElem?_drop, List.getElem?_drop]
          simp only [List.length_append, h1, h2, List.length_cons]
          rw [List.getElem?_set_ne (by omega)]
          congr 1; omega
theorem fill_rel {place : Nat → Option (Nat × Nat)} : ∀ {ps : List (Nat × Operand)} {qs : List (Nat × Nat × Opd)} {c c' z : List Value},
    HRel P lo n0 β h w → FRel β fr a.tmps → lowParts P place ps = some qs → LRel β z c' → fillL (qs.map fun p => (p.1, p.2.1, p.2.2.ev fr)) z = some c →
    ∃ d : List Value, Instr.fill place c'.toArray (ps.map fun (i, x) => (i, a.eval x)) = some d.toArray ∧ LRel β c d
  | [], qs, c, c', z, R, F, hp, hz, hf => by
    simp [lowParts] at hp; subst hp
    simp [fillL] at hf; subst hf
    exact ⟨c', by simp [Instr.fill], hz⟩
  | (i, x) :: ps, qs, c, c', z, R, F, hp, hz, hf => by
    simp only [lowParts, Option.bind_eq_bind, Option.bind_eq_some_iff] at hp
    obtain ⟨⟨off, s⟩, h1, y, hy, r, hr, he⟩ := hp
    cases he
    simp only [List.map_cons, fillL] at hf
    split at hf
    · rename_i hc
      obtain ⟨hc1, hc2⟩ := hc
      have hv := opd_rel R F hy
      have hsz : (a.eval x).cells.size = s := by rw [hv.cells_size, hc1]
      have hl := hz.1
      have hcells : ((a.eval x).cells.zipIdx.foldl (fun cs (c, j) => cs.setIfInBounds (off + j) c) c'.toArray) = (splice c' off (a.eval x).cells.toList).toArray := by
        have := zip_set (a.eval x).cells.toList off 0 c' (by simp; omega)
        simpa using this
      obtain ⟨d, hd, hcd⟩ := fill_rel R F hr (hz.splice hv.cells off) hf
      refine ⟨d, ?_, hcd⟩
      simp only [List.map_cons, Instr.fill, h1]
      rw [if_neg (by simp; omega), hcells]
      exact hd
    · cases hf
end
end Go.RS
