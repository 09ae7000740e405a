/- Code (1): results, marks, records. -/
import Derived.Test.YtidnkmbicedmjaaDoorSimY
import Derived.RangeFuncCalls
namespace Go.RS
open Go

section
variable {P : Program} {lo n0 : Nat} {β β1 : Bij} {h h1 : AH} {w w1 : World} {fr : Fr}

def AExit.real : AExit → Exit
  | .normal => .normal | .exit id => .exit id | .ret => .ret

/-! ### Results -/
theorem result_one (R : HRel P lo n0 β h w) {tmps : Array Value} (F : FRel β fr tmps) {r : ResultVar} {x : Nat × Option (Option Nat)} (hr : lowRes P r = some x) {v : Value} (hv : resultA fr h x = some v) :
    ∃ v', ((match r with | .tmp t => pure (tmps.getD t undef) | .cell a t => do loadVar t (← asAddr (tmps.getD a undef)) : Sem Value)).run P w = .ok v' w ∧ VRel β v v' := by
  cases r with
  | tmp t =>
    simp only [lowRes, Option.some.injEq] at hr
    subst hr
    simp only [resultA, Option.some.injEq] at hv
    subst hv
    exact ⟨_, rfl, F t⟩
  | cell a t =>
    simp only [lowRes, Option.map_eq_some_iff] at hr
    obtain ⟨s, hs, rfl⟩ := hr
    simp only [resultA] at hv
    split at hv
    · rename_i b o hp
      have hF := F a
      rw [hp] at hF
      obtain ⟨a', ha, har⟩ := hF.ptr_inv
      have key : ∃ v', (loadVar t a').run P w = .ok v' w ∧ VRel β v v' := by
        cases s with
        | none => exact loadVar_rel R (agg := none) hs hv har
        | some n => exact loadVar_rel R (agg := some n) hs hv har
      obtain ⟨v', h2, h3⟩ := key
      refine ⟨v', ?_, h3⟩
      simp only [Sem.run_bind, ha]
      simp [asAddr, Result.andThen, h2]
    · cases hv
theorem results_list (R : HRel P lo n0 β h w) {tmps : Array Value} (F : FRel β fr tmps) {g : ResultVar → Sem Value} (hg : ∀ r, g r = (match r with | .tmp t => pure (tmps.getD t undef) | .cell a t => do loadVar t (← asAddr (tmps.getD a undef)))) :
    ∀ {rs : List ResultVar} {xs : List (Nat × Option (Option Nat))} {vs : List Value}, rs.mapM (lowRes P) = some xs → xs.mapM (resultA fr h) = some vs → ∃ vs', (rs.mapM g).run P w = .ok vs' w ∧ LRel β vs vs'
  | [], xs, vs, h1, h2 => by
    simp at h1; subst h1
    simp at h2; subst h2
    exact ⟨[], by simp, .nil β⟩
  | r :: rs, xs, vs, h1, h2 => by
    simp only [List.mapM_cons, Option.bind_eq_bind, Option.bind_eq_some_iff, Option.pure_def, Option.some.injEq] at h1
    obtain ⟨x, hx, ys, hys, rfl⟩ := h1
    simp only [List.mapM_cons, Option.bind_eq_bind, Option.bind_eq_some_iff, Option.pure_def, Option.some.injEq] at h2
    obtain ⟨v, hv, us, hus, rfl⟩ := h2
    obtain ⟨v', h3, h4⟩ := result_one R F hx hv
    obtain ⟨us', h5, h6⟩ := results_list R F hg hys hus
    refine ⟨v' :: us', ?_, .cons h4 h6⟩
    rw [← hg] at h3
    simp only [List.mapM_cons, Sem.run_bind, h3, Result.andThen_ok, h5, Sem.run_pure]
theorem results_rel (R : HRel P lo n0 β h w) {tmps : Array Value} (F : FRel β fr tmps) {fn : Func} {xs : List (Nat × Option (Option Nat))} (hx : fn.results.toList.mapM (lowRes P) = some xs) {v : Value} (hv : resultsA xs fr h = some v) :
    ∃ v', (results fn tmps).run P w = .ok v' w ∧ VRel β v v' := by
  unfold resultsA at hv
  cases hm : xs.mapM (resultA fr h) with
  | none => rw [hm] at hv; cases hv
  | some vs =>
    have hg : ∃ g : ResultVar → Sem Value, (∀ r, g r = (match r with | .tmp t => pure (tmps.getD t undef) | .cell a t => do loadVar t (← asAddr (tmps.getD a undef)))) ∧
        results fn tmps = (do let vs ← fn.results.mapM g; pure (if h : vs.size = 1 then vs[0] else .tuple vs)) := ⟨_, fun r => rfl, rfl⟩
    obtain ⟨g, hg, hres⟩ := hg
    obtain ⟨vs', h2, h3⟩ := results_list (P := P) R F hg hx hm
    have hrun : ∀ u, (if h : vs'.toArray.size = 1 then vs'.toArray[0] else .tuple vs'.toArray : Value) = u → (results fn tmps).run P w = .ok u w := by
      intro u hu
      rw [hres, Array.mapM_eq_mapM_toList]
      simp only [Sem.run_bind, Sem.run_map, h2, Result.andThen_ok, Sem.run_pure]
      exact congrArg (Result.ok · w) hu
    refine ⟨_, hrun _ rfl, ?_⟩
    rw [hm] at hv
    cases vs with
    | nil =>
      cases hv
      have : vs' = [] := List.length_eq_zero_iff.1 h3.1.symm
      subst this
      exact .tuple' (.nil β)
    | cons x t =>
      cases t with
      | nil =>
        cases hv
        obtain ⟨y, rfl⟩ : ∃ y, vs' = [y] := List.length_eq_one_iff.1 h3.1.symm
        exact h3.head
      | cons y t =>
        cases hv
        have hl : vs'.toArray.size ≠ 1 := by have := h3.1; simp at this ⊢; omega
        rw [dif_neg hl]
        exact .tuple' (by simpa using h3)

/-! ### Marks -/
def markOf (r : Nat) : Deferred := { target := .collected r, args := #[] }
def MarkL (n : Nat) (w : World) (ds : List Deferred) : Prop := ∃ rs : List Nat, ds = rs.map markOf ∧ rs.Nodup ∧ ∀ r ∈ rs, n ≤ r ∧ w.heap[r]? = some (.deferred (some []))
theorem MarkL.nil (n : Nat) (w : World) : MarkL n w [] := ⟨[], rfl, .nil, fun r h => by cases h⟩

theorem mark_free (R : HRel P lo n0 β h w) {r : Nat} {ds : Option (List Deferred)} (hr : w.heap[r]? = some (.deferred ds)) (b : Nat) (d : Nat × Nat) (hb : β b = some (r, d)) : h[b]? = some .junk := by
  have hlt := (R.dom b r d hb).1
  have := R.obj b r d h[b] hb (Array.getElem?_eq_getElem hlt)
  rw [Array.getElem?_eq_getElem hlt]
  rw [hr] at this
  cases ho : h[b] with
  | junk => rfl
  | cells c => rw [ho] at this; obtain ⟨_, _, _, h1, _⟩ := this; cases h1
  | map es c => rw [ho] at this; obtain ⟨_, _, h1, _⟩ := this; cases h1
  | loop L => rw [ho] at this; obtain ⟨_, _, h1, _⟩ := this; cases h1
theorem MarkL.ext (R : HRel P lo n0 β h w) (E : Ext lo β h w β1 h1 w1) {n : Nat} {ds : List Deferred} (hm : MarkL n w ds) : MarkL n w1 ds := by
  obtain ⟨rs, h2, h3, h4⟩ := hm
  refine ⟨rs, h2, h3, fun r hr => ⟨(h4 r hr).1, ?_⟩⟩
  have := (h4 r hr).2
  rw [E.keep r (Array.getElem?_eq_some_iff.1 this).1 (fun b d _ hb => mark_free R this b d hb)]
  exact this
theorem MarkL.append {n m : Nat} {a b : List Deferred} (ha : MarkL n w a) (hb : MarkL m w b) (hnm : n ≤ m) (hlt : ∀ d ∈ a, ∀ r, d = markOf r → r < m) : MarkL n w (b ++ a) := by
  obtain ⟨rs, rfl, h2, h3⟩ := ha
  obtain ⟨ss, rfl, k2, k3⟩ := hb
  refine ⟨ss ++ rs, by simp, ?_, fun r hr => ?_⟩
  · rw [List.nodup_append]
    refine ⟨k2, h2, fun x hx y hy hxy => ?_⟩
    subst hxy
    have := (k3 x hx).1
    have := hlt (markOf x) (List.mem_map.2 ⟨x, hy, rfl⟩) x rfl
    omega
  · rcases List.mem_append.1 hr with h | h
    · exact ⟨Nat.le_trans hnm (k3 r h).1, (k3 r h).2⟩
    · exact h3 r h
theorem MarkL.lt {n : Nat} {ds : List Deferred} (hm : MarkL n w ds) : ∀ d ∈ ds, ∀ r, d = markOf r → r < w.heap.size := by
  obtain ⟨rs, rfl, h2, h3⟩ := hm
  intro d hd r hr
  obtain ⟨r', h4, rfl⟩ := List.mem_map.1 hd
  have : r' = r := by simpa [markOf] using hr
  subst this
  exact (Array.getElem?_eq_some_iff.1 (h3 r' h4).2).1

/-- A block that nobody names is laid, or turned. -/
theorem HRel.realAlloc (R : HRel P lo n0 β h w) (o' : Obj) : HRel P lo n0 β h { w with heap := w.heap.push o' } ∧ Ext lo β h w β h { w with heap := w.heap.push o' } := by
  refine ⟨⟨fun b r d hb => ?_, fun b r d o hb ho => ?_, R.img, R.low, R.inj, R.glob, R.los, ?_⟩, ⟨fun _ _ => rfl, Nat.le_refl _, by simp, fun _ _ _ h => h, fun r hr _ => ?_, fun b r d hb hx => ?_, fun r L hL => ⟨L, ?_⟩, rfl, rfl, rfl⟩⟩
  · have := R.dom b r d hb; simp; omega
  · have h2 := R.dom b r d hb
    have := R.obj b r d o hb ho
    show ORel P β _ o (w.heap.push o')[r]? d
    rw [Array.getElem?_push, if_neg (by omega)]; exact this
  · have := R.n0s; simp; omega
  · show (w.heap.push o')[r]? = _
    rw [Array.getElem?_push, if_neg (by omega)]
  · have := (R.dom b r d hx).1; omega
  · have := (Array.getElem?_eq_some_iff.1 hL).1
    show (w.heap.push o')[r]? = _
    rw [Array.getElem?_push, if_neg (by omega)]; exact hL
theorem HRel.shut (R : HRel P lo n0 β h w) {r : Nat} {ds : Option (List Deferred)} (hr : w.heap[r]? = some (.deferred ds)) (x : Option (List Deferred)) : HRel P lo n0 β h (w.putObj r (.deferred x)) := by
  refine ⟨fun b r' d hb => ?_, fun b r' d o hb ho => ?_, R.img, R.low, R.inj, R.glob, R.los, by simpa using R.n0s⟩
  · have := R.dom b r' d hb; simpa using this
  · by_cases he : r' = r
    · subst he
      have := mark_free R hr b d hb
      rw [ho] at this; cases this; trivial
    · rw [World.putObj_heap_other he]; exact R.obj b r' d o hb ho
theorem Ext.shut {β0 : Bij} {h0 : AH} {w0 : World} (E : Ext lo β0 h0 w0 β h w) {r : Nat} (hn : w0.heap.size ≤ r) (x : Option (List Deferred)) :
    Ext lo β0 h0 w0 β h (w.putObj r (.deferred x)) := by
  refine ⟨E.agree, E.hs, by simpa using E.ws, E.junk, fun r' h2 h3 => ?_, E.fresh, fun r' L hL => ?_, E.env⟩
  · rw [World.putObj_heap_other (by omega)]; exact E.keep r' h2 h3
  · have := (Array.getElem?_eq_some_iff.1 hL).1
    rw [World.putObj_heap_other (by omega)]; exact E.lps r' L hL

def retK (K : Value → World → Prop) : Ending → World → Prop
  | .returned v, w => K v w
  | _, _ => False

/-- The activation leaves: its marks' blocks are shut; its results are read. -/
theorem leaves {tmps : Array Value} (F : FRel β fr tmps) {fn : Func} {xs : List (Nat × Option (Option Nat))} (hx : fn.results.toList.mapM (lowRes P) = some xs) {v : Value} (hv : resultsA xs fr h = some v) {β0 : Bij} {h0 : AH} {w0 : World}
    {K : Value → World → Prop} (hK : ∀ w1 v', VRel β v v' → HRel P lo n0 β h w1 → Ext lo β0 h0 w0 β h w1 → K v' w1) :
    ∀ (rs : List Nat) (w : World), HRel P lo n0 β h w → Ext lo β0 h0 w0 β h w → rs.Nodup → (∀ r ∈ rs, w0.heap.size ≤ r ∧ w.heap[r]? = some (.deferred (some []))) →
      LeavesInM Fence.wide 0 P fn tmps (retK K) (rs.map markOf) .returning w
  | [], w, R, E, _, _ => by
    obtain ⟨v', h1, h2⟩ := results_rel R F hx hv
    exact ⟨v', h1, hK w v' h2 R E⟩
  | r :: rs, w, R, E, hnd, hr => by
    obtain ⟨h1, h2⟩ := hr r (by simp)
    have hnd' := List.nodup_cons.1 hnd
    refine ⟨by simp, .inl ⟨r, _, rfl, run_takeDeferred h2, ?_⟩⟩
    refine leaves F hx hv hK rs _ (R.shut h2 none) (E.shut h1 none) hnd'.2 fun r' hr' => ?_
    have hne : r' ≠ r := by rintro rfl; exact hnd'.1 hr'
    rw [World.putObj_heap_other hne]
    exact hr r' (by simp [hr'])

/-- The record of a range over a function is laid. -/
theorem enter_rel (R : HRel P lo n0 β h w) {a : Act} (F : FRel β fr a.tmps) {ro : Option Nat} (hla : LoopAt ro w) (fn : FuncId) {ps : Array Nat} {pl : List Nat} (hps : ps.toList = pl) (hpb : ∀ p ∈ pl, p < a.tmps.size) {as bd : Code} {as' bd' : ACode}
    (ha : lowC P a.tmps.size as = as') (hb : lowC P a.tmps.size bd = bd') :
    ∃ l mark w1, (Instr.enterLoop fn a.tmps ps as bd ro).run P w = .ok (l, mark) w1 ∧ MarkL w.heap.size w1 mark ∧ HRel P lo n0 (bset β h.size (l, (0, 0))) (h.push (.loop ⟨fr, pl, as', bd', .ready, none⟩)) w1 ∧
      Ext lo β h w (bset β h.size (l, (0, 0))) (h.push (.loop ⟨fr, pl, as', bd', .ready, none⟩)) w1 := by
  have hL : ∀ (df : Nat), LoopRel P β ⟨fr, pl, as', bd', .ready, none⟩ { state := .ready, pending := none, fn, tmps := a.tmps, params := ps, assign := as, body := bd, defers := df } := fun df =>
    ⟨F, hps, hpb, ha, hb, rfl, trivial⟩
  cases ro with
  | none =>
    obtain ⟨R1, E1⟩ := R.realAlloc (.deferred (some []))
    obtain ⟨R2, E2⟩ := R1.alloc (.loop ⟨fr, pl, as', bd', .ready, none⟩) (.loop { state := .ready, pending := none, fn, tmps := a.tmps, params := ps, assign := as, body := bd, defers := w.heap.size }) ⟨rfl, _, rfl, hL _⟩
    simp only [Array.size_push, objSize] at R2 E2
    refine ⟨w.heap.size + 1, [markOf w.heap.size], _, run_enterLoop_outer fn a.tmps ps as bd, ⟨[w.heap.size], rfl, by simp, fun r hr => ?_⟩, R2, E1.trans E2⟩
    simp at hr; subst hr
    refine ⟨Nat.le_refl _, ?_⟩
    show ((w.heap.push _).push _)[w.heap.size]? = _
    rw [Array.getElem?_push, if_neg (by simp), Array.getElem?_push_size]
  | some l0 =>
    obtain ⟨L0, hL0⟩ := hla l0 rfl
    obtain ⟨R2, E2⟩ := R.alloc (.loop ⟨fr, pl, as', bd', .ready, none⟩) (.loop { state := .ready, pending := none, fn, tmps := a.tmps, params := ps, assign := as, body := bd, defers := L0.defers }) ⟨rfl, _, rfl, hL _⟩
    refine ⟨w.heap.size, [], _, ?_, .nil _ _, R2, E2⟩
    unfold Instr.enterLoop
    simp only [Sem.run_bind, run_getLoop hL0, run_newObj_alloc, Result.andThen, Sem.run_pure]
    rfl
end
end Go.RS
