/- Regions that draw their order (7): the whole region. -/
import Derived.Test.YtmlogniaahnamaaDoorSmb
import Derived.RangeFuncCalls
import Derived.Test.YtmlogniaahnamaaDoorSma
set_option linter.all false
namespace Go.RS
open Go

section
variable {P : Program} {lo n0 N : Nat} {ops : Array Oper} {frs : Nat → Fr} {hs : Nat → AH} {vs : Nat → Value} {β0 : Bij} {w0 : World} {df : List Deferred} {ro : Option Nat}
  {l : Array Bool} {e : Nat} {β : Bij} {a : Act} {w : World}

theorem ready_all (hE : edgesOk ops = true) (hsz : l.size = ops.size) (h : Region.ready .any ops l = []) : ∀ j, j < ops.size → Listed l j := by
  intro j
  induction j using Nat.strongRecOn with
  | _ j ih =>
    intro hj
    cases hl : l.getD j false with
    | true => exact hl
    | false =>
      exfalso
      have ho : ops[j]? = some ops[j] := Array.getElem?_eq_getElem hj
      have : j ∈ Region.ready .any ops l := mem_ready.2 ⟨by
        rw [Array.getD_eq_getD_getElem?] at hl ⊢
        rw [Array.getElem?_eq_getElem (by omega)] at hl ⊢
        exact hl, ops[j], ho, fun ed h1 h2 => ih ed.on (edges_lt hE ho h1 h2) (by have := edges_lt hE ho h1 h2; omega)⟩
      rw [h] at this; cases this

def cnt (l : Array Bool) : Nat := l.toList.countP (fun b => !b)
theorem cnt_set {i : Nat} (hi : i < l.size) (h : ¬ Listed l i) : cnt (l.setIfInBounds i true) + 1 ≤ cnt l := by
  have h1 : l.toList[i]'(by simpa using hi) = false := by
    unfold Listed at h
    rw [Array.getD_eq_getD_getElem?, Array.getElem?_eq_getElem hi] at h
    simpa using h
  unfold cnt
  rw [Array.toList_setIfInBounds, List.countP_set (by simpa using hi), h1]
  have : 0 < l.toList.countP (fun b => !b) := List.countP_pos_iff.2 ⟨false, by rw [← h1]; exact List.getElem_mem _, rfl⟩
  simp only [Bool.not_false, if_true, Bool.not_true, Bool.false_eq_true, if_false]
  omega
theorem cnt_zero (h : cnt l = 0) : ∀ j, j < l.size → Listed l j := by
  intro j hj
  unfold cnt at h
  rw [List.countP_eq_zero] at h
  have := h (l[j]) (by simp)
  unfold Listed
  rw [Array.getD_eq_getD_getElem?, Array.getElem?_eq_getElem hj]
  simpa using this

theorem RInv.done (C : DC P lo n0 N ops frs hs vs) (I : RInv P lo n0 N ops frs hs vs β0 w0 df ro l e β a w) (R0 : HRel P lo n0 β0 (hs 0) w0) (hall : ∀ j, j < ops.size → Listed l j) :
    FRel β (frs ops.size) a.tmps ∧ a.tmps.size = N ∧ a.defers = df ∧ HRel P lo n0 β (hs ops.size) w ∧ Ext lo β0 (hs 0) w0 β (hs ops.size) w := by
  have hm := C.mono
  have he : e = ops.size := by
    have := I.M.en
    by_cases h : e = ops.size
    · exact h
    · exact absurd (hall e (by omega)) (I.st2 (by omega)).2
  have M := I.M
  have X := I.ex
  rw [he] at M X
  refine ⟨fun t => ?_, I.sz, I.df, ⟨M.dom, fun b r d o hb ho => ?_, M.img, M.low, M.inj, M.glob, ?_, M.n0s⟩, ?_⟩
  · rcases I.fs t with ⟨h1, h2⟩ | ⟨j, h1, h2, h3, h4, h5⟩
    · rw [fr_same C (t := t) (Nat.zero_le _) (Nat.le_refl _) (fun k _ hk => h2 k hk (hall k hk))]
      exact h1.mono (cutB_le _ _)
    · rw [fr_last C h1 (Nat.le_refl _) h3 (fun k hk1 hk2 hd => by have := h4 k hk2 (hall k hk2) hd; omega)]
      exact h5.mono (cutB_le _ _)
  · exact (M.obj b r d o hb ho ops.size (Nat.le_refl _) (M.dom b r d hb).1 (fun k h1 h2 => by omega)).mono (cutB_le _ _)
  · exact Nat.le_trans M.los (mono_sizes hm (Nat.zero_le _) (Nat.le_refl _))
  · refine ⟨fun b hb => I.d0 b hb, X.hs, X.ws, X.junk, X.keep, fun b r d hb hx => X.fresh b r d ?_ hx, X.lps, X.env⟩
    cases hy : β0 b with
    | none => rfl
    | some x => obtain ⟨r', d'⟩ := x; have := (R0.dom b r' d' hy).1; omega

theorem region_any (C : DC P lo n0 N ops frs hs vs) (R0 : HRel P lo n0 β0 (hs 0) w0) {Q : Exit → Act → World → Prop}
    (hQ : ∀ β1 w1 a1, FRel β1 (frs ops.size) a1.tmps → a1.tmps.size = N → a1.defers = df → HRel P lo n0 β1 (hs ops.size) w1 → Ext lo β0 (hs 0) w0 β1 (hs ops.size) w1 → Q .normal a1 w1) :
    ∀ (fuel : Nat) (l : Array Bool) (e : Nat) (β : Bij) (a : Act) (w : World), RInv P lo n0 N ops frs hs vs β0 w0 df ro l e β a w → cnt l ≤ fuel → wpAnyIn (FW ro) 0 P .any ops Q fuel l a w := by
  intro fuel
  have fin : ∀ (l : Array Bool) (e : Nat) (β : Bij) (a : Act) (w : World), RInv P lo n0 N ops frs hs vs β0 w0 df ro l e β a w → (∀ j, j < ops.size → Listed l j) → Q .normal a w := by
    intro l e β a w I hall
    obtain ⟨h1, h2, h3, h4, h5⟩ := I.done C R0 hall
    exact hQ β w a h1 h2 h3 h4 h5
  induction fuel with
  | zero =>
    intro l e β a w I hc
    have hall : ∀ j, j < ops.size → Listed l j := fun j hj => cnt_zero (by omega) j (by rw [I.lsz]; exact hj)
    refine ⟨?_, fin l e β a w I hall⟩
    apply List.eq_nil_iff_forall_not_mem.2
    intro j hj
    obtain ⟨h1, o, ho, _⟩ := mem_ready.1 hj
    have hjs : j < ops.size := (Array.getElem?_eq_some_iff.1 ho).1
    have h2 := hall j hjs
    unfold Listed at h2
    rw [Array.getD_eq_getD_getElem?, Array.getElem?_eq_getElem (by rw [I.lsz]; exact hjs)] at h1 h2
    simp at h1 h2
    rw [h1] at h2; cases h2
  | succ fuel ih =>
    intro l e β a w I hc
    refine ⟨fun h => fin l e β a w I (ready_all C.parts.2.1 I.lsz h), fun i hi => ?_⟩
    obtain ⟨h1, o, ho, _⟩ := mem_ready.1 hi
    have his : i < ops.size := (Array.getElem?_eq_some_iff.1 ho).1
    have hn : ¬ Listed l i := by
      unfold Listed
      rw [Array.getD_eq_getD_getElem?, Array.getElem?_eq_getElem (by rw [I.lsz]; exact his)] at h1 ⊢
      simp at h1 ⊢
      exact h1
    refine I.take C ho hn (ready_closed C.parts.2.1 I.cl hi) fun e' γ a1 w1 I1 => ih _ e' γ a1 w1 I1 ?_
    have := cnt_set (by rw [I.lsz]; exact his) hn
    omega

/-- **A region that draws its order: what the text's order gives, every order gives.** -/
theorem region_drawn (hmix : P.follows .mixedOrders = true) {fr fr1 : Fr} {h h1 : AH} (hT : Tr P lo n0 true (lowRegion P N ops true) fr h fr1 h1) (R : HRel P lo n0 β h w) (F : FRel β fr a.tmps)
    (hN : a.tmps.size = N) (hla : LoopAt ro w) {id : Nat} {Q : Exit → Act → World → Prop}
    (hQ : ∀ β1 w1 a1, FRel β1 fr1 a1.tmps → a1.tmps.size = N → a1.defers = a.defers → HRel P lo n0 β1 h1 w1 → Ext lo β h w β1 h1 w1 → Q .normal a1 w1) :
    (Code.region id ops true).wpIn (FW ro) 0 P Q a w := by
  have hok : drawOk P N ops = true := by
    cases hk : drawOk P N ops with
    | true => rfl
    | false =>
      simp only [lowRegion, hk, Bool.true_eq_false, Bool.false_eq_true, if_false] at hT
      exact (no_bad hT).elim
  obtain ⟨frs, hs, vs, e1, e2, e3, e4, hat⟩ := hT.seq
  have hl : lowRegion P N ops true = ops.toList.zipIdx.map fun p => lowDrawn P N ops p.2 p.1 := by simp [lowRegion, hok]
  have hlen : (lowRegion P N ops true).length = ops.size := by rw [hl]; simp
  rw [hlen] at e3 e4
  have C : DC P lo n0 N ops frs hs vs := ⟨hok, fun j o ho => hat j _ (by
    rw [hl, List.getElem?_map, List.getElem?_zipIdx, Array.getElem?_toList, ho]
    simp)⟩
  subst e1 e2 e3 e4
  have hm := C.mono
  have hd0 : ∀ b x, β b = some x → b < (hs 0).size := fun b x hb => by
    obtain ⟨r, d⟩ := x
    exact (R.dom b r d hb).1
  have hcut : BLe β (cutB β (hs 0).size) := fun b x hb => by
    unfold cutB; rw [if_pos (hd0 b x hb)]; exact hb
  obtain ⟨e, _, e2, e3, e4⟩ := stage_next (fun j => Wr hs j) ops.size _ 0 rfl (Nat.zero_le _) (fun j hj => by omega)
  have hrep : ∀ j, ¬ Listed (Array.replicate ops.size false) j := fun j h => by
    unfold Listed at h
    rw [Array.getD_eq_getD_getElem?, Array.getElem?_replicate] at h
    split at h <;> simp at h
  have same : ∀ (m b : Nat), m ≤ e → b < (hs 0).size → (hs m)[b]? = (hs 0)[b]? := fun m b h1 h2 => same_run (Nat.zero_le _) fun k _ h4 =>
    (grow_of_not_wr (e3 k (by omega))).2 b (Nat.lt_of_lt_of_le h2 (mono_sizes hm (Nat.zero_le _) (by omega)))
  have R' := R.drew (w.drawn + 1)
  refine wpIn_region_any hmix (region_any (ro := ro) (df := a.defers) (β0 := β) C R' ?_ ops.size _ e β a _ ⟨?_, by simp, fun j hj => absurd hj (hrep j), fun j hj hw => absurd hw (e3 j hj), fun h => ⟨e4 h, hrep e⟩, ?_, fun b _ => rfl, hN, fun t => ?_, rfl, ?_, ?_⟩ ?_)
  · intro β1 w1 a1 h1 h2 h3 h4 h5
    exact hQ β1 w1 a1 h1 h2 h3 h4 ⟨h5.agree, h5.hs, h5.ws, h5.junk, h5.keep, h5.fresh, h5.lps, h5.env⟩
  · have hse : (hs 0).size ≤ (hs e).size := mono_sizes hm (Nat.zero_le _) e2
    refine ⟨e2, fun b r d hb => ⟨Nat.lt_of_lt_of_le (hd0 b _ hb) (mono_sizes hm (Nat.zero_le _) (Nat.le_refl _)), (R.dom b r d hb).2⟩, fun b r d o hb ho m h1 h2 h3 => ?_, R.img, R.low, fun b b' r d d' h1 h2 h3 h4 h5 h6 => ?_, R.glob, ?_, R.los, R.n0s, fun b r d hb hge => absurd (Nat.lt_of_lt_of_le (hd0 b _ hb) hse) (by omega)⟩
    · rw [same e b (Nat.le_refl _) (hd0 b _ hb)] at ho
      exact (R.obj b r d o hb ho).mono (hcut.trans (cutB_le_cutB β (mono_sizes hm (Nat.zero_le m) (by omega))))
    · exact R.inj b b' r d d' h1 h2 h3 h4 (by rw [← same e b (Nat.le_refl _) (hd0 b _ h3)]; exact h5) (by rw [← same e b' (Nat.le_refl _) (hd0 b' _ h4)]; exact h6)
    · by_cases hg : P.globals.size = 0
      · omega
      · obtain ⟨z, hz⟩ := R.glob (P.globals.size - 1) (by omega)
        have := hd0 _ _ hz
        omega
  · intro b x hb
    exact .inl (hd0 b x hb)
  · exact .inl ⟨(F t).mono hcut, fun j hj hl => absurd hl (hrep j)⟩
  · exact hla
  · refine ⟨.refl β, mono_sizes hm (Nat.zero_le _) e2, Nat.le_refl _, fun b x hb hj => ?_, fun _ _ _ => rfl, fun b r d h1 h2 => (by rw [h1] at h2; cases h2), fun r L hL => ⟨L, hL⟩, rfl, rfl, rfl⟩
    rw [same e b (Nat.le_refl _) (hd0 b x hb)]; exact hj
  · unfold cnt
    refine Nat.le_trans List.countP_le_length ?_
    simp
end
end Go.RS

/- Code (1): results, marks, records. -/
namespace Go.RS
open Go

section
variable {P : Program} {lo n0 : Nat} {β β1 : Bij} {h h1 : AH} {w w1 : World} {fr : Fr}

def AExit.real : AExit → Exit
  | .normal => .normal | .exit id => .exit id | .ret => .ret

/-! ### Results -/
theorem result_one (R : HRel P lo n0 β h w) {tmps : Array Value} (F : FRel β fr tmps) {r : ResultVar} {x : Nat × Option (Option Nat)} (hr : lowRes P r = some x) {v : Value} (hv : resultA fr h x = some v) :
    ∃ v', ((match r with | .tmp t => pure (tmps.getD t undef) | .cell a t => do loadVar t (← asAddr (tmps.getD a undef)) : Sem Value)).run P w = .ok v' w ∧ VRel β v v' := by
  cases r with
  | tmp t =>
    simp only [lowRes, Option.some.injEq] at hr
    subst hr
    simp only [resultA, Option.some.injEq] at hv
    subst hv
    exact ⟨_, rfl, F t⟩
  | cell a t =>
    simp only [lowRes, Option.map_eq_some_iff] at hr
    obtain ⟨s, hs, rfl⟩ := hr
    simp only [resultA] at hv
    split at hv
    · rename_i b o hp
      have hF := F a
      rw [hp] at hF
      obtain ⟨a', ha, har⟩ := hF.ptr_inv
      have key : ∃ v', (loadVar t a').run P w = .ok v' w ∧ VRel β v v' := by
        cases s with
        | none => exact loadVar_rel R (agg := none) hs hv har
        | some n => exact loadVar_rel R (agg := some n) hs hv har
      obtain ⟨v', h2, h3⟩ := key
      refine ⟨v', ?_, h3⟩
      simp only [Sem.run_bind, ha]
      simp [asAddr, Result.andThen, h2]
    · cases hv
theorem results_list (R : HRel P lo n0 β h w) {tmps : Array Value} (F : FRel β fr tmps) {g : ResultVar → Sem Value} (hg : ∀ r, g r = (match r with | .tmp t => pure (tmps.getD t undef) | .cell a t => do loadVar t (← asAddr (tmps.getD a undef)))) :
    ∀ {rs : List ResultVar} {xs : List (Nat × Option (Option Nat))} {vs : List Value}, rs.mapM (lowRes P) = some xs → xs.mapM (resultA fr h) = some vs → ∃ vs', (rs.mapM g).run P w = .ok vs' w ∧ LRel β vs vs'
  | [], xs, vs, h1, h2 => by
    simp at h1; subst h1
    simp at h2; subst h2
    exact ⟨[], by simp, .nil β⟩
  | r :: rs, xs, vs, h1, h2 => by
    simp only [List.mapM_cons, Option.bind_eq_bind, Option.bind_eq_some_iff, Option.pure_def, Option.some.injEq] at h1
    obtain ⟨x, hx, ys, hys, rfl⟩ := h1
    simp only [List.mapM_cons, Option.bind_eq_bind, Option.bind_eq_some_iff, Option.pure_def, Option.some.injEq] at h2
    obtain ⟨v, hv, us, hus, rfl⟩ := h2
    obtain ⟨v', h3, h4⟩ := result_one R F hx hv
    obtain ⟨us', h5, h6⟩ := results_list R F hg hys hus
    refine ⟨v' :: us', ?_, .cons h4 h6⟩
    rw [← hg] at h3
    simp only [List.mapM_cons, Sem.run_bind, h3, Result.andThen_ok, h5, Sem.run_pure]
theorem results_rel (R : HRel P lo n0 β h w) {tmps : Array Value} (F : FRel β fr tmps) {fn : Func} {xs : List (Nat × Option (Option Nat))} (hx : fn.results.toList.mapM (lowRes P) = some xs) {v : Value} (hv : resultsA xs fr h = some v) :
    ∃ v', (results fn tmps).run P w = .ok v' w ∧ VRel β v v' := by
  unfold resultsA at hv
  cases hm : xs.mapM (resultA fr h) with
  | none => rw [hm] at hv; cases hv
  | some vs =>
    have hg : ∃ g : ResultVar → Sem Value, (∀ r, g r = (match r with | .tmp t => pure (tmps.getD t undef) | .cell a t => do loadVar t (← asAddr (tmps.getD a undef)))) ∧
        results fn tmps = (do let vs ← fn.results.mapM g; pure (if h : vs.size = 1 then vs[0] else .tuple vs)) := ⟨_, fun r => rfl, rfl⟩
    obtain ⟨g, hg, hres⟩ := hg
    obtain ⟨vs', h2, h3⟩ := results_list (P := P) R F hg hx hm
    have hrun : ∀ u, (if h : vs'.toArray.size = 1 then vs'.toArray[0] else .tuple vs'.toArray : Value) = u → (results fn tmps).run P w = .ok u w := by
      intro u hu
      rw [hres, Array.mapM_eq_mapM_toList]
      simp only [Sem.run_bind, Sem.run_map, h2, Result.andThen_ok, Sem.run_pure]
      exact congrArg (Result.ok · w) hu
    refine ⟨_, hrun _ rfl, ?_⟩
    rw [hm] at hv
    cases vs with
    | nil =>
      cases hv
      have : vs' = [] := List.length_eq_zero_iff.1 h3.1.symm
      subst this
      exact .tuple' (.nil β)
    | cons x t =>
      cases t with
      | nil =>
        cases hv
        obtain ⟨y, rfl⟩ : ∃ y, vs' = [y] := List.length_eq_one_iff.1 h3.1.symm
        exact h3.head
      | cons y t =>
        cases hv
        have hl : vs'.toArray.size ≠ 1 := by have := h3.1; simp at this ⊢; omega
        rw [dif_neg hl]
        exact .tuple' (by simpa using h3)

/-! ### Marks -/
def markOf (r : Nat) : Deferred := { target := .collected r, args := #[] }
def MarkL (n : Nat) (w : World) (ds : List Deferred) : Prop := ∃ rs : List Nat, ds = rs.map markOf ∧ rs.Nodup ∧ ∀ r ∈ rs, n ≤ r ∧ w.heap[r]? = some (.deferred (some []))
theorem MarkL.nil (n : Nat) (w : World) : MarkL n w [] := ⟨[], rfl, .nil, fun r h => by cases h⟩

theorem mark_free (R : HRel P lo n0 β h w) {r : Nat} {ds : Option (List Deferred)} (hr : w.heap[r]? = some (.deferred ds)) (b : Nat) (d : Nat × Nat) (hb : β b = some (r, d)) : h[b]? = some .junk := by
  have hlt := (R.dom b r d hb).1
  have := R.obj b r d h[b] hb (Array.getElem?_eq_getElem hlt)
  rw [Array.getElem?_eq_getElem hlt]
  rw [hr] at this
  cases ho : h[b] with
  | junk => rfl
  | cells c => rw [ho] at this; obtain ⟨_, _, _, h1, _⟩ := this; cases h1
  | map es c => rw [ho] at this; obtain ⟨_, _, h1, _⟩ := this; cases h1
  | loop L => rw [ho] at this; obtain ⟨_, _, h1, _⟩ := this; cases h1
theorem MarkL.ext (R : HRel P lo n0 β h w) (E : Ext lo β h w β1 h1 w1) {n : Nat} {ds : List Deferred} (hm : MarkL n w ds) : MarkL n w1 ds := by
  obtain ⟨rs, h2, h3, h4⟩ := hm
  refine ⟨rs, h2, h3, fun r hr => ⟨(h4 r hr).1, ?_⟩⟩
  have := (h4 r hr).2
  rw [E.keep r (Array.getElem?_eq_some_iff.1 this).1 (fun b d _ hb => mark_free R this b d hb)]
  exact this
theorem MarkL.append {n m : Nat} {a b : List Deferred} (ha : MarkL n w a) (hb : MarkL m w b) (hnm : n ≤ m) (hlt : ∀ d ∈ a, ∀ r, d = markOf r → r < m) : MarkL n w (b ++ a) := by
  obtain ⟨rs, rfl, h2, h3⟩ := ha
  obtain ⟨ss, rfl, k2, k3⟩ := hb
  refine ⟨ss ++ rs, by simp, ?_, fun r hr => ?_⟩
  · rw [List.nodup_append]
    refine ⟨k2, h2, fun x hx y hy hxy => ?_⟩
    subst hxy
    have := (k3 x hx).1
    have := hlt (markOf x) (List.mem_map.2 ⟨x, hy, rfl⟩) x rfl
    omega
  · rcases List.mem_append.1 hr with h | h
    · exact ⟨Nat.le_trans hnm (k3 r h).1, (k3 r h).2⟩
    · exact h3 r h
theorem MarkL.lt {n : Nat} {ds : List Deferred} (hm : MarkL n w ds) : ∀ d ∈ ds, ∀ r, d = markOf r → r < w.heap.size := by
  obtain ⟨rs, rfl, h2, h3⟩ := hm
  intro d hd r hr
  obtain ⟨r', h4, rfl⟩ := List.mem_map.1 hd
  have : r' = r := by simpa [markOf] using hr
  subst this
  exact (Array.getElem?_eq_some_iff.1 (h3 r' h4).2).1

/-- A block that nobody names is laid, or turned. -/
theorem HRel.realAlloc (R : HRel P lo n0 β h w) (o' : Obj) : HRel P lo n0 β h { w with heap := w.heap.push o' } ∧ Ext lo β h w β h { w with heap := w.heap.push o' } := by
  refine ⟨⟨fun b r d hb => ?_, fun b r d o hb ho => ?_, R.img, R.low, R.inj, R.glob, R.los, ?_⟩, ⟨fun _ _ => rfl, Nat.le_refl _, by simp, fun _ _ _ h => h, fun r hr _ => ?_, fun b r d hb hx => ?_, fun r L hL => ⟨L, ?_⟩, rfl, rfl, rfl⟩⟩
  · have := R.dom b r d hb; simp; omega
  · have h2 := R.dom b r d hb
    have := R.obj b r d o hb ho
    show ORel P β _ o (w.heap.push o')[r]? d
    rw [Array.getElem?_push, if_neg (by omega)]; exact this
  · have := R.n0s; simp; omega
  · show (w.heap.push o')[r]? = _
    rw [Array.getElem?_push, if_neg (by omega)]
  · have := (R.dom b r d hx).1; omega
  · have := (Array.getElem?_eq_some_iff.1 hL).1
    show (w.heap.push o')[r]? = _
    rw [Array.getElem?_push, if_neg (by omega)]; exact hL
theorem HRel.shut (R : HRel P lo n0 β h w) {r : Nat} {ds : Option (List Deferred)} (hr : w.heap[r]? = some (.deferred ds)) (x : Option (List Deferred)) : HRel P lo n0 β h (w.putObj r (.deferred x)) := by
  refine ⟨fun b r' d hb => ?_, fun b r' d o hb ho => ?_, R.img, R.low, R.inj, R.glob, R.los, by simpa using R.n0s⟩
  · have := R.dom b r' d hb; simpa using this
  · by_cases he : r' = r
    · subst he
      have := mark_free R hr b d hb
      rw [ho] at this; cases this; trivial
    · rw [World.putObj_heap_other he]; exact R.obj b r' d o hb ho
theorem Ext.shut {β0 : Bij} {h0 : AH} {w0 : World} (E : Ext lo β0 h0 w0 β h w) {r : Nat} (hn : w0.heap.size ≤ r) (x : Option (List Deferred)) :
    Ext lo β0 h0 w0 β h (w.putObj r (.deferred x)) := by
  refine ⟨E.agree, E.hs, by simpa using E.ws, E.junk, fun r' h2 h3 => ?_, E.fresh, fun r' L hL => ?_, E.env⟩
  · rw [World.putObj_heap_other (by omega)]; exact E.keep r' h2 h3
  · have := (Array.getElem?_eq_some_iff.1 hL).1
    rw [World.putObj_heap_other (by omega)]; exact E.lps r' L hL

def retK (K : Value → World → Prop) : Ending → World → Prop
  | .returned v, w => K v w
  | _, _ => False

/-- The activation leaves: its marks' blocks are shut; its results are read. -/
theorem leaves {tmps : Array Value} (F : FRel β fr tmps) {fn : Func} {xs : List (Nat × Option (Option Nat))} (hx : fn.results.toList.mapM (lowRes P) = some xs) {v : Value} (hv : resultsA xs fr h = some v) {β0 : Bij} {h0 : AH} {w0 : World}
    {K : Value → World → Prop} (hK : ∀ w1 v', VRel β v v' → HRel P lo n0 β h w1 → Ext lo β0 h0 w0 β h w1 → K v' w1) :
    ∀ (rs : List Nat) (w : World), HRel P lo n0 β h w → Ext lo β0 h0 w0 β h w → rs.Nodup → (∀ r ∈ rs, w0.heap.size ≤ r ∧ w.heap[r]? = some (.deferred (some []))) →
      LeavesInM Fence.wide 0 P fn tmps (retK K) (rs.map markOf) .returning w
  | [], w, R, E, _, _ => by
    obtain ⟨v', h1, h2⟩ := results_rel R F hx hv
    exact ⟨v', h1, hK w v' h2 R E⟩
  | r :: rs, w, R, E, hnd, hr => by
    obtain ⟨h1, h2⟩ := hr r (by simp)
    have hnd' := List.nodup_cons.1 hnd
    refine ⟨by simp, .inl ⟨r, _, rfl, run_takeDeferred h2, ?_⟩⟩
    refine leaves F hx hv hK rs _ (R.shut h2 none) (E.shut h1 none) hnd'.2 fun r' hr' => ?_
    have hne : r' ≠ r := by rintro rfl; exact hnd'.1 hr'
    rw [World.putObj_heap_other hne]
    exact hr r' (by simp [hr'])

/-- The record of a range over a function is laid. -/
theorem enter_rel (R : HRel P lo n0 β h w) {a : Act} (F : FRel β fr a.tmps) {ro : Option Nat} (hla : LoopAt ro w) (fn : FuncId) {ps : Array Nat} {pl : List Nat} (hps : ps.toList = pl) (hpb : ∀ p ∈ pl, p < a.tmps.size) {as bd : Code} {as' bd' : ACode}
    (ha : lowC P a.tmps.size as = as') (hb : lowC P a.tmps.size bd = bd') :
    ∃ l mark w1, (Instr.enterLoop fn a.tmps ps as bd ro).run P w = .ok (l, mark) w1 ∧ MarkL w.heap.size w1 mark ∧ HRel P lo n0 (bset β h.size (l, (0, 0))) (h.push (.loop ⟨fr, pl, as', bd', .ready, none⟩)) w1 ∧
      Ext lo β h w (bset β h.size (l, (0, 0))) (h.push (.loop ⟨fr, pl, as', bd', .ready, none⟩)) w1 := by
  have hL : ∀ (df : Nat), LoopRel P β ⟨fr, pl, as', bd', .ready, none⟩ { state := .ready, pending := none, fn, tmps := a.tmps, params := ps, assign := as, body := bd, defers := df } := fun df =>
    ⟨F, hps, hpb, ha, hb, rfl, trivial⟩
  cases ro with
  | none =>
    obtain ⟨R1, E1⟩ := R.realAlloc (.deferred (some []))
    obtain ⟨R2, E2⟩ := R1.alloc (.loop ⟨fr, pl, as', bd', .ready, none⟩) (.loop { state := .ready, pending := none, fn, tmps := a.tmps, params := ps, assign := as, body := bd, defers := w.heap.size }) ⟨rfl, _, rfl, hL _⟩
    simp only [Array.size_push, objSize] at R2 E2
    refine ⟨w.heap.size + 1, [markOf w.heap.size], _, run_enterLoop_outer fn a.tmps ps as bd, ⟨[w.heap.size], rfl, by simp, fun r hr => ?_⟩, R2, E1.trans E2⟩
    simp at hr; subst hr
    refine ⟨Nat.le_refl _, ?_⟩
    show ((w.heap.push _).push _)[w.heap.size]? = _
    rw [Array.getElem?_push, if_neg (by simp), Array.getElem?_push_size]
  | some l0 =>
    obtain ⟨L0, hL0⟩ := hla l0 rfl
    obtain ⟨R2, E2⟩ := R.alloc (.loop ⟨fr, pl, as', bd', .ready, none⟩) (.loop { state := .ready, pending := none, fn, tmps := a.tmps, params := ps, assign := as, body := bd, defers := L0.defers }) ⟨rfl, _, rfl, hL _⟩
    refine ⟨w.heap.size, [], _, ?_, .nil _ _, R2, E2⟩
    unfold Instr.enterLoop
    simp only [Sem.run_bind, run_getLoop hL0, run_newObj_alloc, Result.andThen, Sem.run_pure]
    rfl
end
end Go.RS

/- Code (2): what each form of code asks of the machine. -/
namespace Go.RS
open Go

section
variable {lo : Nat} {fr : Fr} {h h1 : AH} {v : Value}
theorem setCells_size {b o : Nat} {vs : List Value} {h1 : AH} (hs : setCells lo h b o vs = some h1) : h1.size = h.size := by
  unfold setCells at hs
  split at hs
  · split at hs
    · cases hs; simp
    · cases hs
  · cases hs
theorem append_size {e bytes : Nat} {s x v : Value} (hv : appendA lo h e bytes s x = some (v, h1)) : h.size ≤ h1.size := by
  unfold appendA at hv
  repeat' split at hv
  all_goals first
    | (cases hv; done)
    | (cases hv; simp; done)
    | (simp only [Option.map_eq_some_iff, Prod.mk.injEq] at hv; obtain ⟨h', h2, _, rfl⟩ := hv; rw [setCells_size h2]; exact Nat.le_refl _)
theorem aop_size {op : AOp} (hv : aop lo op fr h = some (v, h1)) : h.size ≤ h1.size := by
  by_cases hs : op.still = true
  · exact (aop_still hs hv).1
  · cases op <;> simp only [AOp.still, not_true_eq_false] at hs
    case store n a x =>
      simp only [aop] at hv
      repeat' split at hv
      all_goals first
        | (cases hv; done)
        | (simp only [Option.map_eq_some_iff, Prod.mk.injEq] at hv; obtain ⟨h', h2, _, rfl⟩ := hv; rw [setCells_size h2]; exact Nat.le_refl _)
    case append e b s x => exact append_size (by simpa only [aop] using hv)
    case call f as => cases hv
    all_goals
      simp only [aop] at hv
      repeat' split at hv
      all_goals first
        | (cases hv; done)
        | (cases hv; simp; done)
        | (simp only [Option.map_eq_some_iff, Prod.mk.injEq] at hv; obtain ⟨f, h2, _, rfl⟩ := hv; cases f <;> simp [updMap]; done)
        | (simp only [Option.map_eq_some_iff] at hv; obtain ⟨f, h2, hv⟩ := hv; cases f <;> simp only [entMap, Prod.mk.injEq] at hv <;> (obtain ⟨_, rfl⟩ := hv; simp); done)
end

section
variable {P : Program} {lo n0 : Nat} {F : Fence} {n : Nat} {Q : Exit → Act → World → Prop} {a : Act} {w : World}

theorem stepR_scope {b : Frame} {k : List Item} {cs : List Frame} {c : Code} : step P (lone (b.atR a (.code (.scope c) :: k)) cs w) = .next (lone (b.atR a (.code c :: .inScope c :: k)) cs w) :=
  step_lone_go (by simp [stepG, stepG.exec, Frame.atR])
theorem stepR_inScope {b : Frame} {k : List Item} {cs : List Frame} {c : Code} : step P (lone (b.atR a (.inScope c :: k)) cs w) = .next (lone (b.atR a k) cs w) :=
  step_lone_go (by simp [stepG, stepG.exec, Frame.atR])
def noGoto (Q : Exit → Act → World → Prop) : Exit → Act → World → Prop
  | .goto _, _, _ => False
  | e, a, w => Q e a w
theorem wpIn_scope {c : Code} (h : c.wpIn F n P (noGoto Q) a w) : (Code.scope c).wpIn F n P Q a w := by
  intro b k cs hro hb hr
  have h0 : (lone (b.atR a (.code (.scope c) :: k)) cs w).fenced P F := fenced_calm hb hr rfl
  obtain ⟨e, a₁, w₁, hq, harr⟩ := h b (.inScope c :: k) cs hro hb hr
  cases e with
  | normal => exact ⟨.normal, a₁, w₁, hq, .head h0 stepR_scope (StepsIn.trans harr (.one (fenced_calm hb hr rfl) stepR_inScope))⟩
  | exit id =>
    have hx : exitTo id (.inScope c :: k) = exitTo id k := by simp [exitTo]
    exact ⟨.exit id, a₁, w₁, hq, fun k' hk => .head h0 stepR_scope (harr.1 k' (by rw [hx]; exact hk)),
      fun hr' hk => let ⟨k₁, h1, h2⟩ := harr.2 hr' (by rw [hx]; exact hk); ⟨k₁, h1, .head h0 stepR_scope h2⟩⟩
  | goto l => exact hq.elim
  | ret => exact ⟨_, a₁, w₁, hq, .of_steps (.one h0 stepR_scope) harr⟩
  | panic ch => exact ⟨_, a₁, w₁, hq, .of_steps (.one h0 stepR_scope) harr⟩
  | outgrown => exact ⟨_, a₁, w₁, hq, .of_steps (.one h0 stepR_scope) harr⟩

theorem calls_FW {ro : Option Nat} {f : FuncId} {as : Array Value} {R : Ending → World → Prop} (h : CallsIn Fence.wide 0 P f as w R) : CallsIn (FW ro) (0 - 1) P f as w R := by
  cases ro
  · exact h
  · exact h
theorem rounds_FW {ro : Option Nat} {l : Nat} {f : FuncId} {tm : Array Value} {as bd : Code} {R : Ending → World → Prop} (h : RoundIn Fence.wide 0 P l f tm as bd w R) : RoundIn (FW ro) (0 - 1) P l f tm as bd w R := by
  cases ro
  · exact h
  · exact h

/-! ### The forms of lowered code -/
variable {N : Nat} {c' : Code}
theorem low_skip (hc : lowC P N c' = .skip) : c' = .skip ∨ ∃ l, c' = .label l := by
  cases c' <;> simp only [lowC] at hc <;> (repeat' split at hc) <;> cases hc
  · exact .inl rfl
  · exact .inr ⟨_, rfl⟩
theorem low_region {dr : Bool} {ops : List AOper} (hc : lowC P N c' = .region dr ops) : ∃ id os, c' = .region id os dr ∧ lowRegion P N os dr = ops := by
  cases c' <;> simp only [lowC] at hc <;> (repeat' split at hc) <;> cases hc
  exact ⟨_, _, rfl, rfl⟩
theorem low_seq {x y : ACode} (hc : lowC P N c' = .seq x y) : ∃ a b, c' = .seq a b ∧ lowC P N a = x ∧ lowC P N b = y := by
  cases c' <;> simp only [lowC] at hc <;> (repeat' split at hc) <;> cases hc
  exact ⟨_, _, rfl, rfl, rfl⟩
theorem low_cond {c : Opd} {x y : ACode} (hc : lowC P N c' = .cond c x y) : ∃ co a b, c' = .cond co a b ∧ lowOpd P co = some c ∧ lowC P N a = x ∧ lowC P N b = y := by
  cases c' <;> simp only [lowC] at hc <;> (repeat' split at hc) <;> cases hc
  exact ⟨_, _, _, rfl, ‹_›, rfl, rfl⟩
theorem low_block {id : Nat} {x : ACode} (hc : lowC P N c' = .block id x) : ∃ a, c' = .block id a ∧ lowC P N a = x := by
  cases c' <;> simp only [lowC] at hc <;> (repeat' split at hc) <;> cases hc
  exact ⟨_, rfl, rfl⟩
theorem low_loop {x : ACode} (hc : lowC P N c' = .loop x) : ∃ a, c' = .loop a ∧ lowC P N a = x := by
  cases c' <;> simp only [lowC] at hc <;> (repeat' split at hc) <;> cases hc
  exact ⟨_, rfl, rfl⟩
theorem low_scope {x : ACode} (hc : lowC P N c' = .scope x) : ∃ a, c' = .scope a ∧ lowC P N a = x := by
  cases c' <;> simp only [lowC] at hc <;> (repeat' split at hc) <;> cases hc
  exact ⟨_, rfl, rfl⟩
theorem low_exit {id : Nat} (hc : lowC P N c' = .exit id) : c' = .exit id := by
  cases c' <;> simp only [lowC] at hc <;> (repeat' split at hc) <;> cases hc
  rfl
theorem low_ret (hc : lowC P N c' = .ret) : c' = .ret := by
  cases c' <;> simp only [lowC] at hc <;> (repeat' split at hc) <;> cases hc
  rfl
theorem low_rangeFunc {f : Opd} {ps : List Nat} {x y : ACode} (hc : lowC P N c' = .rangeFunc f ps x y) : ∃ fo pa a b, c' = .rangeFunc fo pa a b ∧ lowOpd P fo = some f ∧ pa.toList = ps ∧ (∀ p ∈ ps, p < N) ∧ lowC P N a = x ∧ lowC P N b = y := by
  cases c' <;> simp only [lowC] at hc <;> (repeat' split at hc) <;> cases hc
  rename_i hall hf
  refine ⟨_, _, _, _, rfl, hf, rfl, fun p hp => ?_, rfl, rfl⟩
  have := Array.all_eq_true_iff_forall_mem.1 hall p (by simpa using hp)
  simpa using this

theorem low_call {o : Op} {f : Opd} {args : List Opd} (hl : lowOp P o = some (.call f args)) : ∃ c fo, o = .call c ∧ c.callee = .value fo ∧ lowOpd P fo = some f ∧ lowList P c.args.toList = some args := by
  cases o <;> simp only [lowOp, lowBin, eqOp, Option.bind_eq_bind] at hl
  case call c =>
    unfold lowCall at hl
    split at hl
    · rename_i fo hfo
      simp only [Option.bind_eq_bind, Option.bind_eq_some_iff, Option.some.injEq, AOp.call.injEq] at hl
      obtain ⟨x, hx, ys, hys, rfl, rfl⟩ := hl
      exact ⟨c, fo, rfl, hfo, hx, hys⟩
    · cases hl
    · rename_i b hb
      exfalso
      unfold lowBuiltin at hl
      simp only [Option.bind_eq_bind] at hl
      repeat' (first
        | (cases hl; done)
        | (rw [Option.bind_eq_some_iff] at hl; obtain ⟨_, _, hl⟩ := hl)
        | (rw [Option.map_eq_some_iff] at hl; obtain ⟨_, _, hl⟩ := hl)
        | split at hl)
  all_goals exfalso
  all_goals repeat' (first
        | (cases hl; done)
        | (rw [Option.bind_eq_some_iff] at hl; obtain ⟨_, _, hl⟩ := hl)
        | (rw [Option.map_eq_some_iff] at hl; obtain ⟨_, _, hl⟩ := hl)
        | split at hl)
  all_goals (rename_i he; cases he)
end
end Go.RS

/- Code (3): the whole run followed. -/
namespace Go.RS
open Go

section
variable (P : Program) (lo n0 : Nat)

def CodeSim (c : ACode) (fr : Fr) (h : AH) (e : AExit) (fr1 : Fr) (h1 : AH) : Prop :=
  ∀ (c' : Code) (N : Nat) (ro : Option Nat) (β : Bij) (w : World) (a : Act), lowC P N c' = c → HRel P lo n0 β h w → FRel β fr a.tmps → a.tmps.size = N → LoopAt ro w → ∀ Q : Exit → Act → World → Prop,
    (∀ β1 w1 a1 new, FRel β1 fr1 a1.tmps → a1.tmps.size = N → a1.defers = new ++ a.defers → MarkL w.heap.size w1 new → HRel P lo n0 β1 h1 w1 → Ext lo β h w β1 h1 w1 → Q e.real a1 w1) → c'.wpIn (FW ro) 0 P Q a w
def RoundSim (c : ACode) (fr : Fr) (h : AH) (e : AExit) (fr1 : Fr) (h1 : AH) : Prop :=
  ∃ m : Nat, ∀ (c' : Code) (N : Nat) (ro : Option Nat) (β : Bij) (w : World) (a : Act), lowC P N c' = c → HRel P lo n0 β h w → FRel β fr a.tmps → a.tmps.size = N → LoopAt ro w → ∀ Q : Exit → Act → World → Prop,
    (∀ β1 w1 a1 new, FRel β1 fr1 a1.tmps → a1.tmps.size = N → a1.defers = new ++ a.defers → MarkL w.heap.size w1 new → HRel P lo n0 β1 h1 w1 → Ext lo β h w β1 h1 w1 → Q e.real a1 w1) → Code.roundsIn (FW ro) 0 P c' Q m a w
def FnSim (v : Value) (args : List Value) (h : AH) (v1 : Value) (h1 : AH) : Prop :=
  ∀ (β : Bij) (w : World) (v' : Value) (args' : Array Value), VRel β v v' → LRel β args args'.toList → HRel P lo n0 β h w → ∃ d : Deferred, (Deferred.ofValue v' args').run P w = .ok d w ∧
    ∀ K : Value → World → Prop, (∀ β1 w1 v1', VRel β1 v1 v1' → HRel P lo n0 β1 h1 w1 → Ext lo β h w β1 h1 w1 → K v1' w1) →
      (∃ f as, (invoke d.target d.args).run P w = .ok (.enter f as) w ∧ CallsIn Fence.wide 0 P f as w (retK K)) ∨
      ((∃ l, v = .func (.yield l) #[] #[]) ∧ ∃ l f tm as bd, (invoke d.target d.args).run P w = .ok (.round l f tm as bd) w ∧ RoundIn Fence.wide 0 P l f tm as bd w (retK K))

def Mot : Cfg → Res → Prop
  | .ops l fr h, .fr e fr1 h1 => e = .normal ∧ Tr P lo n0 false l fr h fr1 h1 ∧ h.size ≤ h1.size
  | .opsD l fr h, .fr e fr1 h1 => e = .normal ∧ Tr P lo n0 true l fr h fr1 h1 ∧ h.size ≤ h1.size
  | .code c fr h, .fr e fr1 h1 => CodeSim P lo n0 c fr h e fr1 h1 ∧ h.size ≤ h1.size ∧ ∀ c0, c = .loop c0 → RoundSim P lo n0 c0 fr h e fr1 h1
  | .fn v args h, .v v1 h1 => FnSim P lo n0 v args h v1 h1 ∧ h.size ≤ h1.size
  | _, _ => False
end

section
variable {P : Program} {lo n0 : Nat} {fr fr1 fr2 : Fr} {h h1 h2 : AH}

theorem FnSim.step {f : Opd} {args : List Opd} {v : Value} (hs : FnSim P lo n0 (f.ev fr) (args.map (·.ev fr)) h v h1) : StepSim P lo n0 (.call f args) fr h v h1 := by
  intro o hlo ro β w a fr' R he F hla next Q hnext
  obtain ⟨c, fo, hop, hcal, hf, hargs⟩ := low_call hlo
  have e1 : f.ev fr' = f.ev fr := he f (by simp [AOp.opds])
  have e2 : args.map (·.ev fr') = args.map (·.ev fr) := List.map_congr_left fun x hx => he x (by simp [AOp.opds, hx])
  have r1 : VRel β (f.ev fr) (a.eval fo) := by rw [← e1]; exact opd_rel R F hf
  have r2 : LRel β (args.map (·.ev fr)) (c.args.map a.eval).toList := by rw [← e2, Array.toList_map]; exact list_rel R F hargs
  obtain ⟨d, hd, hK⟩ := hs β w _ _ r1 r2 R
  refine ⟨fun f _ => FW_fn ro f, ?_⟩
  rw [semAt_low hlo]
  have hrun : (execOp a.eval o).run P w = (invoke d.target d.args).run P w := by
    simp only [execOp, hop, resolve, hcal, Sem.run_bind, hd, Result.andThen_ok]
  rw [hrun]
  rcases hK (fun v w => next (a.put o.dst v) w) hnext with ⟨g, as, hi, hc⟩ | ⟨_, l, g, tm, as, bd, hi, hc⟩
  · rw [hi, Oper.uponIn_enter]
    refine ⟨FW_depth ro, (calls_FW hc).mono fun e w2 he => ?_⟩
    cases e with
    | returned v => exact he
    | panicked c => exact he.elim
    | outgrown => exact he.elim
  · rw [hi, Oper.uponIn_round]
    refine ⟨FW_depth ro, (rounds_FW hc).mono fun e w2 he => ?_⟩
    cases e with
    | returned v => exact he
    | panicked c => exact he.elim
    | outgrown => exact he.elim

theorem frel_params {β : Bij} : ∀ (ps : List Nat) (vs : List Value) (vs' : List Value) (fr : Fr) (tm : Array Value), FRel β fr tm → LRel β vs vs' → vs.length = ps.length → (∀ p ∈ ps, p < tm.size) →
    FRel β (setParams fr ps vs) ((ps.zip vs').foldl (fun (tm : Array Value) (x : Nat × Value) => tm.setIfInBounds x.1 x.2) tm) ∧ ((ps.zip vs').foldl (fun (tm : Array Value) (x : Nat × Value) => tm.setIfInBounds x.1 x.2) tm).size = tm.size
  | [], vs, vs', fr, tm, hF, _, _, _ => by cases vs <;> exact ⟨hF, rfl⟩
  | p :: ps, [], vs', fr, tm, hF, _, hl, _ => by simp at hl
  | p :: ps, v :: vs, [], fr, tm, hF, hr, hl, _ => by have := hr.1; simp at this
  | p :: ps, v :: vs, v' :: vs', fr, tm, hF, hr, hl, hb => by
    have h1 := hF.set (hb p (by simp)) hr.head
    have := frel_params ps vs vs' (upd fr p v) (tm.setIfInBounds p v') h1 hr.tail (by simpa using hl) (fun q hq => by simpa using hb q (by simp [hq]))
    simpa [setParams] using this

theorem frel_args {β : Bij} {vs : List Value} {vs' : Array Value} (h : LRel β vs vs'.toList) (k : Nat) : FRel β (argsFr vs) (vs' ++ Array.replicate k undef) := by
  intro i
  unfold argsFr
  have hlen : vs.length = vs'.size := by simpa using h.1
  rw [Array.getD_eq_getD_getElem?, List.getD_eq_getElem?_getD]
  by_cases hi : i < vs.length
  · rw [Array.getElem?_append_left (by omega), List.getElem?_eq_getElem hi, Array.getElem?_eq_getElem (by omega)]
    exact h.2 i _ _ (List.getElem?_eq_getElem hi) (by rw [Array.getElem?_toList, Array.getElem?_eq_getElem (by omega)]; rfl)
  · rw [List.getElem?_eq_none (by omega), Array.getElem?_append_right (by omega), Array.getElem?_replicate]
    simp only [Option.getD_none]
    split <;> exact .undef β

theorem CodeSim.then {c1 : ACode} {c1' : Code} {N : Nat} {ro : Option Nat} {β : Bij} {w : World} {a : Act} {e : AExit} {Q Q' : Exit → Act → World → Prop} (hs : CodeSim P lo n0 c1 fr h .normal fr1 h1) (hc : lowC P N c1' = c1)
    (R : HRel P lo n0 β h w) (F : FRel β fr a.tmps) (hN : a.tmps.size = N) (hla : LoopAt ro w)
    (hQ : ∀ β1 w1 a1 new, FRel β1 fr2 a1.tmps → a1.tmps.size = N → a1.defers = new ++ a.defers → MarkL w.heap.size w1 new → HRel P lo n0 β1 h2 w1 → Ext lo β h w β1 h2 w1 → Q e.real a1 w1)
    (hnext : ∀ β1 w1 a1, HRel P lo n0 β1 h1 w1 → FRel β1 fr1 a1.tmps → a1.tmps.size = N → LoopAt ro w1 →
      (∀ β2 w2 a2 new, FRel β2 fr2 a2.tmps → a2.tmps.size = N → a2.defers = new ++ a1.defers → MarkL w1.heap.size w2 new → HRel P lo n0 β2 h2 w2 → Ext lo β1 h1 w1 β2 h2 w2 → Q e.real a2 w2) → Q' .normal a1 w1) :
    c1'.wpIn (FW ro) 0 P Q' a w := by
  refine hs c1' N ro β w a hc R F hN hla _ fun β1 w1 a1 new F1 N1 D1 M1 R1 E1 => ?_
  refine hnext β1 w1 a1 R1 F1 N1 (hla.ext E1) fun β2 w2 a2 new2 F2 N2 D2 M2 R2 E2 => ?_
  exact hQ β2 w2 a2 (new2 ++ new) F2 N2 (by rw [D2, D1, List.append_assoc]) ((M1.ext R1 E2).append M2 E1.ws (M1.lt)) R2 (E1.trans E2)

def tailQ (ro : Option Nat) (P : Program) (Q : Exit → Act → World → Prop) (a : Act) (w : World) : Option Code → Prop
  | none => Q .normal a w
  | some c => c.wpIn (FW ro) 0 P Q a w
theorem real_jump {L : ALoop} {x : Option Code} {ro : Option Nat} {a : Act} {w : World} {Q : Exit → Act → World → Prop} (hj : JRel L.pending x) (hQ : Q (pendExit L.pending).real a w) :
    tailQ ro P Q a w x := by
  cases hp : L.pending with
  | none =>
    rw [hp] at hj hQ
    cases x with
    | none => exact hQ
    | some c => cases c <;> exact hj.elim
  | some j =>
    rw [hp] at hj hQ
    cases x with
    | none => cases j <;> exact hj.elim
    | some c =>
      cases j with
      | exit id =>
        cases c <;> try (exact hj.elim)
        simp only [JRel] at hj
        subst hj
        exact wpIn_exit hQ
      | ret =>
        cases c <;> try (exact hj.elim)
        exact wpIn_ret hQ

theorem low_fn {f : Nat} {A : AFn} (hf : lowFn P f = some A) : ∃ fn c, P.funcs[f]? = some fn ∧ fn.body = some c ∧ fn.results.toList.mapM (lowRes P) = some A.results ∧ fn.ntmps = A.ntmps ∧ lowC P fn.ntmps c = A.body ∧ (fn.name == "runtime.NumGoroutine") = false := by
  simp only [lowFn, Option.bind_eq_bind, Option.bind_eq_some_iff] at hf
  obtain ⟨fn, h1, c, h2, rs, h3, hf⟩ := hf
  split at hf
  · cases hf
  · rename_i hn
    cases hf
    exact ⟨fn, c, h1, h2, h3, rfl, rfl, by simpa using hn⟩

theorem endRound_jump (e : AExit) : ∃ jump : Option Code, JRel e.jump jump ∧ jump.isNone = e.goesOn ∧ (if jump.isNone then LoopState.ready else LoopState.done) = e.stateAfter ∧
    ∀ (P : Program) (l : Nat) (R : Ending → World → Prop) (a : Act) (w : World), (∃ v w', (Instr.endRound l jump).run P w = .ok v w' ∧ R (.returned v) w') → roundPost P l R e.real a w := by
  cases e with
  | normal => exact ⟨none, trivial, rfl, rfl, fun _ _ _ _ _ h => h⟩
  | exit id => exact ⟨some (.exit id), rfl, rfl, rfl, fun _ _ _ _ _ h => h⟩
  | ret => exact ⟨some .ret, trivial, rfl, rfl, fun _ _ _ _ _ h => h⟩
end

section
variable {P : Program} {lo n0 : Nat} {G : Env}

theorem Less.junk {h h' : AH} (hk : Less h h') {b : Nat} (hb : h[b]? = some .junk) : h'[b]? = some .junk := by
  rcases hk.2 b with h1 | h1
  · rw [h1]; exact hb
  · exact h1.2
theorem Less.not {h h' : AH} (hk : Less h h') {b : Nat} (hb : h'[b]? ≠ some .junk) : h[b]? = h'[b]? := by
  rcases hk.2 b with h1 | h1
  · exact h1.symm
  · exact absurd h1.2 hb
theorem HRel.less {β : Bij} {h h' : AH} {w : World} (R : HRel P lo n0 β h w) (hk : Less h h') : HRel P lo n0 β h' w := by
  refine ⟨fun b r d hb => ?_, fun b r d o hb ho => ?_, R.img, R.low, fun b b' r d d' hl hl' hb hb' hj hj' => R.inj b b' r d d' hl hl' hb hb' (by rw [hk.not hj]; exact hj) (by rw [hk.not hj']; exact hj'), R.glob, by rw [hk.1]; exact R.los, R.n0s⟩
  · rw [hk.1]; exact R.dom b r d hb
  · rcases hk.2 b with h1 | h1
    · rw [h1] at ho; exact R.obj b r d o hb ho
    · rw [h1.2] at ho; cases ho; trivial
theorem Ext.less {β β1 : Bij} {h h' h1 : AH} {w w1 : World} (E : Ext lo β h' w β1 h1 w1) (hk : Less h h') : Ext lo β h w β1 h1 w1 := by
  refine ⟨fun b hb => E.agree b (by rw [hk.1]; exact hb), by rw [← hk.1]; exact E.hs, E.ws, fun b x hx hb => E.junk b x hx (hk.junk hb), fun r hr hj => E.keep r hr fun b d hl hb => hk.junk (hj b d hl hb), fun b r d hb hx => ?_, E.lps, E.env⟩
  rcases E.fresh b r d (by rw [hk.1]; exact hb) hx with h2 | ⟨b0, d0, hl0, h3, h4⟩
  · exact .inl h2
  · exact .inr ⟨b0, d0, hl0, h3, by rw [hk.not h4]; exact h4⟩

/-- **THE SIMULATION.** -/
theorem sim (hG : ∀ f A, G.fn f = some A → lowFn P f = some A) (hO : ∀ f args v h, G.pure f args v h → FnSim P lo n0 (.func (.func f) #[] #[]) args h v h) (hX : ∀ f args h v h1, G.ext lo f args h v h1 → FnSim P lo n0 (.func (.func f) #[] #[]) args h v h1 ∧ h.size ≤ h1.size) (hmix : P.follows .mixedOrders = true) {c : Cfg} {r : Res} (hb : B G lo c r) : Mot P lo n0 c r := by
  induction hb with
  | ops_nil => exact ⟨rfl, .nil, Nat.le_refl _⟩
  | @ops_skip o os fr h r hw _ ih =>
    cases r with
    | v v h => exact ih.elim
    | fr e fr1 h1 => exact ⟨ih.1, .skip hw ih.2.1, ih.2.2⟩
  | @ops_op o os fr h v h1 r hw ho _ ih =>
    cases r with
    | v v h => exact ih.elim
    | fr e fr1 h2 => exact ⟨ih.1, .step hw (.of_op ho) (.inr ho) (fun hx => by cases hx) (aop_size ho) ih.2.1, Nat.le_trans (aop_size ho) ih.2.2⟩
  | @ops_call o os fr h f args v h1 r hw he _ _ ihc ih =>
    cases r with
    | v v h => exact ih.elim
    | fr e fr1 h2 => exact ⟨ih.1, .step hw (by rw [he]; exact ihc.1.step) (.inl ⟨f, args, he⟩) (fun hx => by cases hx) ihc.2 ih.2.1, Nat.le_trans ihc.2 ih.2.2⟩
  | opsD_nil => exact ⟨rfl, .nil, Nat.le_refl _⟩
  | @opsD_skip o os fr h r hw _ ih =>
    cases r with
    | v v h => exact ih.elim
    | fr e fr1 h1 => exact ⟨ih.1, .skip hw ih.2.1, ih.2.2⟩
  | @opsD_op o os fr h v h1 r hw ho hd _ ih =>
    cases r with
    | v v h => exact ih.elim
    | fr e fr1 h2 => exact ⟨ih.1, .step hw (.of_op ho) (.inr ho) (fun _ => hd) (aop_size ho) ih.2.1, Nat.le_trans (aop_size ho) ih.2.2⟩
  | @opsD_call o os fr h f args v h1 r hw he _ hd _ ihc ih =>
    cases r with
    | v v h => exact ih.elim
    | fr e fr1 h2 =>
      refine ⟨ih.1, .step hw (by rw [he]; exact ihc.1.step) (.inl ⟨f, args, he⟩) (fun _ => ?_) ihc.2 ih.2.1, Nat.le_trans ihc.2 ih.2.2⟩
      rcases hd with hd | hd
      · exact .inr (.inl hd)
      · refine .inr (.inr ⟨hd.1, ?_⟩)
        unfold lateOk
        rw [he]
        exact hd.2
  | @skip fr h =>
    refine ⟨fun c' N ro β w a hc R F hN hla Q hQ => ?_, Nat.le_refl _, fun c0 h0 => by cases h0⟩
    have := hQ β w a [] F hN rfl (.nil _ _) R (.refl R)
    rcases low_skip hc with rfl | ⟨l, rfl⟩
    · exact wpIn_skip this
    · exact wpIn_label this
  | @region ops fr h r _ ih =>
    cases r with
    | v v h => exact ih.elim
    | fr e fr1 h1 =>
      obtain ⟨rfl, hT, hsz⟩ := ih
      refine ⟨fun c' N ro β w a hc R F hN hla Q hQ => ?_, hsz, fun c0 h0 => by cases h0⟩
      obtain ⟨id, os, rfl, rfl⟩ := low_region hc
      refine wpIn_region ?_
      have := region_text (ops := os) (ro := ro) (N := N) 0 hT (by simp) (Nat.zero_le _) R F hN hla Q (fun β1 w1 a1 F1 N1 D1 R1 E1 => hQ β1 w1 a1 [] F1 N1 (by simpa using D1) (.nil _ _) R1 E1)
      rw [List.range_eq_range']
      simpa using this
  | @regionD ops fr h r _ ih =>
    cases r with
    | v v h => exact ih.elim
    | fr e fr1 h1 =>
      obtain ⟨rfl, hT, hsz⟩ := ih
      refine ⟨fun c' N ro β w a hc R F hN hla Q hQ => ?_, hsz, fun c0 h0 => by cases h0⟩
      obtain ⟨id, os, rfl, rfl⟩ := low_region hc
      exact region_drawn hmix hT R F hN hla (fun β1 w1 a1 F1 N1 D1 R1 E1 => hQ β1 w1 a1 [] F1 N1 (by simpa using D1) (.nil _ _) R1 E1)
  | @seq x y fr h fr1 h1 r _ _ iha ihb =>
    cases r with
    | v v h => exact ihb.elim
    | fr e fr2 h2 =>
      refine ⟨fun c' N ro β w a hc R F hN hla Q hQ => ?_, Nat.le_trans iha.2.1 ihb.2.1, fun c0 h0 => by cases h0⟩
      obtain ⟨x', y', rfl, hx, hy⟩ := low_seq hc
      refine wpIn_seq (iha.1.then hx R F hN hla hQ fun β1 w1 a1 R1 F1 N1 la1 hQ1 => ?_)
      exact ihb.1 y' N ro β1 w1 a1 hy R1 F1 N1 la1 Q hQ1
  | @seq_out x y fr h e fr1 h1 _ he iha =>
    refine ⟨fun c' N ro β w a hc R F hN hla Q hQ => ?_, iha.2.1, fun c0 h0 => by cases h0⟩
    obtain ⟨x', y', rfl, hx, hy⟩ := low_seq hc
    refine wpIn_seq (iha.1 x' N ro β w a hx R F hN hla _ fun β1 w1 a1 new F1 N1 D1 M1 R1 E1 => ?_)
    have := hQ β1 w1 a1 new F1 N1 D1 M1 R1 E1
    cases e with
    | normal => exact absurd rfl he
    | exit id => exact this
    | ret => exact this
  | @cond_t c x y fr h r hc0 _ ih =>
    cases r with
    | v v h => exact ih.elim
    | fr e fr1 h1 =>
      refine ⟨fun c' N ro β w a hc R F hN hla Q hQ => ?_, ih.2.1, fun c0 h0 => by cases h0⟩
      obtain ⟨co, x', y', rfl, hco, hx, hy⟩ := low_cond hc
      have hv := opd_rel R F hco
      rw [hc0] at hv
      exact wpIn_cond_true hv.bool_inv (ih.1 x' N ro β w a hx R F hN hla Q hQ)
  | @cond_f c x y fr h r hc0 _ ih =>
    cases r with
    | v v h => exact ih.elim
    | fr e fr1 h1 =>
      refine ⟨fun c' N ro β w a hc R F hN hla Q hQ => ?_, ih.2.1, fun c0 h0 => by cases h0⟩
      obtain ⟨co, x', y', rfl, hco, hx, hy⟩ := low_cond hc
      have hv := opd_rel R F hco
      rw [hc0] at hv
      exact wpIn_cond_false hv.bool_inv (ih.1 y' N ro β w a hy R F hN hla Q hQ)
  | @block id c fr h e fr1 h1 _ ih =>
    refine ⟨fun c' N ro β w a hc R F hN hla Q hQ => ?_, ih.2.1, fun c0 h0 => by cases h0⟩
    obtain ⟨x', rfl, hx⟩ := low_block hc
    refine wpIn_block (ih.1 x' N ro β w a hx R F hN hla _ fun β1 w1 a1 new F1 N1 D1 M1 R1 E1 => ?_)
    have := hQ β1 w1 a1 new F1 N1 D1 M1 R1 E1
    cases e with
    | normal => exact this
    | ret => exact this
    | exit i =>
      by_cases hi : i = id
      · simpa [AExit.leave, AExit.real, Exit.inBlock, hi] using this
      · simpa [AExit.leave, AExit.real, Exit.inBlock, hi] using this
  | @loop c fr h fr1 h1 r _ _ iha ihb =>
    cases r with
    | v v h => exact ihb.elim
    | fr e fr2 h2 =>
      obtain ⟨m, hm⟩ := ihb.2.2 c rfl
      have hR : RoundSim P lo n0 c fr h e fr2 h2 := ⟨m + 1, fun c' N ro β w a hc R F hN hla Q hQ => by
        rw [roundsIn_succ]
        exact iha.1.then hc R F hN hla hQ fun β1 w1 a1 R1 F1 N1 la1 hQ1 => hm c' N ro β1 w1 a1 hc R1 F1 N1 la1 Q hQ1⟩
      refine ⟨fun c' N ro β w a hc R F hN hla Q hQ => ?_, Nat.le_trans iha.2.1 ihb.2.1, fun c0 h0 => by cases h0; exact hR⟩
      obtain ⟨x', rfl, hx⟩ := low_loop hc
      obtain ⟨m', hm'⟩ := hR
      exact wpIn_loop_rounds m' (hm' x' N ro β w a hx R F hN hla Q hQ)
  | @loop_out c fr h e fr1 h1 _ he iha =>
    have hR : RoundSim P lo n0 c fr h e fr1 h1 := ⟨1, fun c' N ro β w a hc R F hN hla Q hQ => by
      rw [roundsIn_succ]
      refine iha.1 c' N ro β w a hc R F hN hla _ fun β1 w1 a1 new F1 N1 D1 M1 R1 E1 => ?_
      have := hQ β1 w1 a1 new F1 N1 D1 M1 R1 E1
      cases e with
      | normal => exact absurd rfl he
      | exit id => exact this
      | ret => exact this⟩
    refine ⟨fun c' N ro β w a hc R F hN hla Q hQ => ?_, iha.2.1, fun c0 h0 => by cases h0; exact hR⟩
    obtain ⟨x', rfl, hx⟩ := low_loop hc
    obtain ⟨m', hm'⟩ := hR
    exact wpIn_loop_rounds m' (hm' x' N ro β w a hx R F hN hla Q hQ)
  | @exit id fr h =>
    refine ⟨fun c' N ro β w a hc R F hN hla Q hQ => ?_, Nat.le_refl _, fun c0 h0 => by cases h0⟩
    have := hQ β w a [] F hN rfl (.nil _ _) R (.refl R)
    rw [low_exit hc]
    exact wpIn_exit this
  | @ret fr h =>
    refine ⟨fun c' N ro β w a hc R F hN hla Q hQ => ?_, Nat.le_refl _, fun c0 h0 => by cases h0⟩
    have := hQ β w a [] F hN rfl (.nil _ _) R (.refl R)
    rw [low_ret hc]
    exact wpIn_ret this
  | @scope c fr h r _ ih =>
    cases r with
    | v v h => exact ih.elim
    | fr e fr1 h1 =>
      refine ⟨fun c' N ro β w a hc R F hN hla Q hQ => ?_, ih.2.1, fun c0 h0 => by cases h0⟩
      obtain ⟨x', rfl, hx⟩ := low_scope hc
      refine wpIn_scope (ih.1 x' N ro β w a hx R F hN hla _ fun β1 w1 a1 new F1 N1 D1 M1 R1 E1 => ?_)
      have := hQ β1 w1 a1 new F1 N1 D1 M1 R1 E1
      cases e with
      | normal => exact this
      | exit id => exact this
      | ret => exact this
  | @rangeFunc f ps assign body fr h g first cap v h2 L hf _ hl hs ih =>
    have hsz : h.size + 1 ≤ h2.size := by have := ih.2; simpa using this
    refine ⟨fun c' N ro β w a hc R F hN hla Q hQ => ?_, by simp; omega, fun c0 h0 => by cases h0⟩
    obtain ⟨fo, pa, x', y', rfl, hfo, hpa, hpb, hx, hy⟩ := low_rangeFunc hc
    refine wpIn_rangeFunc fun fn hfn => ?_
    have hround : (FW ro).round = ro := FW_round ro
    rw [← hN] at hpb hx hy
    obtain ⟨l, mark, w1, hen, hmark, R1, E1⟩ := enter_rel R F hla fn hpa hpb hx hy
    have hv := opd_rel R F hfo
    rw [hf] at hv
    have hle1 := E1.le R
    have hβl : bset β h.size (l, (0, 0)) h.size = some (l, (0, 0)) := bset_same _ _ _
    obtain ⟨d, hd, hK⟩ := ih.1 _ w1 (a.eval fo) #[.func (.yield l) #[] #[]] (hv.mono hle1)
      (by
        show LRel _ [_] [_]
        exact .cons (.func (.yield hβl) rfl (fun i v v' h => by simp at h) rfl (fun i v v' h => by simp at h)) (.nil _)) R1
    have hK := hK (fun u w3 => rangePost (FW ro) 0 P l Q { a with defers := mark ++ a.defers } (.returned u) w3) (fun β2 w2 u hu R2 E2 => by
      have hb2 : bset β h.size (l, (0, 0)) h.size = some (l, (0, 0)) := hβl
      have hb3 := E2.agree h.size (by simp)
      rw [hb2] at hb3
      obtain ⟨_, L', hL', hLR⟩ := R2.obj _ _ _ _ hb3 hl
      have hst : L'.state ≠ .busy := by rw [hLR.st]; exact hs
      have hlo : lo ≤ h.size := R.los
      obtain ⟨R3, E3⟩ := R2.set hlo hb3 (by rw [hl]; simp) (.loop { L with state := .exhausted }) (.loop { L' with state := .exhausted })
        ⟨rfl, _, rfl, ⟨hLR.fr, hLR.ps, hLR.pb, hLR.a, hLR.b, rfl, hLR.pj⟩⟩ (by simp) (fun _ _ => ⟨_, rfl⟩)
      refine ⟨L'.pending, _, run_endLoop hL' hst, real_jump hLR.pj ?_⟩
      have E12 := E1.trans E2
      have E13 := E12.trans E3
      exact hQ β2 _ { a with defers := mark ++ a.defers } mark (F.mono (E13.le R)) hN rfl ((hmark.ext R1 E2).ext R2 E3) R3 E13)
    rcases hK with ⟨q, as, hi, hcall⟩ | ⟨⟨l', hl'⟩, _⟩
    · refine ⟨l, mark, w1, d, w1, q, as, w1, ?_, ?_, fun f' _ => FW_fn ro f', hi, FW_depth ro, (calls_FW hcall).mono fun e w3 he => ?_⟩
      · rw [hround]; exact hen
      · simpa [resolve, rangeCall, Act.eval] using hd
      · cases e with
        | returned v => exact he
        | panicked c => exact he.elim
        | outgrown => exact he.elim
    · cases hl'
  | @weak c fr h h' r hk _ ih =>
    cases r with
    | v v h => exact ih.elim
    | fr e fr1 h1 =>
      have key : ∀ {β : Bij} {w : World}, HRel P lo n0 β h w → HRel P lo n0 β h' w := fun R => R.less hk
      refine ⟨fun c' N ro β w a hc R F hN hla Q hQ => ?_, by rw [← hk.1]; exact ih.2.1, fun c0 h0 => ?_⟩
      · exact ih.1 c' N ro β w a hc (key R) F hN hla Q fun β1 w1 a1 new F1 N1 D1 M1 R1 E1 => hQ β1 w1 a1 new F1 N1 D1 M1 R1 (E1.less hk)
      · obtain ⟨m, hm⟩ := ih.2.2 c0 h0
        exact ⟨m, fun c' N ro β w a hc R F hN hla Q hQ => hm c' N ro β w a hc (key R) F hN hla Q fun β1 w1 a1 new F1 N1 D1 M1 R1 E1 => hQ β1 w1 a1 new F1 N1 D1 M1 R1 (E1.less hk)⟩
  | @fn_pure f args v h hp => exact ⟨hO f args v h hp, Nat.le_refl _⟩
  | @fn_ext f args h v h1 hp => exact hX f args h v h1 hp
  | @fn_func f first cap args h A e fr1 h1 v hGf _ hn he hr ih =>
    refine ⟨fun β w v' args' hv hargs R => ?_, ih.2.1⟩
    obtain ⟨fn, c, hfn, hbody, hres, hnt, hlow, hname⟩ := low_fn (hG _ _ hGf)
    cases hv with
    | @func _ f' _ x' _ c' hfr s1 k1 s2 k2 =>
      cases hfr with
      | func =>
        refine ⟨_, rfl, fun K hK => .inl ⟨f, x' ++ args' ++ c', ?_, ?_⟩⟩
        · simp only [invoke, callFunc]
          have hname' : fn.name ≠ "runtime.NumGoroutine" := by simpa using hname
          simp [hfn, hname', hbody]
        · have hL : LRel β (first.toList ++ args ++ cap.toList) (x' ++ args' ++ c').toList := by
            simp only [Array.toList_append]
            exact ((arr_rel s1 k1).append hargs).append (arr_rel s2 k2)
          have hsz : (x' ++ args' ++ c').size = (first.toList ++ args ++ cap.toList).length := by rw [hL.1]; simp
          refine callsIn_of_wp_marks hfn hbody trivial ?_
          refine ih.1 c fn.ntmps none β w _ (by rw [hlow]) R (frel_args hL _) (by simp only [Array.size_append, Array.size_replicate] at hsz ⊢; omega) (fun l hl => by cases hl) _ fun β1 w1 a1 new F1 N1 D1 M1 R1 E1 => ?_
          have key : LeavesInM Fence.wide 0 P fn a1.tmps (retK K) a1.defers .returning w1 := by
            obtain ⟨rs, rfl, h3, h4⟩ := M1
            rw [D1, List.append_nil]
            exact leaves F1 hres hr (fun w2 u hu R2 E2 => hK β1 w2 u hu R2 E2) rs w1 R1 E1 h3 h4
          rcases he with rfl | rfl
          · exact key
          · exact key
  | @fn_yield l args h L fr1 h1 L1 e fr2 h2 L2 hlo hl hn _ hl1 hs _ hl2 iha ihb =>
    refine ⟨fun β w v' args' hv hargs R => ?_, by have h3 := iha.2.1; have h4 := ihb.2.1; simp at h4 ⊢; omega⟩
    cases hv with
    | @func _ f' _ x' _ c' hfr s1 k1 s2 k2 =>
      cases hfr with
      | @yield _ l' hβ =>
        have hx' : x' = #[] := Array.eq_empty_of_size_eq_zero (by rw [← s1]; rfl)
        have hc' : c' = #[] := Array.eq_empty_of_size_eq_zero (by rw [← s2]; rfl)
        subst hx'; subst hc'
        obtain ⟨_, L', hL', hLR⟩ := R.obj _ _ _ _ hβ hl
        have hlen : args'.size = L'.params.size := by
          have h5 := hargs.1
          have h6 := congrArg List.length hLR.ps
          simp at h5 h6; omega
        refine ⟨_, rfl, fun K hK => .inr ⟨⟨l, rfl⟩, l', L'.fn, (L'.params.zip args').foldl (fun tmps (t, a) => tmps.setIfInBounds t a) L'.tmps, L'.assign, L'.body, ?_, ?_⟩⟩
        · simp only [invoke, Array.empty_append]
          exact run_yield hL' hlen
        · obtain ⟨Fp, Np⟩ := frel_params L.params args args'.toList L.fr L'.tmps hLR.fr hargs hn hLR.pb
          have hfold : (L'.params.zip args').foldl (fun tmps (t, a) => tmps.setIfInBounds t a) L'.tmps = (L.params.zip args'.toList).foldl (fun (tm : Array Value) (x : Nat × Value) => tm.setIfInBounds x.1 x.2) L'.tmps := by
            rw [← Array.foldl_toList, Array.toList_zip, hLR.ps]
          rw [hfold]
          refine roundIn_of_wpIn (F := Fence.wide) trivial ?_
          have hla : LoopAt (some l') w := fun l0 h0 => by cases h0; exact ⟨L', hL'⟩
          refine iha.1 L'.assign L'.tmps.size (some l') β w _ hLR.a R Fp Np hla _ fun β1 w1 a1 new F1 N1 D1 M1 R1 E1 => ?_
          have hβ1 : β1 l = some (l', (0, 0)) := by rw [E1.agree l (Array.getElem?_eq_some_iff.1 hl).1]; exact hβ
          obtain ⟨_, L1', hL1', hLR1⟩ := R1.obj _ _ _ _ hβ1 hl1
          have hj1 : h1[l]? ≠ some .junk := by rw [hl1]; simp
          obtain ⟨R2, E2⟩ := R1.set hlo hβ1 hj1 (.loop { L1 with state := .busy }) (.loop { L1' with state := .busy })
            ⟨rfl, _, rfl, ⟨hLR1.fr, hLR1.ps, hLR1.pb, hLR1.a, hLR1.b, rfl, hLR1.pj⟩⟩ (by simp) (fun _ _ => ⟨_, rfl⟩)
          refine ⟨_, run_beginRound hL1' (by rw [hLR1.st]; exact hs), ?_⟩
          have hla2 : LoopAt (some l') (w1.putObj l' (.loop { L1' with state := .busy })) := (hla.ext E1).ext E2
          refine ihb.1 L'.body L'.tmps.size (some l') β1 _ a1 hLR.b R2 F1 N1 hla2 _ fun β2 w2 a2 new2 F2 N2 D2 M2 R3 E3 => ?_
          have hls : l < (h1.setIfInBounds l (.loop { L1 with state := .busy })).size := by
            have := (Array.getElem?_eq_some_iff.1 hl1).1; simpa using this
          have hβ2 : β2 l = some (l', (0, 0)) := by rw [E3.agree l hls]; exact hβ1
          obtain ⟨_, L2', hL2', hLR2⟩ := R3.obj _ _ _ _ hβ2 hl2
          have hj2 : h2[l]? ≠ some .junk := by rw [hl2]; simp
          obtain ⟨jump, hj, hgo, hsa, hpost⟩ := endRound_jump e
          obtain ⟨R4, E4⟩ := R3.set hlo hβ2 hj2 (.loop { L2 with state := e.stateAfter, pending := e.jump }) (.loop { L2' with state := if jump.isNone then .ready else .done, pending := jump })
            ⟨rfl, _, rfl, ⟨hLR2.fr, hLR2.ps, hLR2.pb, hLR2.a, hLR2.b, hsa, hj⟩⟩ (by simp) (fun _ _ => ⟨_, rfl⟩)
          refine hpost _ _ _ _ _ ⟨_, _, run_endRound jump hL2', ?_⟩
          exact hK β2 _ _ (by rw [hgo]; exact .bool _) R4 (((E1.trans E2).trans E3).trans E4)
end
end Go.RS

/- From a run of the abstract machine to the real call. -/
namespace Go.RS
open Go Go.RowKit

section
variable {P : Program}

/-- What a call that is followed gives the kit. -/
theorem FnSim.calls {lo n0 : Nat} {f : Nat} {A : AFn} (hlow : lowFn P f = some A) {args : List Value} {h h1 : AH} {v : Value} (hs : FnSim P lo n0 (.func (.func f) #[] #[]) args h v h1)
    {β : Bij} {w : World} {args' : Array Value} (hargs : LRel β args args'.toList) (R : HRel P lo n0 β h w) {K : Value → World → Prop}
    (hK : ∀ β1 w1 v1', VRel β1 v v1' → HRel P lo n0 β1 h1 w1 → Ext lo β h w β1 h1 w1 → K v1' w1) : CallsIn Fence.wide 0 P f args' w (retK K) := by
  obtain ⟨fn, c, hfn, hbody, _, _, _, hname⟩ := low_fn hlow
  obtain ⟨d, hd, hk⟩ := hs β w (.func (.func f) #[] #[]) args' (.func (.func f) rfl (fun i v v' h => by simp at h) rfl (fun i v v' h => by simp at h)) hargs R
  have hd0 : (⟨.fn (.func f) #[], #[] ++ args'⟩ : Deferred) = d := by
    have : (Deferred.ofValue (.func (.func f) #[] #[]) args').run P w = .ok ⟨.fn (.func f) #[], #[] ++ args'⟩ w := rfl
    rw [this] at hd
    exact (Result.ok.inj hd).1
  subst hd0
  have hname' : fn.name ≠ "runtime.NumGoroutine" := by simpa using hname
  have hrun : (invoke (.fn (.func f) #[]) (#[] ++ args')).run P w = .ok (.enter f args') w := by
    simp only [invoke, callFunc]
    simp [hfn, hname', hbody]
  rcases hk K hK with ⟨g, as, hi, hc⟩ | ⟨⟨l, hl⟩, _⟩
  · rw [hrun] at hi
    have := (Result.ok.inj hi).1
    simp only [Next.enter.injEq] at this
    obtain ⟨rfl, rfl⟩ := this
    exact hc
  · cases hl

/-- **THE END**: a run of the abstract machine from a memory of which nothing may be written is the real call: it answers so, and all old memory is as it was. -/
theorem close {G : Env} {f : Nat} {A : AFn} {args : List Value} {h0 h1 : AH} {v : Value} (hG : ∀ f A, G.fn f = some A → lowFn P f = some A) (hmix : P.follows .mixedOrders = true) (hlow : lowFn P f = some A)
    {β : Bij} {w : World} {args' : Array Value} (hO : ∀ f args v h, G.pure f args v h → FnSim P h0.size w.heap.size (.func (.func f) #[] #[]) args h v h)
    (hX : ∀ f args h v h1, G.ext h0.size f args h v h1 → FnSim P h0.size w.heap.size (.func (.func f) #[] #[]) args h v h1 ∧ h.size ≤ h1.size)
    (hB : B G h0.size (.fn (.func (.func f) #[] #[]) args h0) (.v v h1)) (hargs : LRel β args args'.toList) (R : HRel P h0.size w.heap.size β h0 w) :
    Calls P f args' w fun e w' => ∃ β1 v', e = .returned v' ∧ VRel β1 v v' ∧ Below w.heap.size w w' := by
  rw [← callsIn_wide (n := 0)]
  have hs : FnSim P h0.size w.heap.size (.func (.func f) #[] #[]) args h0 v h1 := (sim hG hO hX hmix hB).1
  refine (hs.calls hlow hargs R (K := fun v' w' => ∃ β1, VRel β1 v v' ∧ Below w.heap.size w w') fun β1 w1 v1' hv R1 E1 => ⟨β1, hv, E1.env.1, E1.env.2.1, E1.env.2.2, E1.ws, fun k hk => E1.keep k hk fun b d hl hb => ?_⟩).mono fun e w' he => ?_
  · have := (R.dom b k d hb).1; omega
  · cases e with
    | returned v' => obtain ⟨β1, h2, h3⟩ := he; exact ⟨β1, v', rfl, h2, h3⟩
    | panicked c => exact he.elim
    | outgrown => exact he.elim

/-- A base: blocks of closed values that nobody writes. -/
def Closed (hc : AH) : Prop := ∀ b : Nat, b < hc.size → ∃ c, hc[b]? = some (.cells c) ∧ ∀ v ∈ c, closedS v = true
end
end Go.RS

/- What a run reaches: rules for proofs by hand. -/
namespace Go.RS
open Go

section
variable {G : Env} {lo : Nat} {fr : Fr} {h : AH}
/-- Code reaches an end that Q takes. -/
def W (G : Env) (lo : Nat) (c : ACode) (fr : Fr) (h : AH) (Q : AExit → Fr → AH → Prop) : Prop := ∃ e fr1 h1, B G lo (.code c fr h) (.fr e fr1 h1) ∧ Q e fr1 h1
def WO (G : Env) (lo : Nat) (l : List AOper) (fr : Fr) (h : AH) (Q : Fr → AH → Prop) : Prop := ∃ fr1 h1, B G lo (.ops l fr h) (.fr .normal fr1 h1) ∧ Q fr1 h1
def WD (G : Env) (lo : Nat) (l : List AOper) (fr : Fr) (h : AH) (Q : Fr → AH → Prop) : Prop := ∃ fr1 h1, B G lo (.opsD l fr h) (.fr .normal fr1 h1) ∧ Q fr1 h1
/-- A call answers as K takes it. -/
def WF (G : Env) (lo : Nat) (v : Value) (args : List Value) (h : AH) (K : Value → AH → Prop) : Prop := ∃ v1 h1, B G lo (.fn v args h) (.v v1 h1) ∧ K v1 h1

theorem W.mono {c : ACode} {Q Q' : AExit → Fr → AH → Prop} (hw : W G lo c fr h Q) (hq : ∀ e f h, Q e f h → Q' e f h) : W G lo c fr h Q' := let ⟨e, f, h1, hb, q⟩ := hw; ⟨e, f, h1, hb, hq _ _ _ q⟩
theorem WF.mono {v : Value} {args : List Value} {K K' : Value → AH → Prop} (hw : WF G lo v args h K) (hk : ∀ v h, K v h → K' v h) : WF G lo v args h K' := let ⟨v1, h1, hb, k⟩ := hw; ⟨v1, h1, hb, hk _ _ k⟩
theorem W.skip {Q : AExit → Fr → AH → Prop} (q : Q .normal fr h) : W G lo .skip fr h Q := ⟨_, _, _, .skip, q⟩
theorem W.ret {Q : AExit → Fr → AH → Prop} (q : Q .ret fr h) : W G lo .ret fr h Q := ⟨_, _, _, .ret, q⟩
theorem W.exit {id : Nat} {Q : AExit → Fr → AH → Prop} (q : Q (.exit id) fr h) : W G lo (.exit id) fr h Q := ⟨_, _, _, .exit, q⟩
theorem W.region {l : List AOper} {Q : AExit → Fr → AH → Prop} (hw : WO G lo l fr h (Q .normal)) : W G lo (.region false l) fr h Q := let ⟨_, _, hb, q⟩ := hw; ⟨_, _, _, .region hb, q⟩
theorem W.regionD {l : List AOper} {Q : AExit → Fr → AH → Prop} (hw : WD G lo l fr h (Q .normal)) : W G lo (.region true l) fr h Q := let ⟨_, _, hb, q⟩ := hw; ⟨_, _, _, .regionD hb, q⟩
/-- On with b where a ends normally. -/
def thenQ (G : Env) (lo : Nat) (b : ACode) (Q : AExit → Fr → AH → Prop) : AExit → Fr → AH → Prop
  | .normal, f, h => W G lo b f h Q
  | e, f, h => Q e f h
theorem W.seq {a b : ACode} {Q : AExit → Fr → AH → Prop} (hw : W G lo a fr h (thenQ G lo b Q)) : W G lo (.seq a b) fr h Q := by
  obtain ⟨e, f, h1, hb, q⟩ := hw
  cases e with
  | normal => obtain ⟨e2, f2, h2, hb2, q2⟩ := q; exact ⟨e2, f2, h2, .seq hb hb2, q2⟩
  | exit id => exact ⟨_, f, h1, .seq_out hb (by simp), q⟩
  | ret => exact ⟨_, f, h1, .seq_out hb (by simp), q⟩
theorem W.cond {c : Opd} {a b : ACode} {t : Bool} {Q : AExit → Fr → AH → Prop} (hc : c.ev fr = .bool t) (ht : t = true → W G lo a fr h Q) (hf : t = false → W G lo b fr h Q) : W G lo (.cond c a b) fr h Q := by
  cases t with
  | true => obtain ⟨e, f, h1, hb, q⟩ := ht rfl; exact ⟨e, f, h1, .cond_t hc hb, q⟩
  | false => obtain ⟨e, f, h1, hb, q⟩ := hf rfl; exact ⟨e, f, h1, .cond_f hc hb, q⟩
theorem W.block {id : Nat} {c : ACode} {Q : AExit → Fr → AH → Prop} (hw : W G lo c fr h fun e f h => Q (e.leave id) f h) : W G lo (.block id c) fr h Q := let ⟨_, f, h1, hb, q⟩ := hw; ⟨_, f, h1, .block hb, q⟩
theorem W.scope {c : ACode} {Q : AExit → Fr → AH → Prop} (hw : W G lo c fr h Q) : W G lo (.scope c) fr h Q := let ⟨e, f, h1, hb, q⟩ := hw; ⟨e, f, h1, .scope hb, q⟩
theorem W.loop {c : ACode} {Q : AExit → Fr → AH → Prop} (hw : W G lo c fr h (thenQ G lo (.loop c) Q)) : W G lo (.loop c) fr h Q := by
  obtain ⟨e, f, h1, hb, q⟩ := hw
  cases e with
  | normal => obtain ⟨e2, f2, h2, hb2, q2⟩ := q; exact ⟨e2, f2, h2, .loop hb hb2, q2⟩
  | exit id => exact ⟨_, f, h1, .loop_out hb (by simp), q⟩
  | ret => exact ⟨_, f, h1, .loop_out hb (by simp), q⟩
theorem WO.nil {Q : Fr → AH → Prop} (q : Q fr h) : WO G lo [] fr h Q := ⟨_, _, .ops_nil, q⟩
theorem WO.op {o : AOper} {os : List AOper} {v : Value} {h1 : AH} {Q : Fr → AH → Prop} (hw : wantedA o.guard fr = true) (ho : aop lo o.op fr h = some (v, h1)) (hn : WO G lo os (putF fr o.dst v) h1 Q) : WO G lo (o :: os) fr h Q :=
  let ⟨f, h2, hb, q⟩ := hn; ⟨f, h2, .ops_op hw ho hb, q⟩
theorem WO.skip {o : AOper} {os : List AOper} {Q : Fr → AH → Prop} (hw : wantedA o.guard fr = false) (hn : WO G lo os (putF fr o.dst undef) h Q) : WO G lo (o :: os) fr h Q :=
  let ⟨f, h2, hb, q⟩ := hn; ⟨f, h2, .ops_skip hw hb, q⟩
theorem WO.call {o : AOper} {os : List AOper} {f : Opd} {args : List Opd} {Q : Fr → AH → Prop} (hw : wantedA o.guard fr = true) (he : o.op = .call f args) (hc : WF G lo (f.ev fr) (args.map (·.ev fr)) h fun v h1 => WO G lo os (putF fr o.dst v) h1 Q) :
    WO G lo (o :: os) fr h Q :=
  let ⟨_, _, hb, f2, h2, hb2, q⟩ := hc; ⟨f2, h2, .ops_call hw he hb hb2, q⟩
theorem WD.nil {Q : Fr → AH → Prop} (q : Q fr h) : WD G lo [] fr h Q := ⟨_, _, .opsD_nil, q⟩
theorem WD.op {o : AOper} {os : List AOper} {v : Value} {h1 : AH} {Q : Fr → AH → Prop} (hw : wantedA o.guard fr = true) (ho : aop lo o.op fr h = some (v, h1)) (hd : o.op.still = true ∨ Grow h h1 ∨ (o.seqd = true ∧ lateOk o fr h)) (hn : WD G lo os (putF fr o.dst v) h1 Q) : WD G lo (o :: os) fr h Q :=
  let ⟨f, h2, hb, q⟩ := hn; ⟨f, h2, .opsD_op hw ho hd hb, q⟩
theorem WD.skip {o : AOper} {os : List AOper} {Q : Fr → AH → Prop} (hw : wantedA o.guard fr = false) (hn : WD G lo os (putF fr o.dst undef) h Q) : WD G lo (o :: os) fr h Q :=
  let ⟨f, h2, hb, q⟩ := hn; ⟨f, h2, .opsD_skip hw hb, q⟩
theorem WD.call {o : AOper} {os : List AOper} {f : Opd} {args : List Opd} {Q : Fr → AH → Prop} (hw : wantedA o.guard fr = true) (he : o.op = .call f args)
    (hc : WF G lo (f.ev fr) (args.map (·.ev fr)) h fun v h1 => (Grow h h1 ∨ (o.seqd = true ∧ o.late = [])) ∧ WD G lo os (putF fr o.dst v) h1 Q) : WD G lo (o :: os) fr h Q :=
  let ⟨_, _, hb, hd, f2, h2, hb2, q⟩ := hc; ⟨f2, h2, .opsD_call hw he hb hd hb2, q⟩
/-- A function is entered. -/
theorem WF.func {f : Nat} {first cap : Array Value} {args : List Value} {A : AFn} {K : Value → AH → Prop} (hG : G.fn f = some A) (hn : (first.toList ++ args ++ cap.toList).length ≤ A.ntmps)
    (hw : W G lo A.body (argsFr (first.toList ++ args ++ cap.toList)) h fun e fr1 h1 => (e = .normal ∨ e = .ret) ∧ ∃ v, resultsA A.results fr1 h1 = some v ∧ K v h1) : WF G lo (.func (.func f) first cap) args h K :=
  let ⟨_, _, h1, hb, he, v, hr, k⟩ := hw; ⟨v, h1, .fn_func hG hb hn he hr, k⟩
theorem WF.ext {f : Nat} {args : List Value} {v : Value} {h1 : AH} {K : Value → AH → Prop} (hp : G.ext lo f args h v h1) (k : K v h1) : WF G lo (.func (.func f) #[] #[]) args h K := ⟨v, h1, .fn_ext hp, k⟩
theorem WF.pure {f : Nat} {args : List Value} {v : Value} {K : Value → AH → Prop} (hp : G.pure f args v h) (k : K v h) : WF G lo (.func (.func f) #[] #[]) args h K := ⟨v, h, .fn_pure hp, k⟩
/-- An operation answers, and what stands behind it holds. -/
def ok (x : Option (Value × AH)) (k : Value → AH → Prop) : Prop := match x with | some (v, h) => k v h | none => False
/-- What a list of operations asks, in order. -/
def wo (G : Env) (lo : Nat) (Q : Fr → AH → Prop) : List AOper → Fr → AH → Prop
  | [], fr, h => Q fr h
  | o :: os, fr, h =>
    if wantedA o.guard fr = true then
      match o.op with
      | .call f args => WF G lo (f.ev fr) (args.map (·.ev fr)) h fun v h1 => wo G lo Q os (putF fr o.dst v) h1
      | op => ok (aop lo op fr h) fun v h1 => wo G lo Q os (putF fr o.dst v) h1
    else wo G lo Q os (putF fr o.dst undef) h
end
end Go.RS

