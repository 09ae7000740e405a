/- Regions that draw their order (7): the whole region. -/
import Derived.Test.YtidnkmbicedmjaaDoorSimX
namespace Go.RS
open Go

section
variable {P : Program} {lo n0 N : Nat} {ops : Array Oper} {frs : Nat → Fr} {hs : Nat → AH} {vs : Nat → Value} {β0 : Bij} {w0 : World} {df : List Deferred} {ro : Option Nat}
  {l : Array Bool} {e : Nat} {β : Bij} {a : Act} {w : World}

theorem ready_all (hE : edgesOk ops = true) (hsz : l.size = ops.size) (h : Region.ready .any ops l = []) : ∀ j, j < ops.size → Listed l j := by
  intro j
  induction j using Nat.strongRecOn with
  | _ j ih =>
    intro hj
    cases hl : l.getD j false with
    | true => exact hl
    | false =>
      exfalso
      have ho : ops[j]? = some ops[j] := Array.getElem?_eq_getElem hj
      have : j ∈ Region.ready .any ops l := mem_ready.2 ⟨by
        rw [Array.getD_eq_getD_getElem?] at hl ⊢
        rw [Array.getElem?_eq_getElem (by omega)] at hl ⊢
        exact hl, ops[j], ho, fun ed h1 h2 => ih ed.on (edges_lt hE ho h1 h2) (by have := edges_lt hE ho h1 h2; omega)⟩
      rw [h] at this; cases this

def cnt (l : Array Bool) : Nat := l.toList.countP (fun b => !b)
theorem cnt_set {i : Nat} (hi : i < l.size) (h : ¬ Listed l i) : cnt (l.setIfInBounds i true) + 1 ≤ cnt l := by
  have h1 : l.toList[i]'(by simpa using hi) = false := by
    unfold Listed at h
    rw [Array.getD_eq_getD_getElem?, Array.getElem?_eq_getElem hi] at h
    simpa using h
  unfold cnt
  rw [Array.toList_setIfInBounds, List.countP_set (by simpa using hi), h1]
  have : 0 < l.toList.countP (fun b => !b) := List.countP_pos_iff.2 ⟨false, by rw [← h1]; exact List.getElem_mem _, rfl⟩
  simp only [Bool.not_false, if_true, Bool.not_true, Bool.false_eq_true, if_false]
  omega
theorem cnt_zero (h : cnt l = 0) : ∀ j, j < l.size → Listed l j := by
  intro j hj
  unfold cnt at h
  rw [List.countP_eq_zero] at h
  have := h (l[j]) (by simp)
  unfold Listed
  rw [Array.getD_eq_getD_getElem?, Array.getElem?_eq_getElem hj]
  simpa using this

theorem RInv.done (C : DC P lo n0 N ops frs hs vs) (I : RInv P lo n0 N ops frs hs vs β0 w0 df ro l e β a w) (R0 : HRel P lo n0 β0 (hs 0) w0) (hall : ∀ j, j < ops.size → Listed l j) :
    FRel β (frs ops.size) a.tmps ∧ a.tmps.size = N ∧ a.defers = df ∧ HRel P lo n0 β (hs ops.size) w ∧ Ext lo β0 (hs 0) w0 β (hs ops.size) w := by
  have hm := C.mono
  have he : e = ops.size := by
    have := I.M.en
    by_cases h : e = ops.size
    · exact h
    · exact absurd (hall e (by omega)) (I.st2 (by omega)).2
  have M := I.M
  have X := I.ex
  rw [he] at M X
  refine ⟨fun t => ?_, I.sz, I.df, ⟨M.dom, fun b r d o hb ho => ?_, M.img, M.low, M.inj, M.glob, ?_, M.n0s⟩, ?_⟩
  · rcases I.fs t with ⟨h1, h2⟩ | ⟨j, h1, h2, h3, h4, h5⟩
    · rw [fr_same C (t := t) (Nat.zero_le _) (Nat.le_refl _) (fun k _ hk => h2 k hk (hall k hk))]
      exact h1.mono (cutB_le _ _)
    · rw [fr_last C h1 (Nat.le_refl _) h3 (fun k hk1 hk2 hd => by have := h4 k hk2 (hall k hk2) hd; omega)]
      exact h5.mono (cutB_le _ _)
  · exact (M.obj b r d o hb ho ops.size (Nat.le_refl _) (M.dom b r d hb).1 (fun k h1 h2 => by omega)).mono (cutB_le _ _)
  · exact Nat.le_trans M.los (mono_sizes hm (Nat.zero_le _) (Nat.le_refl _))
  · refine ⟨fun b hb => I.d0 b hb, X.hs, X.ws, X.junk, X.keep, fun b r d hb hx => X.fresh b r d ?_ hx, X.lps, X.env⟩
    cases hy : β0 b with
    | none => rfl
    | some x => obtain ⟨r', d'⟩ := x; have := (R0.dom b r' d' hy).1; omega

theorem region_any (C : DC P lo n0 N ops frs hs vs) (R0 : HRel P lo n0 β0 (hs 0) w0) {Q : Exit → Act → World → Prop}
    (hQ : ∀ β1 w1 a1, FRel β1 (frs ops.size) a1.tmps → a1.tmps.size = N → a1.defers = df → HRel P lo n0 β1 (hs ops.size) w1 → Ext lo β0 (hs 0) w0 β1 (hs ops.size) w1 → Q .normal a1 w1) :
    ∀ (fuel : Nat) (l : Array Bool) (e : Nat) (β : Bij) (a : Act) (w : World), RInv P lo n0 N ops frs hs vs β0 w0 df ro l e β a w → cnt l ≤ fuel → wpAnyIn (FW ro) 0 P .any ops Q fuel l a w := by
  intro fuel
  have fin : ∀ (l : Array Bool) (e : Nat) (β : Bij) (a : Act) (w : World), RInv P lo n0 N ops frs hs vs β0 w0 df ro l e β a w → (∀ j, j < ops.size → Listed l j) → Q .normal a w := by
    intro l e β a w I hall
    obtain ⟨h1, h2, h3, h4, h5⟩ := I.done C R0 hall
    exact hQ β w a h1 h2 h3 h4 h5
  induction fuel with
  | zero =>
    intro l e β a w I hc
    have hall : ∀ j, j < ops.size → Listed l j := fun j hj => cnt_zero (by omega) j (by rw [I.lsz]; exact hj)
    refine ⟨?_, fin l e β a w I hall⟩
    apply List.eq_nil_iff_forall_not_mem.2
    intro j hj
    obtain ⟨h1, o, ho, _⟩ := mem_ready.1 hj
    have hjs : j < ops.size := (Array.getElem?_eq_some_iff.1 ho).1
    have h2 := hall j hjs
    unfold Listed at h2
    rw [Array.getD_eq_getD_getElem?, Array.getElem?_eq_getElem (by rw [I.lsz]; exact hjs)] at h1 h2
    simp at h1 h2
    rw [h1] at h2; cases h2
  | succ fuel ih =>
    intro l e β a w I hc
    refine ⟨fun h => fin l e β a w I (ready_all C.parts.2.1 I.lsz h), fun i hi => ?_⟩
    obtain ⟨h1, o, ho, _⟩ := mem_ready.1 hi
    have his : i < ops.size := (Array.getElem?_eq_some_iff.1 ho).1
    have hn : ¬ Listed l i := by
      unfold Listed
      rw [Array.getD_eq_getD_getElem?, Array.getElem?_eq_getElem (by rw [I.lsz]; exact his)] at h1 ⊢
      simp at h1 ⊢
      exact h1
    refine I.take C ho hn (ready_closed C.parts.2.1 I.cl hi) fun e' γ a1 w1 I1 => ih _ e' γ a1 w1 I1 ?_
    have := cnt_set (by rw [I.lsz]; exact his) hn
    omega

/-- **A region that draws its order: what the text's order gives, every order gives.** -/
theorem region_drawn (hmix : P.follows .mixedOrders = true) {fr fr1 : Fr} {h h1 : AH} (hT : Tr P lo n0 true (lowRegion P N ops true) fr h fr1 h1) (R : HRel P lo n0 β h w) (F : FRel β fr a.tmps)
    (hN : a.tmps.size = N) (hla : LoopAt ro w) {id : Nat} {Q : Exit → Act → World → Prop}
    (hQ : ∀ β1 w1 a1, FRel β1 fr1 a1.tmps → a1.tmps.size = N → a1.defers = a.defers → HRel P lo n0 β1 h1 w1 → Ext lo β h w β1 h1 w1 → Q .normal a1 w1) :
    (Code.region id ops true).wpIn (FW ro) 0 P Q a w := by
  have hok : drawOk P N ops = true := by
    cases hk : drawOk P N ops with
    | true => rfl
    | false =>
      simp only [lowRegion, hk, Bool.true_eq_false, Bool.false_eq_true, if_false] at hT
      exact (no_bad hT).elim
  obtain ⟨frs, hs, vs, e1, e2, e3, e4, hat⟩ := hT.seq
  have hl : lowRegion P N ops true = ops.toList.zipIdx.map fun p => lowDrawn P N ops p.2 p.1 := by simp [lowRegion, hok]
  have hlen : (lowRegion P N ops true).length = ops.size := by rw [hl]; simp
  rw [hlen] at e3 e4
  have C : DC P lo n0 N ops frs hs vs := ⟨hok, fun j o ho => hat j _ (by
    rw [hl, List.getElem?_map, List.getElem?_zipIdx, Array.getElem?_toList, ho]
    simp)⟩
  subst e1 e2 e3 e4
  have hm := C.mono
  have hd0 : ∀ b x, β b = some x → b < (hs 0).size := fun b x hb => by
    obtain ⟨r, d⟩ := x
    exact (R.dom b r d hb).1
  have hcut : BLe β (cutB β (hs 0).size) := fun b x hb => by
    unfold cutB; rw [if_pos (hd0 b x hb)]; exact hb
  obtain ⟨e, _, e2, e3, e4⟩ := stage_next (fun j => Wr hs j) ops.size _ 0 rfl (Nat.zero_le _) (fun j hj => by omega)
  have hrep : ∀ j, ¬ Listed (Array.replicate ops.size false) j := fun j h => by
    unfold Listed at h
    rw [Array.getD_eq_getD_getElem?, Array.getElem?_replicate] at h
    split at h <;> simp at h
  have same : ∀ (m b : Nat), m ≤ e → b < (hs 0).size → (hs m)[b]? = (hs 0)[b]? := fun m b h1 h2 => same_run (Nat.zero_le _) fun k _ h4 =>
    (grow_of_not_wr (e3 k (by omega))).2 b (Nat.lt_of_lt_of_le h2 (mono_sizes hm (Nat.zero_le _) (by omega)))
  have R' := R.drew (w.drawn + 1)
  refine wpIn_region_any hmix (region_any (ro := ro) (df := a.defers) (β0 := β) C R' ?_ ops.size _ e β a _ ⟨?_, by simp, fun j hj => absurd hj (hrep j), fun j hj hw => absurd hw (e3 j hj), fun h => ⟨e4 h, hrep e⟩, ?_, fun b _ => rfl, hN, fun t => ?_, rfl, ?_, ?_⟩ ?_)
  · intro β1 w1 a1 h1 h2 h3 h4 h5
    exact hQ β1 w1 a1 h1 h2 h3 h4 ⟨h5.agree, h5.hs, h5.ws, h5.junk, h5.keep, h5.fresh, h5.lps, h5.env⟩
  · have hse : (hs 0).size ≤ (hs e).size := mono_sizes hm (Nat.zero_le _) e2
    refine ⟨e2, fun b r d hb => ⟨Nat.lt_of_lt_of_le (hd0 b _ hb) hse, (R.dom b r d hb).2⟩, fun b r d o hb ho m h1 h2 h3 => ?_, R.img, R.low, fun b b' r d d' h1 h2 h3 h4 h5 h6 => ?_, R.glob, ?_, R.los, R.n0s⟩
    · rw [same e b (Nat.le_refl _) (hd0 b _ hb)] at ho
      exact (R.obj b r d o hb ho).mono (hcut.trans (cutB_le_cutB β (mono_sizes hm (Nat.zero_le m) (by omega))))
    · exact R.inj b b' r d d' h1 h2 h3 h4 (by rw [← same e b (Nat.le_refl _) (hd0 b _ h3)]; exact h5) (by rw [← same e b' (Nat.le_refl _) (hd0 b' _ h4)]; exact h6)
    · by_cases hg : P.globals.size = 0
      · omega
      · obtain ⟨z, hz⟩ := R.glob (P.globals.size - 1) (by omega)
        have := hd0 _ _ hz
        omega
  · intro b x hb
    exact .inl (hd0 b x hb)
  · exact .inl ⟨(F t).mono hcut, fun j hj hl => absurd hl (hrep j)⟩
  · exact hla
  · refine ⟨.refl β, mono_sizes hm (Nat.zero_le _) e2, Nat.le_refl _, fun b x hb hj => ?_, fun _ _ _ => rfl, fun b r d h1 h2 => (by rw [h1] at h2; cases h2), fun r L hL => ⟨L, hL⟩, rfl, rfl, rfl⟩
    rw [same e b (Nat.le_refl _) (hd0 b x hb)]; exact hj
  · unfold cnt
    refine Nat.le_trans List.countP_le_length ?_
    simp
end
end Go.RS
