/- Regions that draw their order (6): whatever order is drawn, the text's result. -/
import Derived.Test.YtidnkmbicedmjaaDoorSimW
namespace Go.RS
open Go

section
variable {P : Program} {lo n0 N : Nat} {ops : Array Oper} {frs : Nat → Fr} {hs : Nat → AH} {vs : Nat → Value} {β0 : Bij} {w0 : World} {df : List Deferred} {ro : Option Nat}

def SlotI (ops : Array Oper) (frs : Nat → Fr) (hs : Nat → AH) (vs : Nat → Value) (l : Array Bool) (β : Bij) (a : Act) (t : Nat) : Prop :=
  (VRel (cutB β (hs 0).size) (frs 0 t) (a.tmps.getD t undef) ∧ ∀ j, j < ops.size → Listed l j → dstOf ops j ≠ some t) ∨
  ∃ j, j < ops.size ∧ Listed l j ∧ dstOf ops j = some t ∧ (∀ k, k < ops.size → Listed l k → dstOf ops k = some t → k ≤ j) ∧ VRel (cutB β (hs (j + 1)).size) (vs j) (a.tmps.getD t undef)

structure RInv (P : Program) (lo n0 N : Nat) (ops : Array Oper) (frs : Nat → Fr) (hs : Nat → AH) (vs : Nat → Value) (β0 : Bij) (w0 : World) (df : List Deferred) (ro : Option Nat)
    (l : Array Bool) (e : Nat) (β : Bij) (a : Act) (w : World) : Prop where
  M : MInv P lo n0 hs ops.size e β w
  lsz : l.size = ops.size
  cl : ClosedL ops l
  st1 : ∀ j, j < e → Wr hs j → Listed l j
  st2 : e < ops.size → Wr hs e ∧ ¬ Listed l e
  dl : ∀ b x, β b = some x → b < (hs 0).size ∨ ∃ j, j < ops.size ∧ Listed l j ∧ (hs j).size ≤ b ∧ b < (hs (j + 1)).size
  d0 : ∀ b, b < (hs 0).size → β b = β0 b
  sz : a.tmps.size = N
  fs : ∀ t, SlotI ops frs hs vs l β a t
  df : a.defers = df
  la : LoopAt ro w
  ex : ExtW lo β0 (hs 0) w0 β (hs e) w

theorem put_getD (a : Act) (d : Option Nat) (v : Value) (t : Nat) : (a.put d v).tmps.getD t undef = if d = some t ∧ t < a.tmps.size then v else a.tmps.getD t undef := by
  cases d with
  | none => simp [Act.put]
  | some d =>
    simp only [Act.put, Array.getD_eq_getD_getElem?]
    by_cases h : d = t
    · subst h
      by_cases h2 : d < a.tmps.size
      · simp [h2]
      · rw [Array.setIfInBounds_eq_of_size_le (by omega)]
        simp [h2]
    · rw [Array.getElem?_setIfInBounds_ne h]
      simp [h]

theorem stage_next (p : Nat → Prop) (n : Nat) : ∀ k s, n - s = k → s ≤ n → (∀ j, j < s → ¬ p j) → ∃ e, s ≤ e ∧ e ≤ n ∧ (∀ j, j < e → ¬ p j) ∧ (e < n → p e) := by
  intro k
  induction k with
  | zero => intro s h1 h2 h3; exact ⟨s, Nat.le_refl _, h2, h3, fun h => by omega⟩
  | succ k ih =>
    intro s h1 h2 h3
    by_cases hp : p s
    · exact ⟨s, Nat.le_refl _, h2, h3, fun _ => hp⟩
    · obtain ⟨e, e1, e2, e3, e4⟩ := ih (s + 1) (by omega) (by omega) (fun j hj => by
        by_cases hjs : j = s
        · subst hjs; exact hp
        · exact h3 j (by omega))
      exact ⟨e, by omega, e2, e3, e4⟩

variable {l : Array Bool} {e : Nat} {β : Bij} {a : Act} {w : World}

theorem RInv.later (C : DC P lo n0 N ops frs hs vs) (I : RInv P lo n0 N ops frs hs vs β0 w0 df ro l e β a w) {j : Nat} (hj : j < ops.size) (hw : Wr hs j) (hl : Listed l j) : j < e := by
  by_cases h : j < e
  · exact h
  · exfalso
    have hE := C.parts.2.1
    obtain ⟨hwe, hle⟩ := I.st2 (by omega)
    have hne : e ≠ j := by rintro rfl; exact hle hl
    rcases C.bound hj hw (show e < ops.size by omega) hne (C.wr_mem (by omega) hwe).1 with h1 | h1 | ⟨_, agg, a', h2, _⟩
    · exact hle (I.cl j hl e h1)
    · have := ordB_lt hE e h1; omega
    · have := (C.wr_mem (show e < ops.size by omega) hwe).2
      rw [h2] at this; cases this

theorem RInv.read (C : DC P lo n0 N ops frs hs vs) (I : RInv P lo n0 N ops frs hs vs β0 w0 df ro l e β a w) {i : Nat} {o : Oper} (ho : ops[i]? = some o) (hn : ¬ Listed l i)
    (hc : ∀ k, ordB (Region.before ops) k i = true → Listed l k) {t : Nat} (ht : t ∈ readsOf ops o) : VRel (cutB β (hs i).size) (frs i t) (a.tmps.getD t undef) := by
  have hi : i < ops.size := (Array.getElem?_eq_some_iff.1 ho).1
  have hS := C.parts.1
  have hlt : ∀ j, j < ops.size → Listed l j → dstOf ops j = some t → j < i := by
    intro j hj hl hd
    by_cases h : j < i
    · exact h
    · exfalso
      have hne : j ≠ i := by rintro rfl; exact hn hl
      have hoj : ops[j]? = some ops[j] := Array.getElem?_eq_getElem hj
      rcases slots_pair hS (show i < j by omega) ho hoj with h1 | ⟨_, h2⟩
      · exact hn (I.cl j hl i h1)
      · refine h2 t ?_ ht
        simpa [dstOf, hoj] using hd
  have hall : ∀ j, j < i → dstOf ops j = some t → Listed l j := by
    intro j hj hd
    have hoj : ops[j]? = some ops[j] := Array.getElem?_eq_getElem (by omega)
    rcases slots_pair hS hj hoj ho with h1 | ⟨h2, _⟩
    · exact hc j h1
    · exact absurd ht (h2 t (by simpa [dstOf, hoj] using hd)).1
  rcases I.fs t with ⟨h1, h2⟩ | ⟨j, h1, h2, h3, h4, h5⟩
  · rw [fr_same C (t := t) (Nat.zero_le i) (by omega) (fun k _ hk hd => h2 k (by omega) (hall k hk hd) hd)]
    exact h1.mono (cutB_le_cutB β (mono_sizes C.mono (Nat.zero_le i) (by omega)))
  · have hji := hlt j h1 h2 h3
    rw [fr_last C hji (by omega) h3 (fun k hk1 hk2 hd => by have := h4 k (by omega) (hall k hk2 hd) hd; omega)]
    exact h5.mono (cutB_le_cutB β (mono_sizes C.mono (show j + 1 ≤ i by omega) (by omega)))

theorem RInv.step (C : DC P lo n0 N ops frs hs vs) (I : RInv P lo n0 N ops frs hs vs β0 w0 df ro l e β a w) {i : Nat} {o : Oper} (ho : ops[i]? = some o) (hn : ¬ Listed l i)
    (hc : ∀ k, ordB (Region.before ops) k i = true → Listed l k) {γ : Bij} {e' : Nat} {w1 : World} {v' : Value} (hγ : ∀ b, ¬ ((hs i).size ≤ b ∧ b < (hs (i + 1)).size) → γ b = β b)
    (M' : MInv P lo n0 hs ops.size e' γ w1) (ex : ExtW lo β (hs e) w γ (hs e') w1) (hv : VRel (cutB γ (hs (i + 1)).size) (vs i) v')
    (s1 : ∀ j, j < e' → Wr hs j → Listed (l.setIfInBounds i true) j) (s2 : e' < ops.size → Wr hs e' ∧ ¬ Listed (l.setIfInBounds i true) e') :
    RInv P lo n0 N ops frs hs vs β0 w0 df ro (l.setIfInBounds i true) e' γ (a.put o.dst v') w1 := by
  have hi : i < ops.size := (Array.getElem?_eq_some_iff.1 ho).1
  have hil : i < l.size := by rw [I.lsz]; exact hi
  have hS := C.parts.1
  obtain ⟨op, g, hlo, _, _, _⟩ := C.parts.2.2 i o ho
  have hdN := (lowOper_some hlo).2.2
  have hdst : dstOf ops i = o.dst := by simp [dstOf, ho]
  refine ⟨M', by simp [I.lsz], fun j hj k hk => ?_, s1, s2, fun b x hb => ?_, fun b hb => ?_, ?_, fun t => ?_, ?_, fun r hr => ?_, I.ex.trans ex⟩
  · rw [listed_set hil] at hj ⊢
    rcases hj with rfl | hj
    · exact .inr (hc k hk)
    · exact .inr (I.cl j hj k hk)
  · by_cases hn : (hs i).size ≤ b ∧ b < (hs (i + 1)).size
    · exact .inr ⟨i, hi, (listed_set hil).2 (.inl rfl), hn.1, hn.2⟩
    · rw [hγ b hn] at hb
      rcases I.dl b x hb with h1 | ⟨j, h1, h2, h3, h4⟩
      · exact .inl h1
      · exact .inr ⟨j, h1, (listed_set hil).2 (.inr h2), h3, h4⟩
  · rw [hγ b (by have := mono_sizes C.mono (Nat.zero_le i) (by omega); omega)]
    exact I.d0 b hb
  · rw [← I.sz]; cases o.dst <;> simp [Act.put]
  · by_cases hd : o.dst = some t
    · right
      have htN : t < a.tmps.size := by
        rw [hd] at hdN
        rw [I.sz]; simpa using hdN
      refine ⟨i, hi, (listed_set hil).2 (.inl rfl), by rw [hdst]; exact hd, fun k hk hl hdk => ?_, by rw [put_getD, if_pos ⟨hd, htN⟩]; exact hv⟩
      rcases (listed_set hil).1 hl with rfl | hl
      · exact Nat.le_refl _
      · by_cases hki : k ≤ i
        · exact hki
        · exfalso
          have hok : ops[k]? = some ops[k] := Array.getElem?_eq_getElem hk
          rcases slots_pair hS (show i < k by omega) ho hok with h1 | ⟨h2, _⟩
          · exact hn (I.cl k hl i h1)
          · exact (h2 t hd).2 (by simpa [dstOf, hok] using hdk)
    · have hold : (a.put o.dst v').tmps.getD t undef = a.tmps.getD t undef := by rw [put_getD, if_neg (fun h => hd h.1)]
      rcases I.fs t with ⟨h1, h2⟩ | ⟨j, h1, h2, h3, h4, h5⟩
      · left
        refine ⟨by rw [hold]; exact h1.mono (cutB_mono ex.le _), fun j hj hl hdj => ?_⟩
        rcases (listed_set hil).1 hl with rfl | hl
        · rw [hdst] at hdj; exact hd hdj
        · exact h2 j hj hl hdj
      · right
        refine ⟨j, h1, (listed_set hil).2 (.inr h2), h3, fun k hk hl hdk => ?_, by rw [hold]; exact h5.mono (cutB_mono ex.le _)⟩
        rcases (listed_set hil).1 hl with rfl | hl
        · rw [hdst] at hdk; exact absurd hdk hd
        · exact h4 k hk hl hdk
  · rw [put_defers]; exact I.df
  · obtain ⟨L, hL⟩ := I.la r hr
    exact ex.lps r L hL

theorem grow_of_not_wr {j : Nat} (h : ¬ Wr hs j) : Grow (hs j) (hs (j + 1)) := Classical.byContradiction h

/-- **One operation, taken when it is ready.** -/
theorem RInv.take (C : DC P lo n0 N ops frs hs vs) (I : RInv P lo n0 N ops frs hs vs β0 w0 df ro l e β a w) {i : Nat} {o : Oper} (ho : ops[i]? = some o) (hn : ¬ Listed l i)
    (hc : ∀ k, ordB (Region.before ops) k i = true → Listed l k) {Q : Exit → Act → World → Prop} {K : Act → World → Prop}
    (hK : ∀ e' γ a1 w1, RInv P lo n0 N ops frs hs vs β0 w0 df ro (l.setIfInBounds i true) e' γ a1 w1 → K a1 w1) : wpOpIn (FW ro) 0 P ops Q i K a w := by
  have hi : i < ops.size := (Array.getElem?_eq_some_iff.1 ho).1
  have hil : i < l.size := by rw [I.lsz]; exact hi
  have hE := C.parts.2.1
  have hm := C.mono
  obtain ⟨op, g, hlo, hop, hrd, hx⟩ := C.parts.2.2 i o ho
  obtain ⟨l1, l2, l3⟩ := lowOper_some hlo
  have hT := (C.tr i o ho).st
  rw [hx] at hT
  simp only at hT
  have hwt : Region.wanted o (yielded ops a.tmps) = wantedA g (frs i) := wanted_rel l2 fun s want hg => by
    refine (I.read C ho hn hc ?_).mono (cutB_le β _)
    unfold readsOf
    rw [List.mem_append]
    right
    unfold guardSlot at l2
    rw [hg] at l2
    cases hog : o.guard with
    | none => rw [hog] at l2; cases l2
    | some jw =>
      obtain ⟨j, want'⟩ := jw
      rw [hog] at l2
      simp only [Option.map_eq_some_iff, Option.some.injEq, Prod.mk.injEq] at l2
      obtain ⟨d, hd, rfl, rfl⟩ := l2
      simp [hd]
  have s1same : ∀ j, j < e → Wr hs j → Listed (l.setIfInBounds i true) j := fun j hj hw => (listed_set hil).2 (.inr (I.st1 j hj hw))
  have s2same : ¬ Wr hs i → e < ops.size → Wr hs e ∧ ¬ Listed (l.setIfInBounds i true) e := fun hnw he => by
    obtain ⟨h1, h2⟩ := I.st2 he
    refine ⟨h1, fun h3 => ?_⟩
    rcases (listed_set hil).1 h3 with rfl | h3
    · exact hnw h1
    · exact h2 h3
  have hfree : ∀ b : Nat, (hs i).size ≤ b → b < (hs (i + 1)).size → β b = none := fun b h1 h2 => by
    cases hb : β b with
    | none => rfl
    | some x =>
      exfalso
      rcases I.dl b x hb with h3 | ⟨j, h3, h4, h5, h6⟩
      · have := mono_sizes hm (Nat.zero_le i) (by omega); omega
      · have hne : j ≠ i := by rintro rfl; exact hn h4
        rcases Nat.lt_or_gt_of_ne hne with h7 | h7
        · have := mono_sizes hm (show j + 1 ≤ i by omega) (by omega); omega
        · have := mono_sizes hm (show i + 1 ≤ j by omega) (by omega); omega
  unfold wpOpIn
  simp only [ho]
  rw [hwt]
  rcases hT with ⟨hw, hvu, hh⟩ | ⟨hw, hS, hopc, hkind⟩
  · -- not wanted
    rw [hw]
    simp only [Bool.false_eq_true, if_false]
    refine ⟨fun f _ => FW_fn ro f, ?_⟩
    have hnw : ¬ Wr hs i := fun h => h (by rw [hh]; exact .refl _)
    exact hK e β _ w (I.step C ho hn hc (fun b _ => rfl) I.M .refl (by rw [hvu]; exact .undef _) s1same (s2same hnw))
  · rw [hw]
    simp only [if_true]
    -- the frame of the operands alone
    let a' : Act := { a with tmps := (Array.range N).map fun t => if t ∈ readsOf ops o then a.tmps.getD t undef else undef }
    let fr' : Fr := fun t => if t ∈ readsOf ops o then frs i t else undef
    have hsz' : a'.tmps.size = a.tmps.size := by simp [a', I.sz]
    have hget : ∀ t, a'.tmps.getD t undef = if t ∈ readsOf ops o then a.tmps.getD t undef else undef := by
      intro t
      rw [Array.getD_eq_getD_getElem?]
      simp only [a', Array.getElem?_map, Array.getElem?_range]
      by_cases ht : t < N
      · simp [ht]
      · rw [Array.getD_eq_getD_getElem?, Array.getElem?_eq_none (by rw [I.sz]; omega)]
        simp [ht]
    have hopnd : ∀ x ∈ o.op.operands, a'.eval x = a.eval x := by
      intro x hx
      cases x with
      | tmp t =>
        show a'.tmps.getD t undef = a.tmps.getD t undef
        rw [hget, if_pos]
        unfold readsOf
        rw [List.mem_append]
        left
        rw [List.mem_flatMap]
        exact ⟨.tmp t, by simpa using hx, by simp [opdSlots]⟩
      | _ => rfl
    have hF : ∀ {δ : Bij}, BLe (cutB β (hs i).size) δ → FRel δ fr' a'.tmps := fun hl t => by
      rw [hget]
      by_cases ht : t ∈ readsOf ops o
      · simp only [fr', if_pos ht]
        exact (I.read C ho hn hc ht).mono hl
      · simp only [fr', if_neg ht]
        exact .undef _
    have hagree : ∀ x ∈ op.opds, x.ev fr' = x.ev (frs i) := by
      intro x hx
      cases x with
      | c v => rfl
      | t s =>
        show fr' s = frs i s
        have := hrd _ hx s (by simp [opdSlot])
        simp only [fr', if_pos this]
    refine wpIn_congr l1 hsz' hopnd ?_
    have run : ∀ {gh gh' : AH}, StepSim P lo n0 op (frs i) gh (vs i) gh' → HRel P lo n0 (cutB β (hs i).size) gh w →
        (∀ β1 w1 v', VRel β1 (vs i) v' → HRel P lo n0 β1 gh' w1 → Ext lo (cutB β (hs i).size) gh w β1 gh' w1 → K (a.put o.dst v') w1) →
        o.wpIn (FW ro) 0 P a' w (fun a1 w1 => ∃ v, a1 = a'.put o.dst v ∧ K (a.put o.dst v) w1) (fun _ _ _ => False) := by
      intro gh gh' hs1 hR hn1
      exact hs1 o l1 ro _ w a' fr' hR hagree (hF (.refl _)) I.la _ _ fun β1 w1 v' h1 h2 h3 => ⟨v', rfl, hn1 β1 w1 v' h1 h2 h3⟩
    by_cases hwr : Wr hs i
    · -- a writer: it is the stage's own
      have hie : i = e := by
        by_cases h1 : i = e
        · exact h1
        · exfalso
          have h2 : e ≤ i := by
            by_cases h3 : e ≤ i
            · exact h3
            · exact absurd (I.st1 i (by omega) hwr) hn
          obtain ⟨h3, h4⟩ := I.st2 (by omega)
          rcases C.bound hi hwr (show e < ops.size by omega) (fun h => h1 h.symm) (C.wr_mem (by omega) h3).1 with h5 | h5 | ⟨_, agg, a', h6, _⟩
          · exact h4 (hc e h5)
          · have := ordB_lt hE e h5; omega
          · have := (C.wr_mem (show e < ops.size by omega) h3).2
            rw [h6] at this; cases this
      subst hie
      have hR := I.M.start hm (Nat.le_refl i) (g := hs i) rfl (fun b _ => .inr ⟨rfl, fun k h1 h2 => by omega⟩)
      refine run hS hR fun β1 w1 v' hv R1 E1 => ?_
      obtain ⟨e', e1, e2, e3, e4⟩ := stage_next (fun j => Wr hs j ∧ ¬ Listed (l.setIfInBounds i true) j) ops.size _ (i + 1) rfl (by omega) (fun j hj hp => by
        by_cases hji : j = i
        · exact hp.2 ((listed_set hil).2 (.inl hji))
        · exact hp.2 ((listed_set hil).2 (.inr (I.st1 j (by omega) hp.1))))
      obtain ⟨M1, X1, Y1, Z1⟩ := I.M.write hm hi R1 E1 e1 e2 (fun k b h1 h2 h3 => by
        have hnw : ¬ Wr hs k := fun hwk => by
          have hl := Classical.byContradiction fun h => e3 k h2 ⟨hwk, h⟩
          rcases (listed_set hil).1 hl with h4 | h4
          · omega
          · have := I.later C (show k < ops.size by omega) hwk h4; omega
        exact (grow_of_not_wr hnw).2 b (Nat.lt_of_lt_of_le h3 (mono_sizes hm h1 (by omega))))
      refine hK e' β1 _ w1 (I.step C ho hn hc (fun b hb => ?_) M1 X1 (hv.mono Z1) (fun j hj hwj => Classical.byContradiction fun h => e3 j hj ⟨hwj, h⟩) e4)
      by_cases hb1 : b < (hs i).size
      · exact Y1 b hb1
      · have hb2 : ¬ b < (hs (i + 1)).size := fun h => hb ⟨by omega, h⟩
        have x1 : β1 b = none := by
          cases hx : β1 b with
          | none => rfl
          | some x => obtain ⟨r, d⟩ := x; exact absurd (R1.dom b r d hx).1 hb2
        have x2 : β b = none := by
          cases hx : β b with
          | none => rfl
          | some x => obtain ⟨r, d⟩ := x; exact absurd (I.M.dom b r d hx).1 hb1
        rw [x1, x2]
    · have hgr := grow_of_not_wr hwr
      have done : ∀ {γ : Bij} {β1 : Bij} {w1 : World} {v' : Value}, (∀ b, ¬ ((hs i).size ≤ b ∧ b < (hs (i + 1)).size) → γ b = β b) → MInv P lo n0 hs ops.size e γ w1 → ExtW lo β (hs e) w γ (hs e) w1 → BLe β1 (cutB γ (hs (i + 1)).size) →
          VRel β1 (vs i) v' → K (a.put o.dst v') w1 := fun h1 h2 h3 h4 h5 => hK e _ _ _ (I.step C ho hn hc h1 h2 h3 (h5.mono h4) s1same (s2same hwr))
      by_cases hmem : op.mem = true
      · have hie : i ≤ e := by
          by_cases h1 : i ≤ e
          · exact h1
          · exfalso
            obtain ⟨h3, h4⟩ := I.st2 (by omega)
            rcases C.bound (show e < ops.size by omega) h3 hi (by omega) (by rw [hop]; exact hmem) with h5 | h5 | ⟨h6, _⟩
            · have := ordB_lt hE e h5; omega
            · exact h4 (hc e h5)
            · omega
        have wrs : ∀ k, i ≤ k → k < e → Wr hs k → ∃ agg a', op = .load agg a' ∧ i < k ∧ a' ∈ lateList (Region.before ops) (lowsOf P N ops) ops k ∧ lateCand (lowsOf P N ops) ops k i = some a' := by
          intro k h1 h2 h3
          have hken := I.M.en
          have hki : i ≠ k := by rintro rfl; exact hwr h3
          have hlk := I.st1 k h2 h3
          rcases C.bound (show k < ops.size by omega) h3 hi hki (by rw [hop]; exact hmem) with h5 | h5 | ⟨h6, agg, a', h7, h8, h9⟩
          · exact absurd (I.cl k hlk i h5) hn
          · have := ordB_lt hE i h5; omega
          · rw [hop] at h7
            exact ⟨agg, a', h7, h6, h8, h9⟩
        by_cases hload : ∃ agg a', op = .load agg a'
        · -- a load
          obtain ⟨agg, ad, rfl⟩ := hload
          have hv : aop lo (.load agg ad) (frs i) (hs i) = some (vs i, hs (i + 1)) := by
            rcases hopc with ⟨f, args, he⟩ | he
            · cases he
            · exact he
          obtain ⟨b0, o0, ha, hh, hb0, hld⟩ := aop_load hv
          have hconst : ∀ k, i ≤ k → k < e → (hs (k + 1))[b0]? = (hs k)[b0]? := by
            intro k h1 h2
            have hken := I.M.en
            by_cases hwk : Wr hs k
            · obtain ⟨agg', a', h3, h4, h5, h6⟩ := wrs k h1 h2 hwk
              cases h3
              exact C.late h4 (by omega) hwk hop h5 h6 ha
            · exact (grow_of_not_wr hwk).2 b0 (Nat.lt_of_lt_of_le hb0 (mono_sizes hm h1 (by omega)))
          let gh : AH := (junkH (hs i).size).setIfInBounds b0 ((hs i)[b0]'hb0)
          have hgsz : gh.size = (hs i).size := by simp [gh, junkH]
          have hgb0 : gh[b0]? = (hs i)[b0]? := by
            simp only [gh]
            rw [Array.getElem?_setIfInBounds_self_of_lt (by simp [junkH]; exact hb0), Array.getElem?_eq_getElem hb0]
          have hgne : ∀ b, b < (hs i).size → b ≠ b0 → gh[b]? = some .junk := fun b h1 h2 => by
            simp only [gh]
            rw [Array.getElem?_setIfInBounds_ne (Ne.symm h2)]
            exact junkH_get h1
          have hR : HRel P lo n0 (cutB β (hs i).size) gh w := I.M.start hm hie hgsz (fun b hb => by
            by_cases hbb : b = b0
            · subst hbb; exact .inr ⟨hgb0, hconst⟩
            · exact .inl (hgne b hb hbb))
          have hst := StepSim.of_op (P := P) (n0 := n0) (hld gh hgb0)
          refine run hst hR fun β1 w1 v' hv' R1 E1 => ?_
          have hs1 : (hs (i + 1)).size = (hs i).size := by rw [hh]
          obtain ⟨γ, g1, g2, g3, g4⟩ := I.M.grow hm hi hgsz (by rw [hgsz, hs1]) (fun b hb => by
            by_cases hbb : b = b0
            · subst hbb
              exact .inr ⟨by rw [hgb0, same_run hie hconst], rfl⟩
            · exact .inl (hgne b hb hbb)) (fun b h1 h2 => by omega) hfree R1 E1
          exact done g1 g2 g3 g4 hv'
        · have hconst : ∀ (k b : Nat), i ≤ k → k < e → b < (hs k).size → (hs (k + 1))[b]? = (hs k)[b]? := by
            intro k b h1 h2 h3
            by_cases hwk : Wr hs k
            · obtain ⟨agg', a', h4, _⟩ := wrs k h1 h2 hwk
              exact absurd ⟨agg', a', h4⟩ hload
            · exact (grow_of_not_wr hwk).2 b h3
          have hen := I.M.en
          have hR : HRel P lo n0 (cutB β (hs i).size) (hs i) w := I.M.start hm hie rfl (fun b hb => .inr ⟨rfl, fun k h1 h2 => hconst k b h1 h2 (Nat.lt_of_lt_of_le hb (mono_sizes hm h1 (by omega)))⟩)
          refine run hS hR fun β1 w1 v' hv' R1 E1 => ?_
          have hlast : ∀ b, (hs i).size ≤ b → b < (hs (i + 1)).size → i + 1 ≤ e := fun b h1 h2 => by
            by_cases h3 : i = e
            · exfalso
              subst h3
              exact hwr (I.st2 hi).1
            · omega
          obtain ⟨γ, g1, g2, g3, g4⟩ := I.M.grow hm hi (g := hs i) (g' := hs (i + 1)) rfl rfl
            (fun b hb => .inr ⟨(same_run hie fun k h1 h2 => hconst k b h1 h2 (Nat.lt_of_lt_of_le hb (mono_sizes hm h1 (by omega)))).symm, hgr.2 b hb⟩)
            (fun b h1 h2 => ⟨hlast b h1 h2, rfl, fun k h3 h4 => hconst k b (by omega) h4 (Nat.lt_of_lt_of_le h2 (mono_sizes hm h3 (by omega)))⟩) hfree R1 E1
          exact done g1 g2 g3 g4 hv'
      · -- not on memory
        have hmem : op.mem = false := by simpa using hmem
        have hv : aop lo op (frs i) (hs i) = some (vs i, hs (i + 1)) := by
          rcases hopc with ⟨f, args, he⟩ | he
          · rw [he] at hmem; cases hmem
          · exact he
        have hh : hs (i + 1) = hs i := by
          have := aop_blind hmem hv (hs i)
          rw [hv] at this
          simp only [Option.some.injEq, Prod.mk.injEq] at this
          exact this.2
        have hst := StepSim.of_op (P := P) (n0 := n0) (aop_blind hmem hv (junkH (hs i).size))
        refine run hst (I.M.blind hm (by omega)) fun β1 w1 v' hv' R1 E1 => ?_
        have hs1 : (hs (i + 1)).size = (hs i).size := by rw [hh]
        have hjs : (junkH (hs i).size).size = (hs i).size := by simp [junkH]
        obtain ⟨γ, g1, g2, g3, g4⟩ := I.M.grow hm hi hjs (by rw [hjs, hs1]) (fun b hb => .inl (junkH_get hb)) (fun b h1 h2 => by omega) hfree R1 E1
        exact done g1 g2 g3 g4 hv'
end
end Go.RS
