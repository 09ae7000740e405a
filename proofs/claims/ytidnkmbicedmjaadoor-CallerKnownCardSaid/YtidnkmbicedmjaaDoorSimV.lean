/- Regions that draw their order (4): one operation and what holds of memory. -/
import Derived.Test.YtidnkmbicedmjaaDoorSimU
namespace Go.RS
open Go

section
variable {P : Program} {lo n0 : Nat}

/-- An operation that turns no block that lay (it may make new ones). -/
theorem MInv.grow {hs : Nat → AH} {n e i : Nat} {β : Bij} {w : World} (M : MInv P lo n0 hs n e β w) (hm : ∀ j, j < n → (hs j).size ≤ (hs (j + 1)).size) (hin : i < n)
    {g g' : AH} {β1 : Bij} {w1 : World} (hg : g.size = (hs i).size) (hg' : g'.size = (hs (i + 1)).size)
    (hgb : ∀ b : Nat, b < (hs i).size → g[b]? = some .junk ∨ (g[b]? = (hs e)[b]? ∧ g'[b]? = g[b]?))
    (hnb : ∀ b : Nat, (hs i).size ≤ b → b < (hs (i + 1)).size → i + 1 ≤ e ∧ g'[b]? = (hs (i + 1))[b]? ∧ ∀ k, i + 1 ≤ k → k < e → (hs (k + 1))[b]? = (hs k)[b]?)
    (hfree : ∀ b : Nat, (hs i).size ≤ b → b < (hs (i + 1)).size → β b = none)
    (R1 : HRel P lo n0 β1 g' w1) (E : Ext lo (cutB β (hs i).size) g w β1 g' w1) :
    ∃ γ : Bij, (∀ b, ¬ ((hs i).size ≤ b ∧ b < (hs (i + 1)).size) → γ b = β b) ∧ MInv P lo n0 hs n e γ w1 ∧ ExtW lo β (hs e) w γ (hs e) w1 ∧ BLe β1 (cutB γ (hs (i + 1)).size) := by
  have hs0 : (hs 0).size ≤ (hs i).size := mono_sizes hm (Nat.zero_le _) (by omega)
  have hsi : (hs i).size ≤ (hs (i + 1)).size := hm i hin
  have hse : i + 1 ≤ e → (hs (i + 1)).size ≤ (hs e).size := fun h => mono_sizes hm h M.en
  refine ⟨fun b => if (hs i).size ≤ b ∧ b < (hs (i + 1)).size then β1 b else β b, fun b hb => if_neg hb, ?_⟩
  generalize hγ : (fun b => if (hs i).size ≤ b ∧ b < (hs (i + 1)).size then β1 b else β b : Bij) = γ
  have γnew : ∀ b, (hs i).size ≤ b → b < (hs (i + 1)).size → γ b = β1 b := fun b h1 h2 => by rw [← hγ]; exact if_pos ⟨h1, h2⟩
  have γold : ∀ b, ¬ ((hs i).size ≤ b ∧ b < (hs (i + 1)).size) → γ b = β b := fun b h1 => by rw [← hγ]; exact if_neg h1
  have β1old : ∀ b, b < (hs i).size → β1 b = β b := fun b hb => by
    rw [E.agree b (by omega)]; unfold cutB; rw [if_pos hb]
  have leβ : BLe β γ := fun b x hb => by
    by_cases hn : (hs i).size ≤ b ∧ b < (hs (i + 1)).size
    · rw [hfree b hn.1 hn.2] at hb; cases hb
    · rw [γold b hn]; exact hb
  have leβ1 : BLe β1 (cutB γ (hs (i + 1)).size) := fun b x hb => by
    obtain ⟨r, d⟩ := x
    have hlt := (R1.dom b r d hb).1
    unfold cutB
    rw [if_pos (by omega)]
    by_cases hn : (hs i).size ≤ b
    · rw [γnew b hn (by omega)]; exact hb
    · rw [γold b (by omega), ← β1old b (by omega)]; exact hb
  have hnj : ∀ b, b < (hs i).size → g[b]? ≠ some .junk → g[b]? = (hs e)[b]? ∧ g'[b]? = g[b]? := fun b h1 h2 => (hgb b h1).resolve_left h2
  have nnew : ∀ b, (hs i).size ≤ b → b < (hs (i + 1)).size → g'[b]? = (hs e)[b]? := fun b h1 h2 => by
    obtain ⟨h3, h4, h5⟩ := hnb b h1 h2
    rw [h4, same_run h3 h5]
  have keepM : ∀ b r d, β b = some (r, d) → (hs e)[b]? ≠ some .junk → ¬ (b < (hs i).size ∧ g[b]? ≠ some .junk) → w1.heap[r]? = w.heap[r]? := fun b r d hb hj hnot => by
    refine E.keep r (M.dom b r d hb).2 fun b' d' hlo hb' => ?_
    obtain ⟨h1, h2⟩ := cutB_some hb'
    by_cases hg : g[b']? = some .junk
    · exact hg
    · exfalso
      have h3 := (hnj b' h1 hg).1
      by_cases hlb : lo ≤ b
      · have := M.inj b b' r d d' hlb hlo hb h2 hj (by rw [← h3]; exact hg)
        subst this
        exact hnot ⟨h1, hg⟩
      · have := M.low b r d (by omega) hb
        have := M.img b' r d' hlo h2
        omega
  refine ⟨⟨M.en, fun b r d hb => ?_, fun b r d o hb ho m hme hbm hst => ?_, fun b r d hl hb => ?_, fun b r d hl hb => ?_, fun b b' r d d' hl hl' hb hb' hj hj' => ?_, fun x hx => ?_, M.gl, M.los, Nat.le_trans M.n0s E.ws⟩,
    ⟨leβ, Nat.le_refl _, E.ws, fun _ _ _ h => h, fun r hr hk => ?_, fun b r d hb hx => ?_, E.lps, E.env⟩, leβ1⟩
  · by_cases hn : (hs i).size ≤ b ∧ b < (hs (i + 1)).size
    · rw [γnew b hn.1 hn.2] at hb
      exact ⟨Nat.lt_of_lt_of_le hn.2 (hse (hnb b hn.1 hn.2).1), (R1.dom b r d hb).2⟩
    · rw [γold b hn] at hb
      have := M.dom b r d hb
      exact ⟨this.1, Nat.lt_of_lt_of_le this.2 E.ws⟩
  · by_cases hn : (hs i).size ≤ b ∧ b < (hs (i + 1)).size
    · rw [γnew b hn.1 hn.2] at hb
      have him : i + 1 ≤ m := by
        by_cases hmi : m ≤ i
        · have := mono_sizes hm hmi (by omega); omega
        · omega
      have := R1.obj b r d o hb (by rw [nnew b hn.1 hn.2]; exact ho)
      exact this.mono (leβ1.trans (cutB_le_cutB γ (mono_sizes hm him (by have := M.en; omega))))
    · rw [γold b hn] at hb
      have hM := M.obj b r d o hb ho m hme hbm hst
      by_cases hc : b < (hs i).size ∧ g[b]? ≠ some .junk
      · obtain ⟨h1, h2⟩ := hnj b hc.1 hc.2
        have := R1.obj b r d o (by rw [β1old b hc.1]; exact hb) (by rw [h2, h1]; exact ho)
        exact (hM.back ((cutB_le β _).trans leβ) (this.mono (leβ1.trans (cutB_le γ _)))).mono (cutB_mono leβ _)
      · by_cases hoj : o = .junk
        · subst hoj; trivial
        · rw [keepM b r d hb (by rw [ho]; intro h; cases h; exact hoj rfl) hc]
          exact hM.mono (cutB_mono leβ _)
  · by_cases hn : (hs i).size ≤ b ∧ b < (hs (i + 1)).size
    · rw [γnew b hn.1 hn.2] at hb; exact R1.img b r d hl hb
    · rw [γold b hn] at hb; exact M.img b r d hl hb
  · by_cases hn : (hs i).size ≤ b ∧ b < (hs (i + 1)).size
    · rw [γnew b hn.1 hn.2] at hb; exact R1.low b r d hl hb
    · rw [γold b hn] at hb; exact M.low b r d hl hb
  · have mixed : ∀ b b' d d', lo ≤ b → lo ≤ b' → γ b = some (r, d) → γ b' = some (r, d') → (hs e)[b]? ≠ some .junk → (hs e)[b']? ≠ some .junk → ¬ ((hs i).size ≤ b ∧ b < (hs (i + 1)).size) → ((hs i).size ≤ b' ∧ b' < (hs (i + 1)).size) → b = b' := by
      intro b b' d d' hl hl' hb hb' hj hj' hn hn'
      rw [γold b hn] at hb
      rw [γnew b' hn'.1 hn'.2] at hb'
      rcases E.fresh b' r d' (by omega) hb' with h1 | ⟨b0, d0, hl0, h3, h4⟩
      · have := (M.dom b r d hb).2; omega
      · obtain ⟨h5, h6⟩ := cutB_some h3
        obtain ⟨h7, h8⟩ := hnj b0 h5 h4
        have h9 := M.inj b b0 r d d0 hl hl0 hb h6 hj (by rw [← h7]; exact h4)
        subst h9
        exact R1.inj b b' r d d' hl hl' (by rw [β1old b h5]; exact hb) hb' (by rw [h8]; exact h4) (by rw [nnew b' hn'.1 hn'.2]; exact hj')
    by_cases hn : (hs i).size ≤ b ∧ b < (hs (i + 1)).size <;> by_cases hn' : (hs i).size ≤ b' ∧ b' < (hs (i + 1)).size
    · rw [γnew b hn.1 hn.2] at hb
      rw [γnew b' hn'.1 hn'.2] at hb'
      exact R1.inj b b' r d d' hl hl' hb hb' (by rw [nnew b hn.1 hn.2]; exact hj) (by rw [nnew b' hn'.1 hn'.2]; exact hj')
    · exact (mixed b' b d' d hl' hl hb' hb hj' hj hn' hn).symm
    · exact mixed b b' d d' hl hl' hb hb' hj hj' hn hn'
    · rw [γold b hn] at hb
      rw [γold b' hn'] at hb'
      exact M.inj b b' r d d' hl hl' hb hb' hj hj'
  · obtain ⟨z, hz⟩ := M.glob x hx
    exact ⟨z, leβ _ _ hz⟩
  · refine E.keep r hr fun b d hlo hb => ?_
    obtain ⟨h1, h2⟩ := cutB_some hb
    by_cases hg : g[b]? = some .junk
    · exact hg
    · rw [(hnj b h1 hg).1]; exact hk b d hlo h2
  · by_cases hn : (hs i).size ≤ b ∧ b < (hs (i + 1)).size
    · rw [γnew b hn.1 hn.2] at hx
      rcases E.fresh b r d (by omega) hx with h1 | ⟨b0, d0, hl0, h3, h4⟩
      · exact .inl h1
      · obtain ⟨h5, h6⟩ := cutB_some h3
        exact .inr ⟨b0, d0, hl0, h6, by rw [← (hnj b0 h5 h4).1]; exact h4⟩
    · rw [γold b hn, hb] at hx; cases hx

/-- An operation that turns memory: all writers before it have run. -/
theorem MInv.write {hs : Nat → AH} {n e e' : Nat} {β : Bij} {w : World} (M : MInv P lo n0 hs n e β w) (hm : ∀ j, j < n → (hs j).size ≤ (hs (j + 1)).size) (hen : e < n)
    {β1 : Bij} {w1 : World} (R1 : HRel P lo n0 β1 (hs (e + 1)) w1) (E : Ext lo (cutB β (hs e).size) (hs e) w β1 (hs (e + 1)) w1) (he : e + 1 ≤ e') (he' : e' ≤ n)
    (hst : ∀ (k b : Nat), e + 1 ≤ k → k < e' → b < (hs (e + 1)).size → (hs (k + 1))[b]? = (hs k)[b]?) :
    MInv P lo n0 hs n e' β1 w1 ∧ ExtW lo β (hs e) w β1 (hs e') w1 ∧ (∀ b, b < (hs e).size → β1 b = β b) ∧ BLe β1 (cutB β1 (hs (e + 1)).size) := by
  have hse : (hs (e + 1)).size ≤ (hs e').size := mono_sizes hm he he'
  have hcut : ∀ b, cutB β (hs e).size b = β b := fun b => by
    unfold cutB
    split
    · rfl
    · rename_i hb
      cases hx : β b with
      | none => rfl
      | some x => obtain ⟨r, d⟩ := x; exact absurd (M.dom b r d hx).1 hb
  have β1old : ∀ b, b < (hs e).size → β1 b = β b := fun b hb => by rw [E.agree b hb, hcut]
  have leβ : BLe β β1 := fun b x hb => by
    obtain ⟨r, d⟩ := x
    rw [β1old b (M.dom b r d hb).1]; exact hb
  have same : ∀ b, b < (hs (e + 1)).size → (hs e')[b]? = (hs (e + 1))[b]? := fun b hb => same_run he fun k h1 h2 => hst k b h1 h2 hb
  have leβ1 : BLe β1 (cutB β1 (hs (e + 1)).size) := fun b x hb => by
    obtain ⟨r, d⟩ := x
    unfold cutB; rw [if_pos (R1.dom b r d hb).1]; exact hb
  refine ⟨⟨he', fun b r d hb => ?_, fun b r d o hb ho m hme hbm hsm => ?_, fun b r d hl hb => R1.img b r d hl hb, fun b r d hl hb => R1.low b r d hl hb, fun b b' r d d' hl hl' hb hb' hj hj' => ?_, fun x hx => R1.glob x hx, M.gl, M.los, R1.n0s⟩,
    ⟨leβ, Nat.le_trans E.hs hse, E.ws, fun b x hb hj => ?_, fun r hr hk => ?_, fun b r d hb hx => ?_, E.lps, E.env⟩, β1old, leβ1⟩
  · have := R1.dom b r d hb
    exact ⟨by omega, this.2⟩
  · have hlt := (R1.dom b r d hb).1
    rw [same b hlt] at ho
    have h1 := R1.obj b r d o hb ho
    by_cases hmi : e + 1 ≤ m
    · exact h1.mono (leβ1.trans (cutB_le_cutB β1 (mono_sizes hm hmi (by omega))))
    · have hbe : b < (hs e).size := Nat.lt_of_lt_of_le hbm (mono_sizes hm (show m ≤ e by omega) (by omega))
      have h2 := M.obj b r d o (by rw [← β1old b hbe]; exact hb) (by rw [← hsm e (by omega) (by omega)]; exact ho) m (by omega) hbm (fun k k1 k2 => hsm k k1 (by omega))
      exact (h2.back ((cutB_le β _).trans leβ) h1).mono (cutB_mono leβ _)
  · exact R1.inj b b' r d d' hl hl' hb hb' (by rw [← same b (R1.dom b r d hb).1]; exact hj) (by rw [← same b' (R1.dom b' r d' hb').1]; exact hj')
  · obtain ⟨r, d⟩ := x
    have hlt := (M.dom b r d hb).1
    have := E.junk b (r, d) (by rw [hcut]; exact hb) hj
    rw [same b (by have := E.hs; omega)]; exact this
  · refine E.keep r hr fun b d hlo hb => ?_
    rw [hcut] at hb
    exact hk b d hlo hb
  · rcases E.fresh b r d (by
      rcases Nat.lt_or_ge b (hs e).size with hlt | hge
      · rw [β1old b hlt, hb] at hx; cases hx
      · exact hge) hx with h1 | ⟨b0, d0, hl0, h3, h4⟩
    · exact .inl h1
    · rw [hcut] at h3
      exact .inr ⟨b0, d0, hl0, h3, h4⟩

/-- The map alone, with a memory of which nothing is known. -/
def junkH (n : Nat) : AH := Array.replicate n .junk
theorem junkH_get {n b : Nat} (h : b < n) : (junkH n)[b]? = some .junk := by simp [junkH, h]
theorem MInv.blind {hs : Nat → AH} {n e i : Nat} {β : Bij} {w : World} (M : MInv P lo n0 hs n e β w) (hm : ∀ j, j < n → (hs j).size ≤ (hs (j + 1)).size) (hi : i ≤ n) : HRel P lo n0 (cutB β (hs i).size) (junkH (hs i).size) w := by
  have hs0 : (hs 0).size ≤ (hs i).size := mono_sizes hm (Nat.zero_le _) hi
  have hsz : (junkH (hs i).size).size = (hs i).size := by simp [junkH]
  refine ⟨fun b r d hb => ?_, fun b r d o hb ho => ?_, fun b r d hl hb => M.img b r d hl (cutB_some hb).2, fun b r d hl hb => M.low b r d hl (cutB_some hb).2, fun b b' r d d' hl hl' hb hb' hj hj' => ?_, fun x hx => ?_, ?_, M.n0s⟩
  · obtain ⟨h1, h2⟩ := cutB_some hb
    exact ⟨by omega, (M.dom b r d h2).2⟩
  · rw [junkH_get (cutB_some hb).1] at ho; cases ho; trivial
  · exact absurd (junkH_get (cutB_some hb).1) hj
  · obtain ⟨z, hz⟩ := M.glob x hx
    refine ⟨z, ?_⟩
    unfold cutB
    rw [if_pos (by have := M.gl; omega)]; exact hz
  · rw [hsz]; exact Nat.le_trans M.los hs0
end

/-! ### What an operation does to the abstract memory -/
section
variable {lo : Nat} {fr : Fr} {h h1 : AH} {v : Value}
theorem Grow.refl (h : AH) : Grow h h := ⟨Nat.le_refl _, fun _ _ => rfl⟩
theorem Grow.push (h : AH) (o : AObj) : Grow h (h.push o) := ⟨by simp, fun b hb => by rw [Array.getElem?_push, if_neg (by omega)]⟩
theorem aop_still {op : AOp} (hs : op.still = true) (hv : aop lo op fr h = some (v, h1)) : Grow h h1 := by
  cases op <;> simp only [AOp.still] at hs <;> first
    | (cases hs; done)
    | skip
  case load agg a => cases agg <;> simp only [aop] at hv <;> split at hv <;> simp only [Option.map_eq_some_iff, Prod.mk.injEq, reduceCtorEq] at hv <;> (obtain ⟨_, _, _, rfl⟩ := hv; exact .refl _)
  case len s x => cases s <;> simp only [aop] at hv <;> split at hv <;> cases hv <;> exact .refl _
  all_goals simp only [aop] at hv
  all_goals repeat' split at hv
  all_goals first
    | (cases hv; done)
    | (cases hv; first | exact .refl _ | exact .push _ _)
    | (simp only [Option.map_eq_some_iff, Prod.mk.injEq] at hv; obtain ⟨_, _, _, rfl⟩ := hv; first | exact .refl _ | exact .push _ _)
theorem aop_blind {op : AOp} (hs : op.mem = false) (hv : aop lo op fr h = some (v, h1)) (g : AH) : aop lo op fr g = some (v, g) := by
  cases op <;> simp only [AOp.mem, AOp.sens] at hs <;> first
    | (cases hs; done)
    | skip
  case len s x => cases s <;> simp only [aop] at hv ⊢ <;> split at hv <;> cases hv <;> rfl
  all_goals simp only [aop] at hv ⊢
  all_goals repeat' split at hv
  all_goals first
    | (cases hv; done)
    | (cases hv; simp_all; done)
    | (simp only [Option.map_eq_some_iff, Prod.mk.injEq] at hv; obtain ⟨_, e1, e2, rfl⟩ := hv; simp_all; done)
theorem aop_load {agg : Option Nat} {a : Opd} (hv : aop lo (.load agg a) fr h = some (v, h1)) : ∃ b o, a.ev fr = ptr b o ∧ h1 = h ∧ b < h.size ∧ ∀ g : AH, g[b]? = h[b]? → aop lo (.load agg a) fr g = some (v, g) := by
  cases agg <;> simp only [aop] at hv ⊢ <;> split at hv <;> simp only [Option.map_eq_some_iff, Prod.mk.injEq, reduceCtorEq] at hv
  · rename_i b o hp
    obtain ⟨x, h2, rfl, rfl⟩ := hv
    refine ⟨b, o, hp, rfl, ?_, fun g hg => ?_⟩
    · unfold cellAt at h2
      split at h2
      · rename_i c hc; exact (Array.getElem?_eq_some_iff.1 hc).1
      · cases h2
    · have : cellAt g b o = cellAt h b o := by unfold cellAt; rw [hg]
      simp only [this, h2, Option.map_some]
  · rename_i b o hp
    obtain ⟨x, h2, rfl, rfl⟩ := hv
    refine ⟨b, o, hp, rfl, ?_, fun g hg => ?_⟩
    · unfold cellsAt at h2
      split at h2
      · rename_i c hc; exact (Array.getElem?_eq_some_iff.1 hc).1
      · cases h2
    · have : ∀ n, cellsAt g b o n = cellsAt h b o n := fun n => by unfold cellsAt; rw [hg]
      simp only [this, h2, Option.map_some]
end
end Go.RS
