/- Regions that draw their order (2): what holds between two operations. -/
import Derived.Test.YtidnkmbicedmjaaDoorSimR
namespace Go.RS
open Go

/-! ### A value that knows few blocks -/
theorem ARel.back {β γ : Bij} (hl : BLe β γ) {a a1 a2 : Addr} (h : ARel β a a1) (k : ARel γ a a2) : ARel β a a2 := by
  obtain ⟨s, s1, d, h1, h2⟩ := h
  obtain ⟨_, s2, d2, k1, k2⟩ := k
  have := hl _ _ h1
  rw [k1] at this
  simp only [Option.some.injEq, Prod.mk.injEq] at this
  obtain ⟨e1, e2⟩ := this
  subst e2
  exact ⟨s, s2, d2, by rw [h1, e1], k2⟩
theorem VRel.back {β γ : Bij} (hl : BLe β γ) {v v1 : Value} (h : VRel β v v1) : ∀ {v2 : Value}, VRel γ v v2 → VRel β v v2 := by
  induction h with
  | bool b => intro v2 k; cases k; exact .bool b
  | int k n => intro v2 k; cases k; exact .int _ n
  | string s => intro v2 k; cases k; exact .string s
  | ptr0 => intro v2 k; cases k; exact .ptr0
  | ptr h => intro v2 k; cases k with | ptr k => exact .ptr (h.back hl k)
  | sl0 n c => intro v2 k; cases k; exact .sl0 n c
  | @sl a a' n c c' h hc =>
    intro v2 k
    cases k with
    | @sl _ a2 _ _ c2 k kc =>
      refine .sl (h.back hl k) ⟨kc.1, kc.2.imp id fun ⟨s, h1, h2, h3⟩ => ⟨s, h1, h2, fun hs => ?_⟩⟩
      obtain ⟨r, d, h4, h5⟩ := h3 hs
      obtain ⟨_, _, d0, h6, _⟩ := h
      have := hl _ _ h6
      rw [h4] at this
      simp only [Option.some.injEq, Prod.mk.injEq] at this
      obtain ⟨e1, e2⟩ := this
      subst e2
      exact ⟨_, d, h6, h5⟩
  | map0 => intro v2 k; cases k; exact .map0
  | @map r r' h =>
    intro v2 k
    cases k with
    | map k =>
      have := hl _ _ h
      rw [k] at this
      simp only [Option.some.injEq, Prod.mk.injEq] at this
      rw [this.1]; exact .map h
  | nilFunc => intro v2 k; cases k; exact .nilFunc
  | @func f f' x x' c c' hf s1 h1 s2 h2 i1 i2 =>
    intro v2 k
    cases k with
    | @func _ f2 _ x2 _ c2 kf t1 k1 t2 k2 =>
      refine .func ?_ t1 (fun i v v' a b => ?_) t2 (fun i v v' a b => ?_)
      · cases hf with
        | func f => cases kf; exact .func f
        | yield hy =>
          cases kf with
          | yield ky =>
            have := hl _ _ hy
            rw [ky] at this
            simp only [Option.some.injEq, Prod.mk.injEq] at this
            rw [this.1]; exact .yield hy
      · have hi : i < x'.size := s1 ▸ (Array.getElem?_eq_some_iff.1 a).1
        exact i1 i v x'[i] a (Array.getElem?_eq_getElem hi) (k1 i v v' a b)
      · have hi : i < c'.size := s2 ▸ (Array.getElem?_eq_some_iff.1 a).1
        exact i2 i v c'[i] a (Array.getElem?_eq_getElem hi) (k2 i v v' a b)
  | nilIface => intro v2 k; cases k; exact .nilIface
  | @agg x x' s h ih =>
    intro v2 k
    cases k with
    | agg t k =>
      refine .agg t fun i v v' a b => ?_
      have hi : i < x'.size := s ▸ (Array.getElem?_eq_some_iff.1 a).1
      exact ih i v x'[i] a (Array.getElem?_eq_getElem hi) (k i v v' a b)
  | @tuple x x' s h ih =>
    intro v2 k
    cases k with
    | tuple t k =>
      refine .tuple t fun i v v' a b => ?_
      have hi : i < x'.size := s ▸ (Array.getElem?_eq_some_iff.1 a).1
      exact ih i v x'[i] a (Array.getElem?_eq_getElem hi) (k i v v' a b)
theorem ORel.back {P : Program} {β γ : Bij} (hl : BLe β γ) {wr : Prop} {o : AObj} {x1 x2 : Option Obj} {d : Nat × Nat} (h : ORel P β wr o x1 d) (k : ORel P γ wr o x2 d) : ORel P β wr o x2 d := by
  cases o with
  | cells c =>
    obtain ⟨c1, e1, z1, h1, h2, h3, h4⟩ := h
    obtain ⟨c2, e2, z2, k1, k2, k3, k4⟩ := k
    refine ⟨c2, e2, z2, k1, k2, k3, fun i v hv => ?_⟩
    obtain ⟨v1, _, h6⟩ := h4 i v hv
    obtain ⟨v2, k5, k6⟩ := k4 i v hv
    exact ⟨v2, k5, h6.back hl k6⟩
  | map es clock =>
    obtain ⟨hd, es1, h1, h2, h3⟩ := h
    obtain ⟨_, es2, k1, k2, k3⟩ := k
    refine ⟨hd, es2, k1, k2, fun i e e' a b => ?_⟩
    have hi : i < es1.size := by rw [h2]; exact (List.getElem?_eq_some_iff.1 a).1
    obtain ⟨p1, p2, p3⟩ := h3 i e es1[i] a (Array.getElem?_eq_getElem hi)
    obtain ⟨q1, q2, q3⟩ := k3 i e e' a b
    exact ⟨p1.back hl q1, p2.back hl q2, q3⟩
  | loop L =>
    obtain ⟨hd, L1, h1, h2⟩ := h
    obtain ⟨_, L2, k1, k2⟩ := k
    exact ⟨hd, L2, k1, ⟨fun i => (h2.fr i).back hl (k2.fr i), k2.ps, k2.pb, k2.a, k2.b, k2.st, k2.pj⟩⟩
  | junk => trivial

theorem cutB_mono {β γ : Bij} (hl : BLe β γ) (n : Nat) : BLe (cutB β n) (cutB γ n) := fun b x h => by
  obtain ⟨h1, h2⟩ := cutB_some h
  unfold cutB; rw [if_pos h1]; exact hl _ _ h2
theorem cutB_le_cutB (β : Bij) {m n : Nat} (h : m ≤ n) : BLe (cutB β m) (cutB β n) := fun b x hb => by
  obtain ⟨h1, h2⟩ := cutB_some hb
  unfold cutB; rw [if_pos (by omega)]; exact h2

section
variable {P : Program} {lo n0 : Nat}

/-- What holds of memory while a drawn region runs: 'hs e' is the abstract memory behind all writers that have run; of each block is known under which number all that it names lies. -/
structure MInv (P : Program) (lo n0 : Nat) (hs : Nat → AH) (n e : Nat) (β : Bij) (w : World) : Prop where
  en : e ≤ n
  dom : ∀ b r d, β b = some (r, d) → b < (hs e).size ∧ r < w.heap.size
  obj : ∀ b r d o, β b = some (r, d) → (hs e)[b]? = some o → ∀ m, m ≤ e → b < (hs m).size → (∀ k, m ≤ k → k < e → (hs (k + 1))[b]? = (hs k)[b]?) → ORel P (cutB β (hs m).size) (lo ≤ b) o w.heap[r]? d
  img : ∀ b r d, lo ≤ b → β b = some (r, d) → n0 ≤ r
  low : ∀ b r d, b < lo → β b = some (r, d) → r < n0
  inj : ∀ b b' r d d', lo ≤ b → lo ≤ b' → β b = some (r, d) → β b' = some (r, d') → (hs e)[b]? ≠ some .junk → (hs e)[b']? ≠ some .junk → b = b'
  glob : ∀ g, g < P.globals.size → ∃ z, β g = some (g, (0, z))
  gl : P.globals.size ≤ (hs 0).size
  los : lo ≤ (hs 0).size
  n0s : n0 ≤ w.heap.size

theorem mono_sizes {hs : Nat → AH} {n : Nat} (hm : ∀ j, j < n → (hs j).size ≤ (hs (j + 1)).size) {i j : Nat} (hij : i ≤ j) (hj : j ≤ n) : (hs i).size ≤ (hs j).size := by
  induction j with
  | zero => have : i = 0 := by omega
            subst this; exact Nat.le_refl _
  | succ j ih =>
    by_cases h : i = j + 1
    · subst h; exact Nat.le_refl _
    · exact Nat.le_trans (ih (by omega) (by omega)) (hm j (by omega))
theorem same_run {hs : Nat → AH} {b i j : Nat} (hij : i ≤ j) (h : ∀ k, i ≤ k → k < j → (hs (k + 1))[b]? = (hs k)[b]?) : (hs j)[b]? = (hs i)[b]? := by
  induction j with
  | zero => have : i = 0 := by omega
            subst this; rfl
  | succ j ih =>
    by_cases hc : i = j + 1
    · subst hc; rfl
    · rw [h j (by omega) (by omega)]
      exact ih (by omega) (fun k h1 h2 => h k h1 (by omega))

/-- The heap from which one operation runs. -/
theorem MInv.start {hs : Nat → AH} {n e i : Nat} {β : Bij} {w : World} (M : MInv P lo n0 hs n e β w) (hm : ∀ j, j < n → (hs j).size ≤ (hs (j + 1)).size) (hi : i ≤ e) {g : AH} (hg : g.size = (hs i).size)
    (hgb : ∀ b : Nat, b < (hs i).size → g[b]? = some .junk ∨ (g[b]? = (hs i)[b]? ∧ ∀ k, i ≤ k → k < e → (hs (k + 1))[b]? = (hs k)[b]?)) : HRel P lo n0 (cutB β (hs i).size) g w := by
  have hs0 : (hs 0).size ≤ (hs i).size := mono_sizes hm (Nat.zero_le _) (by have := M.en; omega)
  have hnj : ∀ b x, cutB β (hs i).size b = some x → g[b]? ≠ some .junk → (hs e)[b]? = g[b]? := fun b x hb hne => by
    obtain ⟨h1, _⟩ := cutB_some hb
    rcases hgb b h1 with h2 | ⟨h2, h3⟩
    · exact absurd h2 hne
    · rw [h2, same_run hi h3]
  refine ⟨fun b r d hb => ?_, fun b r d o hb ho => ?_, fun b r d hl hb => M.img b r d hl (cutB_some hb).2, fun b r d hl hb => M.low b r d hl (cutB_some hb).2, fun b b' r d d' hl hl' hb hb' hj hj' => ?_, fun x hx => ?_, ?_, M.n0s⟩
  · obtain ⟨h1, h2⟩ := cutB_some hb
    exact ⟨by rw [hg]; exact h1, (M.dom b r d h2).2⟩
  · obtain ⟨h1, h2⟩ := cutB_some hb
    rcases hgb b h1 with h3 | ⟨h3, h4⟩
    · rw [ho] at h3; cases h3; trivial
    · rw [ho] at h3
      exact M.obj b r d o h2 (by rw [same_run hi h4]; exact h3.symm) i hi h1 h4
  · exact M.inj b b' r d d' hl hl' (cutB_some hb).2 (cutB_some hb').2 (by rw [hnj b _ hb hj]; exact hj) (by rw [hnj b' _ hb' hj']; exact hj')
  · obtain ⟨z, hz⟩ := M.glob x hx
    refine ⟨z, ?_⟩
    unfold cutB
    rw [if_pos (by have := M.gl; omega)]; exact hz
  · rw [hg]; exact Nat.le_trans M.los hs0
end
end Go.RS
