/- Each operation of the abstract machine is followed by the real one (7): append. -/
import Derived.Test.YtidnkmbicedmjaaDoorSimH
namespace Go.RS
open Go

section
variable {P : Program} {lo n0 : Nat} {β : Bij} {h h1 : AH} {w : World} {fr : Fr} {a : Act}

theorem elems_rel (R : HRel P lo n0 β h w) {size n : Nat} {x x' : Value} {new : List Value} (he : elemsOf h size x = some (n, new)) (hx : VRel β x x') :
    ∃ new' : List Value, LRel β new new' ∧ new.length = n * size ∧ (∀ w2 : World, (Builtin.lenOf x').run P w2 = .ok n w2) ∧ ∀ w2 : World, w2.heap = w.heap → (Builtin.firstCells size n x').run P w2 = .ok new'.toArray w2 := by
  unfold elemsOf at he
  split at he
  · split at he
    · rename_i h0; subst h0
      cases he
      cases hx
      exact ⟨[], .nil β, by simp, fun w2 => rfl, fun w2 _ => by simp [Builtin.firstCells]⟩
    · cases he
  · rename_i b o m c
    simp only [Option.map_eq_some_iff] at he
    obtain ⟨cs, hcs, he⟩ := he
    cases he
    cases hx with
    | sl ha hc =>
      obtain ⟨hlen, c', hcc, hcell⟩ := cells_rel R hcs ha
      refine ⟨c', hcc, hlen, fun w2 => rfl, fun w2 hw2 => ?_⟩
      refine run_firstCells_some w2 size _ _ _ _ c' (by rw [← hcc.1, hlen]) (fun j v hj => ?_)
      have := hcell j v hj
      unfold World.cell? at this ⊢
      rw [hw2]; exact this
  · cases he

theorem fits_run {need old bytes : Nat} (hf : fits need bytes = true) (ho : old < need) : ¬ Builtin.nextslicecap need old * bytes > 2 ^ 48 ∧ 0 < bytes ∧ need < 2 ^ 47 := by
  simp only [fits, Bool.and_eq_true, decide_eq_true_eq] at hf
  obtain ⟨h1, h2⟩ := hf
  have h3 : (2 * need + 192) * 1 ≤ (2 * need + 192) * bytes := Nat.mul_le_mul_left _ h1
  have h4 := nextslicecap_le ho
  have h5 : Builtin.nextslicecap need old * bytes ≤ (2 * need + 192) * bytes := Nat.mul_le_mul_right _ (by omega)
  exact ⟨by omega, h1, by omega⟩

/-- A block is given up. -/
theorem HRel.kill (R : HRel P lo n0 β h w) (b : Nat) : HRel P lo n0 β (h.setIfInBounds b .junk) w ∧ Ext lo β h w β (h.setIfInBounds b .junk) w := by
  have back : ∀ b2 : Nat, (h.setIfInBounds b .junk)[b2]? ≠ some .junk → h[b2]? ≠ some .junk ∧ b2 ≠ b ∨ h[b2]? = none := by
    intro b2 hne
    by_cases he : b2 = b
    · subst he
      by_cases hlt : b2 < h.size
      · exfalso; apply hne; simp [hlt]
      · exact .inr (by simp; omega)
    · rw [Array.getElem?_setIfInBounds_ne (Ne.symm he)] at hne; exact .inl ⟨hne, he⟩
  refine ⟨⟨?_, ?_, R.img, R.low, ?_, R.glob, by simpa using R.los, R.n0s⟩, ⟨fun _ _ => rfl, by simp, Nat.le_refl _, ?_, fun _ _ _ => rfl, ?_, fun r L hL => ⟨L, hL⟩, rfl, rfl, rfl⟩⟩
  · intro b2 r d hx; simpa using R.dom b2 r d hx
  · intro b2 r d o hx ho
    by_cases he : b2 = b
    · subst he
      have hlt := (R.dom b2 r d hx).1
      simp [hlt] at ho; subst ho; trivial
    · rw [Array.getElem?_setIfInBounds_ne (Ne.symm he)] at ho
      exact R.obj b2 r d o hx ho
  · intro b2 b3 r d d' l2 l3 h2 h3 j2 j3
    refine R.inj b2 b3 r d d' l2 l3 h2 h3 ?_ ?_
    · rcases back b2 j2 with ⟨q, _⟩ | q
      · exact q
      · rw [q]; simp
    · rcases back b3 j3 with ⟨q, _⟩ | q
      · exact q
      · rw [q]; simp
  · intro b2 _ _ hb2
    by_cases he : b2 = b
    · subst he
      have hlt : b2 < h.size := (Array.getElem?_eq_some_iff.1 hb2).1
      simp [hlt]
    · rw [Array.getElem?_setIfInBounds_ne (Ne.symm he)]; exact hb2
  · intro b2 r d hb hx; have := (R.dom b2 r d hx).1; omega

/-- A slice grows where it lies: the old block is given up, a new one stands for the same real one. -/
theorem HRel.grow (R : HRel P lo n0 β h w) {b r : Nat} {d : Nat × Nat} (hl : lo ≤ b) (hb : β b = some (r, d)) (hj : h[b]? ≠ some .junk) (o : AObj) (o' : Obj) (d' : Nat × Nat) (ho : ORel P β True o (some o') d') (hlp : ∀ L : Loop, w.heap[r]? ≠ some (.loop L)) :
    HRel P lo n0 (bset β h.size (r, d')) ((h.setIfInBounds b .junk).push o) { w with heap := w.heap.setIfInBounds r o' } ∧
    Ext lo β h w (bset β h.size (r, d')) ((h.setIfInBounds b .junk).push o) { w with heap := w.heap.setIfInBounds r o' } := by
  obtain ⟨hbs, hrs⟩ := R.dom b r d hb
  have hle := bset_le R (r, d')
  have hold : ∀ b2 r2 d2, b2 ≠ h.size → bset β h.size (r, d') b2 = some (r2, d2) → β b2 = some (r2, d2) := fun b2 r2 d2 hb2 hx => by rwa [bset_other β _ hb2] at hx
  have hget : ∀ b2, b2 ≠ h.size → ((h.setIfInBounds b .junk).push o)[b2]? = if b2 = b then some .junk else h[b2]? := by
    intro b2 hb2
    rw [Array.getElem?_push, if_neg (by simpa using hb2)]
    by_cases he : b2 = b
    · subst he; simp [hbs]
    · rw [Array.getElem?_setIfInBounds_ne (Ne.symm he), if_neg he]
  have hnew : ((h.setIfInBounds b .junk).push o)[h.size]? = some o := by
    rw [Array.getElem?_push, if_pos (by simp)]
  refine ⟨⟨?_, ?_, ?_, ?_, ?_, ?_, ?_, ?_⟩, ⟨?_, ?_, ?_, ?_, ?_, ?_, ?_, rfl, rfl, rfl⟩⟩
  · intro b2 r2 d2 hx
    by_cases he : b2 = h.size
    · subst he; simp at hx; obtain ⟨rfl, rfl⟩ := hx; simp; exact hrs
    · have := R.dom b2 r2 d2 (hold b2 r2 d2 he hx); simp; omega
  · intro b2 r2 d2 o2 hx ho2
    by_cases he : b2 = h.size
    · subst he
      simp at hx; obtain ⟨rfl, rfl⟩ := hx
      rw [hnew] at ho2; cases ho2
      simp only [Array.getElem?_setIfInBounds_self, hrs, if_true]
      have := ho.mono hle
      cases o with
      | cells c => obtain ⟨c', e, fz, a, b, b2, c⟩ := this; exact ⟨c', e, fz, a, fun _ => b trivial, b2, c⟩
      | map es clock => exact this
      | loop L => exact this
      | junk => trivial
    · have hx' := hold b2 r2 d2 he hx
      rw [hget b2 he] at ho2
      split at ho2
      · cases ho2; trivial
      · rename_i hbb
        by_cases hj2 : o2 = .junk
        · subst hj2; trivial
        · have hne : r2 ≠ r := by
            intro hr; subst hr
            by_cases hl2 : lo ≤ b2
            · exact hbb (R.inj b2 b r2 d2 d hl2 hl hx' hb (by rw [ho2]; simpa using hj2) hj)
            · have h1 := R.low b2 r2 d2 (by omega) hx'
              have h2 := R.img b r2 d hl hb
              omega
          simp only [Array.getElem?_setIfInBounds_ne (Ne.symm hne)]
          exact (R.obj b2 r2 d2 o2 hx' ho2).mono hle
  · intro b2 r2 d2 hl2 hx
    by_cases he : b2 = h.size
    · subst he; simp at hx; obtain ⟨rfl, rfl⟩ := hx; exact R.img b r d hl hb
    · exact R.img b2 r2 d2 hl2 (hold b2 r2 d2 he hx)
  · intro b2 r2 d2 hl2 hx
    have he : b2 ≠ h.size := by have := R.los; omega
    exact R.low b2 r2 d2 hl2 (hold b2 r2 d2 he hx)
  · intro b2 b3 r2 d2 d3 l2 l3 x2 x3 j2 j3
    by_cases he : b2 = h.size
    · by_cases he3 : b3 = h.size
      · omega
      · subst he
        simp at x2; obtain ⟨rfl, rfl⟩ := x2
        rw [hget b3 he3] at j3
        split at j3
        · exact absurd rfl j3
        · rename_i hb3
          exact absurd (R.inj b3 b r d3 d l3 hl (hold b3 r d3 he3 x3) hb j3 hj) hb3
    · by_cases he3 : b3 = h.size
      · subst he3
        simp at x3; obtain ⟨rfl, rfl⟩ := x3
        rw [hget b2 he] at j2
        split at j2
        · exact absurd rfl j2
        · rename_i hb2
          exact absurd (R.inj b2 b r d2 d l2 hl (hold b2 r d2 he x2) hb j2 hj) hb2
      · rw [hget b2 he] at j2
        rw [hget b3 he3] at j3
        split at j2
        · exact absurd rfl j2
        · split at j3
          · exact absurd rfl j3
          · exact R.inj b2 b3 r2 d2 d3 l2 l3 (hold b2 r2 d2 he x2) (hold b3 r2 d3 he3 x3) j2 j3
  · intro g hg; obtain ⟨z, hz⟩ := R.glob g hg; exact ⟨z, hle _ _ hz⟩
  · have := R.los; simp; omega
  · have := R.n0s; simpa using this
  · intro b2 hb2; exact bset_other β _ (by omega)
  · simp
  · simp
  · intro b2 _ _ hb2
    have hlt : b2 < h.size := (Array.getElem?_eq_some_iff.1 hb2).1
    rw [hget b2 (by omega)]
    split
    · rfl
    · exact hb2
  · intro r2 hr2 hk
    have hne : r2 ≠ r := fun he => by subst he; exact hj (hk b d hl hb)
    show (w.heap.setIfInBounds r o')[r2]? = _
    rw [Array.getElem?_setIfInBounds_ne (Ne.symm hne)]
  · intro b2 r2 d2 hb2 hx
    by_cases he : b2 = h.size
    · subst he; simp at hx; obtain ⟨rfl, rfl⟩ := hx
      exact .inr ⟨b, d, hl, hb, hj⟩
    · have := (R.dom b2 r2 d2 (hold b2 r2 d2 he hx)).1; omega
  · intro r2 L hL
    refine ⟨L, ?_⟩
    have hne : r2 ≠ r := fun he => by subst he; exact hlp L hL
    show (w.heap.setIfInBounds r o')[r2]? = _
    rw [Array.getElem?_setIfInBounds_ne (Ne.symm hne)]; exact hL

theorem VSim.after {β1 : Bij} {h0 : AH} {w0 : World} (hE : Ext lo β h w β1 h0 w0) {v : Value} {h1 : AH} {r : Result Value} (hs : VSim P lo n0 β1 h0 w0 v h1 r) : VSim P lo n0 β h w v h1 r := by
  obtain ⟨β2, w2, v', hr, hv, hR, hE2⟩ := hs
  exact ⟨β2, w2, v', hr, hv, hR, hE.trans hE2⟩
end
end Go.RS
