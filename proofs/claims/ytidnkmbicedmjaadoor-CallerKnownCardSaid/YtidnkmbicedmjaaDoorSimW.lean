/- Regions that draw their order (5): the text's run, seen from any order. -/
import Derived.Test.YtidnkmbicedmjaaDoorSimV
namespace Go.RS
open Go

theorem still_mem {op : AOp} (h : op.still = false) : op.mem = true := by cases op <;> simp_all [AOp.still, AOp.mem, AOp.sens]

structure DC (P : Program) (lo n0 N : Nat) (ops : Array Oper) (frs : Nat → Fr) (hs : Nat → AH) (vs : Nat → Value) : Prop where
  ok : drawOk P N ops = true
  tr : ∀ (j : Nat) (o : Oper), ops[j]? = some o → TrAt P lo n0 (lowDrawn P N ops j o) (frs j) (frs (j + 1)) (hs j) (hs (j + 1)) (vs j)

section
variable {P : Program} {lo n0 N : Nat} {ops : Array Oper} {frs : Nat → Fr} {hs : Nat → AH} {vs : Nat → Value}

def dstOf (ops : Array Oper) (j : Nat) : Option Nat := (ops[j]?).bind (·.dst)
def Wr (hs : Nat → AH) (j : Nat) : Prop := ¬ Grow (hs j) (hs (j + 1))

theorem DC.parts (C : DC P lo n0 N ops frs hs vs) : slotsOk (Region.before ops) ops = true ∧ edgesOk ops = true ∧
    ∀ (j : Nat) (o : Oper), ops[j]? = some o → ∃ op g, lowOper P N ops o = some (op, g) ∧ (lowsOf P N ops).getD j .bad = op ∧ (∀ x ∈ op.opds, ∀ s ∈ opdSlot x, s ∈ readsOf ops o) ∧
      lowDrawn P N ops j o = { dst := o.dst, op, guard := g, seqd := seqOf (Region.before ops) (lowsOf P N ops) ops j, late := lateList (Region.before ops) (lowsOf P N ops) ops j } := by
  have h := C.ok
  unfold drawOk at h
  simp only [Bool.and_eq_true] at h
  refine ⟨h.1.1, h.1.2, fun j o ho => ?_⟩
  have hm := Array.all_eq_true_iff_forall_mem.1 h.2 o (Array.mem_of_getElem? ho)
  cases hx : lowOper P N ops o with
  | none => rw [hx] at hm; cases hm
  | some x =>
    obtain ⟨op, g⟩ := x
    rw [hx] at hm
    simp only at hm
    refine ⟨op, g, rfl, ?_, fun x hx s hs => ?_, by simp only [lowDrawn, hx]⟩
    · rw [Array.getD_eq_getD_getElem?]
      unfold lowsOf
      rw [Array.getElem?_map, ho]
      simp [hx]
    · have := List.all_eq_true.1 hm x hx
      have := List.all_eq_true.1 this s hs
      simpa using this
theorem DC.mono (C : DC P lo n0 N ops frs hs vs) : ∀ j, j < ops.size → (hs j).size ≤ (hs (j + 1)).size := fun j hj => (C.tr j ops[j] (Array.getElem?_eq_getElem hj)).sz

theorem slots_pair (hs : slotsOk (Region.before ops) ops = true) {i j : Nat} (hij : i < j) {x y : Oper} (hx : ops[i]? = some x) (hy : ops[j]? = some y) :
    ordB (Region.before ops) i j = true ∨ ((∀ d, x.dst = some d → d ∉ readsOf ops y ∧ y.dst ≠ some d) ∧ ∀ d, y.dst = some d → d ∉ readsOf ops x) := by
  have hj : j < ops.size := (Array.getElem?_eq_some_iff.1 hy).1
  have h1 := List.all_eq_true.1 hs j (List.mem_range.2 hj)
  have h2 := List.all_eq_true.1 h1 i (List.mem_range.2 hij)
  rw [hx, hy] at h2
  simp only [Bool.or_eq_true, Bool.and_eq_true] at h2
  refine h2.imp id fun ⟨h3, h4⟩ => ⟨fun d hd => ?_, fun d hd => ?_⟩
  · rw [hd] at h3
    simp only [Bool.and_eq_true, Bool.not_eq_true', bne_iff_ne] at h3
    exact ⟨by simpa using h3.1, h3.2⟩
  · rw [hd] at h4
    simpa using h4

theorem fr_same (C : DC P lo n0 N ops frs hs vs) {t i0 i : Nat} (h0 : i0 ≤ i) (hi : i ≤ ops.size) (h : ∀ k, i0 ≤ k → k < i → dstOf ops k ≠ some t) : frs i t = frs i0 t := by
  induction i with
  | zero => have : i0 = 0 := by omega
            subst this; rfl
  | succ i ih =>
    by_cases hc : i0 = i + 1
    · subst hc; rfl
    · have ho : ops[i]? = some ops[i] := Array.getElem?_eq_getElem (by omega)
      obtain ⟨op, g, _, _, _, hd⟩ := C.parts.2.2 i _ ho
      have ht := (C.tr i _ ho).fr
      rw [hd] at ht
      simp only at ht
      have hne := h i (by omega) (by omega)
      rw [ht]
      have : putF (frs i) ops[i].dst (vs i) t = frs i t := by
        unfold dstOf at hne
        rw [ho] at hne
        simp only [Option.bind_some] at hne
        cases hd2 : ops[i].dst with
        | none => rfl
        | some d =>
          simp only [hd2, ne_eq, Option.some.injEq] at hne
          simp only [putF, upd]
          rw [if_neg (fun h => hne h.symm)]
      rw [this]
      exact ih (by omega) (by omega) (fun k h1 h2 => h k h1 (by omega))
theorem fr_last (C : DC P lo n0 N ops frs hs vs) {t i j : Nat} (hj : j < i) (hi : i ≤ ops.size) (hd : dstOf ops j = some t) (h : ∀ k, j < k → k < i → dstOf ops k ≠ some t) : frs i t = vs j := by
  rw [fr_same C (t := t) (show j + 1 ≤ i by omega) hi (fun k h1 h2 => h k (by omega) h2)]
  have ho : ops[j]? = some ops[j] := Array.getElem?_eq_getElem (by omega)
  obtain ⟨op, g, _, _, _, hx⟩ := C.parts.2.2 j _ ho
  have ht := (C.tr j _ ho).fr
  rw [hx] at ht
  simp only at ht
  unfold dstOf at hd
  rw [ho] at hd
  simp only [Option.bind_some] at hd
  rw [ht, hd]
  simp [putF, upd]

theorem lateCand_some {low : Array AOp} {i j : Nat} {a : Opd} (h : lateCand low ops j i = some a) :
    i < j ∧ (∃ n ad x, low.getD j .bad = .store n ad x) ∧ (∃ agg, low.getD i .bad = .load agg a) ∧ ∀ s, a = .t s → ∀ k, k < low.size → i ≤ k → dstOf ops k ≠ some s := by
  unfold lateCand at h
  cases hj : low.getD j .bad <;> rw [hj] at h <;> try (cases h; done)
  cases hi : low.getD i .bad <;> rw [hi] at h <;> try (cases h; done)
  simp only at h
  rw [Option.ite_none_right_eq_some] at h
  obtain ⟨h1, h2⟩ := h
  cases h2
  simp only [Bool.and_eq_true, decide_eq_true_eq] at h1
  refine ⟨h1.1, ⟨_, _, _, rfl⟩, ⟨_, rfl⟩, fun s hs k hk hik => ?_⟩
  subst hs
  have := List.all_eq_true.1 h1.2 k (List.mem_range.2 hk)
  simp only [Bool.or_eq_true, decide_eq_true_eq, bne_iff_ne] at this
  exact this.resolve_left (by omega)

/-- A writer is bound to every other operation on memory, but for loads that come before it in the text. -/
theorem DC.bound (C : DC P lo n0 N ops frs hs vs) {j : Nat} (hj : j < ops.size) (hw : Wr hs j) {k : Nat} (hk : k < ops.size) (hkj : k ≠ j) (hm : ((lowsOf P N ops).getD k .bad).mem = true) :
    ordB (Region.before ops) k j = true ∨ ordB (Region.before ops) j k = true ∨ (k < j ∧ ∃ agg a, (lowsOf P N ops).getD k .bad = .load agg a ∧ a ∈ lateList (Region.before ops) (lowsOf P N ops) ops j ∧
      lateCand (lowsOf P N ops) ops j k = some a) := by
  have ho : ops[j]? = some ops[j] := Array.getElem?_eq_getElem hj
  obtain ⟨op, g, _, hop, _, hx⟩ := C.parts.2.2 j _ ho
  have ht := (C.tr j _ ho).st
  rw [hx] at ht
  simp only at ht
  have hseq : seqOf (Region.before ops) (lowsOf P N ops) ops j = true := by
    rcases ht with ⟨_, _, h1⟩ | ⟨_, _, h2, h3⟩
    · exact absurd (by rw [h1]; exact Grow.refl _) hw
    · rcases h3 with h3 | h3 | h3
      · rcases h2 with ⟨f, args, he⟩ | he
        · rw [he] at h3; cases h3
        · exact absurd (aop_still h3 he) hw
      · exact absurd h3 hw
      · exact h3.1
  have hsz : (lowsOf P N ops).size = ops.size := by simp [lowsOf]
  have h1 := List.all_eq_true.1 hseq k (List.mem_range.2 (by omega))
  simp only [Bool.or_eq_true, Bool.not_eq_true'] at h1
  by_cases hu : unbound (Region.before ops) (lowsOf P N ops) j k = true
  · rw [hu] at h1
    have h1 := h1.resolve_left (by simp)
    obtain ⟨a, ha⟩ := Option.isSome_iff_exists.1 h1
    refine .inr (.inr ?_)
    have hmem : a ∈ lateList (Region.before ops) (lowsOf P N ops) ops j := by
      unfold lateList
      rw [List.mem_filterMap]
      exact ⟨k, List.mem_range.2 (by omega), by rw [if_pos hu]; exact ha⟩
    obtain ⟨h2, _, ⟨agg, h4⟩, _⟩ := lateCand_some ha
    exact ⟨h2, agg, a, h4, hmem, ha⟩
  · simp only [unbound, hm, Bool.not_true, Bool.or_false, Bool.not_eq_true', Bool.not_eq_false, Bool.or_eq_true, beq_iff_eq] at hu
    rcases hu with (hu | hu) | hu
    · exact absurd hu hkj
    · exact .inl hu
    · exact .inr (.inl hu)

theorem DC.wr_mem (C : DC P lo n0 N ops frs hs vs) {j : Nat} (hj : j < ops.size) (hw : Wr hs j) : ((lowsOf P N ops).getD j .bad).mem = true ∧ ((lowsOf P N ops).getD j .bad).still = false := by
  have ho : ops[j]? = some ops[j] := Array.getElem?_eq_getElem hj
  obtain ⟨op, g, _, hop, _, hx⟩ := C.parts.2.2 j _ ho
  have ht := (C.tr j _ ho).st
  rw [hx] at ht
  simp only at ht
  rw [hop]
  have : op.still = false := by
    rcases ht with ⟨_, _, h1⟩ | ⟨_, _, h2, h3⟩
    · exact absurd (by rw [h1]; exact Grow.refl _) hw
    · cases hst : op.still with
      | false => rfl
      | true =>
        rcases h2 with ⟨f, args, he⟩ | he
        · rw [he] at hst; cases hst
        · exact absurd (aop_still hst he) hw
  exact ⟨still_mem this, this⟩

theorem store_other {n : Nat} {a x : Opd} {fr : Fr} {h h1 : AH} {v : Value} {p : Addr} (hv : aop lo (.store n a x) fr h = some (v, h1)) (hp : a.ev fr = .pointer (some p)) {b : Nat} (hb : b ≠ p.block) : h1[b]? = h[b]? := by
  simp only [aop] at hv
  split at hv
  · rename_i b0 o ha
    rw [hp] at ha
    cases ha
    split at hv
    · simp only [Option.map_eq_some_iff, Prod.mk.injEq] at hv
      obtain ⟨h', h2, _, rfl⟩ := hv
      unfold setCells at h2
      split at h2
      · split at h2
        · cases h2
          exact Array.getElem?_setIfInBounds_ne (Ne.symm hb)
        · cases h2
      · cases h2
    · cases hv
  · cases hv

/-- The block of a load that comes before a writer in the text, and may come behind it in a run. -/
theorem DC.late (C : DC P lo n0 N ops frs hs vs) {i k : Nat} (hik : i < k) (hk : k < ops.size) (hw : Wr hs k) {agg : Option Nat} {a : Opd} (hl : (lowsOf P N ops).getD i .bad = .load agg a)
    (hm : a ∈ lateList (Region.before ops) (lowsOf P N ops) ops k) (hc : lateCand (lowsOf P N ops) ops k i = some a) {b o : Nat} (ha : a.ev (frs i) = ptr b o) : (hs (k + 1))[b]? = (hs k)[b]? := by
  have ho : ops[k]? = some ops[k] := Array.getElem?_eq_getElem hk
  obtain ⟨op, g, _, hop, _, hx⟩ := C.parts.2.2 k _ ho
  have ht := (C.tr k _ ho).st
  rw [hx] at ht
  simp only at ht
  have hev : a.ev (frs k) = a.ev (frs i) := by
    obtain ⟨_, _, _, h3⟩ := lateCand_some hc
    cases a with
    | c v => rfl
    | t s =>
      have hsz : (lowsOf P N ops).size = ops.size := by simp [lowsOf]
      exact fr_same C (by omega) (by omega) fun k' h4 h5 => h3 s rfl k' (by omega) h4
  rcases ht with ⟨_, _, h1⟩ | ⟨_, _, h2, h3⟩
  · exact absurd (by rw [h1]; exact Grow.refl _) hw
  · rcases h3 with h3 | h3 | h3
    · exact absurd h3 (by rw [← hop, (C.wr_mem hk hw).2]; simp)
    · exact absurd h3 hw
    · have h4 := h3.2
      unfold lateOk at h4
      simp only at h4
      obtain ⟨_, ⟨n, ad, x, hst⟩, _, _⟩ := lateCand_some hc
      rw [hop] at hst
      subst hst
      simp only at h4
      cases hp : ad.ev (frs k) <;> rw [hp] at h4 <;> try (exact h4.elim)
      rename_i q
      cases q <;> try (exact h4.elim)
      rename_i p
      have h5 := h4 a hm
      rw [hev, ha] at h5
      simp only [ptr] at h5
      rcases h2 with ⟨f, args, he⟩ | he
      · cases he
      · exact store_other he hp h5
end
end Go.RS
