/- Regions that draw their order: whatever order is drawn, the text's result. -/
import Derived.Test.YtidnkmbicedmjaaDoorSimN
namespace Go.RS
open Go

/-! ### What must come before what -/
def bfOf (acc : Array Nat) (o : Oper) : Nat := o.after.foldl (fun s e => if Region.binds .any e then s ||| 2 ^ e.on ||| acc.getD e.on 0 else s) 0
theorem bf_bit {acc : Array Nat} {k : Nat} : ∀ (es : List Edge) (s : Nat), (es.foldl (fun s e => if Region.binds .any e then s ||| 2 ^ e.on ||| acc.getD e.on 0 else s) s).testBit k = true →
    s.testBit k = true ∨ ∃ e ∈ es, Region.binds .any e = true ∧ (e.on = k ∨ (acc.getD e.on 0).testBit k = true)
  | [], s, h => .inl h
  | e :: es, s, h => by
    simp only [List.foldl_cons] at h
    rcases bf_bit es _ h with h1 | ⟨e', h1, h2⟩
    · split at h1
      · rename_i hb
        rw [Nat.testBit_or, Nat.testBit_or, Nat.testBit_two_pow] at h1
        simp only [Bool.or_eq_true, decide_eq_true_eq] at h1
        rcases h1 with (h1 | h1) | h1
        · exact .inl h1
        · exact .inr ⟨e, by simp, hb, .inl h1⟩
        · exact .inr ⟨e, by simp, hb, .inr h1⟩
      · exact .inl h1
    · exact .inr ⟨e', by simp [h1], h2⟩
theorem before_list : ∀ (l : List Oper) (acc : Array Nat), ∃ r : Array Nat, l.foldl (fun acc o => acc.push (bfOf acc o)) acc = r ∧ r.size = acc.size + l.length ∧ (∀ k, k < acc.size → r[k]? = acc[k]?) ∧
    ∀ j o, l[j]? = some o → ∃ pre : Array Nat, pre.size = acc.size + j ∧ (∀ k, k < pre.size → pre[k]? = r[k]?) ∧ r[acc.size + j]? = some (bfOf pre o)
  | [], acc => ⟨acc, rfl, by simp, fun _ _ => rfl, fun j o h => by simp at h⟩
  | x :: l, acc => by
    obtain ⟨r, h1, h2, h3, h4⟩ := before_list l (acc.push (bfOf acc x))
    simp only [Array.size_push] at h2 h3 h4
    have hold : ∀ k, k < acc.size → r[k]? = acc[k]? := fun k hk => by rw [h3 k (by omega), Array.getElem?_push, if_neg (by omega)]
    refine ⟨r, h1, by simp; omega, hold, fun j o hj => ?_⟩
    cases j with
    | zero =>
      simp at hj; subst hj
      refine ⟨acc, by simp, fun k hk => (hold k hk).symm, ?_⟩
      rw [Nat.add_zero, h3 acc.size (by omega), Array.getElem?_push_size]
    | succ j =>
      obtain ⟨pre, g1, g2, g3⟩ := h4 j o (by simpa using hj)
      exact ⟨pre, by omega, g2, by rw [show acc.size + (j + 1) = acc.size + 1 + j by omega]; exact g3⟩
theorem before_eq (ops : Array Oper) : Region.before ops = ops.toList.foldl (fun acc o => acc.push (bfOf acc o)) #[] := by
  unfold Region.before
  rw [← Array.foldl_toList]
  rfl
theorem edges_lt {ops : Array Oper} (hE : edgesOk ops = true) {j : Nat} {o : Oper} (ho : ops[j]? = some o) {e : Edge} (he : e ∈ o.after) (hb : Region.binds .any e = true) : e.on < j := by
  have hj : j < ops.size := (Array.getElem?_eq_some_iff.1 ho).1
  have := List.all_eq_true.1 hE j (List.mem_range.2 hj)
  simp only [ho] at this
  have := Array.all_eq_true_iff_forall_mem.1 this e he
  simpa [hb] using this
theorem ordB_edge {ops : Array Oper} (hE : edgesOk ops = true) {k j : Nat} (h : ordB (Region.before ops) k j = true) :
    ∃ o e, ops[j]? = some o ∧ e ∈ o.after ∧ Region.binds .any e = true ∧ e.on < j ∧ (e.on = k ∨ ordB (Region.before ops) k e.on = true) := by
  obtain ⟨r, h1, h2, h3, h4⟩ := before_list ops.toList #[]
  rw [before_eq, h1] at h ⊢
  simp only [List.size_toArray, List.length_nil, Nat.zero_add, Array.length_toList] at h2 h4
  unfold ordB at h
  have hj : j < ops.size := by
    rcases Nat.lt_or_ge j ops.size with hj | hj
    · exact hj
    · rw [Array.getD_eq_getD_getElem?, Array.getElem?_eq_none (by omega)] at h
      simp at h
  have ho : ops[j]? = some ops[j] := Array.getElem?_eq_getElem hj
  obtain ⟨pre, g1, g2, g3⟩ := h4 j ops[j] (by rw [Array.getElem?_toList]; exact ho)
  rw [Array.getD_eq_getD_getElem?, g3, Option.getD_some] at h
  unfold bfOf at h
  rw [← Array.foldl_toList] at h
  rcases bf_bit _ _ h with h5 | ⟨e, h5, h6, h7⟩
  · simp at h5
  · have hlt := edges_lt hE ho (by simpa using h5) h6
    refine ⟨ops[j], e, ho, by simpa using h5, h6, hlt, h7.imp id fun h8 => ?_⟩
    unfold ordB
    rw [Array.getD_eq_getD_getElem?] at h8 ⊢
    rw [← g2 e.on (by omega)]; exact h8
theorem ordB_lt {ops : Array Oper} (hE : edgesOk ops = true) : ∀ (j : Nat) {k : Nat}, ordB (Region.before ops) k j = true → k < j := by
  intro j
  induction j using Nat.strongRecOn with
  | _ j ih =>
    intro k h
    obtain ⟨o, e, _, _, _, h4, h5⟩ := ordB_edge hE h
    rcases h5 with h5 | h5
    · omega
    · have := ih e.on h4 h5; omega

def Listed (l : Array Bool) (j : Nat) : Prop := l.getD j false = true
def ClosedL (ops : Array Oper) (l : Array Bool) : Prop := ∀ j, Listed l j → ∀ k, ordB (Region.before ops) k j = true → Listed l k
theorem ready_closed {ops : Array Oper} (hE : edgesOk ops = true) {l : Array Bool} (hc : ClosedL ops l) {i : Nat} (hi : i ∈ Region.ready .any ops l) : ∀ k, ordB (Region.before ops) k i = true → Listed l k := by
  intro k hk
  obtain ⟨_, o, ho, hall⟩ := mem_ready.1 hi
  obtain ⟨o', e, h1, h2, h3, h4, h5⟩ := ordB_edge hE hk
  rw [ho] at h1; cases h1
  have hl := hall e h2 h3
  rcases h5 with rfl | h5
  · exact hl
  · exact hc e.on hl k h5
theorem listed_set {l : Array Bool} {i j : Nat} (hi : i < l.size) : Listed (l.setIfInBounds i true) j ↔ j = i ∨ Listed l j := by
  unfold Listed
  by_cases h : i = j
  · subst h; simp [hi]
  · rw [getD_set_ne false h]
    constructor
    · exact .inr
    · rintro (h1 | h1)
      · exact absurd h1.symm h
      · exact h1

/-! ### The text's run as sequences -/
section
variable {P : Program} {lo n0 : Nat}

structure TrAt (P : Program) (lo n0 : Nat) (o : AOper) (f f1 : Fr) (g g1 : AH) (v : Value) : Prop where
  fr : f1 = putF f o.dst v
  sz : g.size ≤ g1.size
  st : (wantedA o.guard f = false ∧ v = undef ∧ g1 = g) ∨ (wantedA o.guard f = true ∧ StepSim P lo n0 o.op f g v g1 ∧ ((∃ x args, o.op = .call x args) ∨ aop lo o.op f g = some (v, g1)) ∧
    (o.op.still = true ∨ Grow g g1 ∨ (o.seqd = true ∧ lateOk o f)))
theorem Tr.seq {l : List AOper} {fr : Fr} {h : AH} {fr1 : Fr} {h1 : AH} (ht : Tr P lo n0 true l fr h fr1 h1) :
    ∃ (frs : Nat → Fr) (hs : Nat → AH) (vs : Nat → Value), frs 0 = fr ∧ hs 0 = h ∧ frs l.length = fr1 ∧ hs l.length = h1 ∧ ∀ j o, l[j]? = some o → TrAt P lo n0 o (frs j) (frs (j + 1)) (hs j) (hs (j + 1)) (vs j) := by
  induction ht with
  | @nil fr h => exact ⟨fun _ => fr, fun _ => h, fun _ => undef, rfl, rfl, rfl, rfl, fun j o hj => by simp at hj⟩
  | @skip o os fr h fr1 h1 hw ht ih =>
    obtain ⟨frs, hs, vs, e1, e2, e3, e4, hall⟩ := ih
    refine ⟨fun n => match n with | 0 => fr | n + 1 => frs n, fun n => match n with | 0 => h | n + 1 => hs n, fun n => match n with | 0 => undef | n + 1 => vs n, rfl, rfl, e3, e4, fun j o' hj => ?_⟩
    cases j with
    | zero =>
      simp at hj; subst hj
      simp only [e1, e2]
      exact ⟨rfl, Nat.le_refl _, .inl ⟨hw, rfl, rfl⟩⟩
    | succ j => exact hall j o' (by simpa using hj)
  | @step o os fr h v h' fr1 h1 hw hsx hop hd hmono ht ih =>
    obtain ⟨frs, hs, vs, e1, e2, e3, e4, hall⟩ := ih
    refine ⟨fun n => match n with | 0 => fr | n + 1 => frs n, fun n => match n with | 0 => h | n + 1 => hs n, fun n => match n with | 0 => v | n + 1 => vs n, rfl, rfl, e3, e4, fun j o' hj => ?_⟩
    cases j with
    | zero =>
      simp at hj; subst hj
      simp only [e1, e2]
      exact ⟨rfl, hmono, .inr ⟨hw, hsx, hop, hd rfl⟩⟩
    | succ j => exact hall j o' (by simpa using hj)

/-- The weak form of 'Ext': the map may know fewer blocks. -/
structure ExtW (lo : Nat) (β : Bij) (h : AH) (w : World) (β1 : Bij) (h1 : AH) (w1 : World) : Prop where
  le : BLe β β1
  hs : h.size ≤ h1.size
  ws : w.heap.size ≤ w1.heap.size
  junk : ∀ (b : Nat) (x : Nat × (Nat × Nat)), β b = some x → h[b]? = some .junk → h1[b]? = some .junk
  keep : ∀ r : Nat, r < w.heap.size → (∀ (b : Nat) (d : Nat × Nat), lo ≤ b → β b = some (r, d) → h[b]? = some .junk) → w1.heap[r]? = w.heap[r]?
  fresh : ∀ (b r : Nat) (d : Nat × Nat), β b = none → β1 b = some (r, d) → w.heap.size ≤ r ∨ ∃ (b0 : Nat) (d0 : Nat × Nat), lo ≤ b0 ∧ β b0 = some (r, d0) ∧ h[b0]? ≠ some .junk
  lps : ∀ (r : Nat) (L : Loop), w.heap[r]? = some (.loop L) → ∃ L' : Loop, w1.heap[r]? = some (.loop L')
  env : w1.os = w.os ∧ w1.tape = w.tape ∧ w1.output = w.output
theorem ExtW.refl {β : Bij} {h : AH} {w : World} : ExtW lo β h w β h w :=
  ⟨.refl β, Nat.le_refl _, Nat.le_refl _, fun _ _ _ h => h, fun _ _ _ => rfl, fun b r d h1 h2 => (by rw [h1] at h2; cases h2), fun r L hL => ⟨L, hL⟩, rfl, rfl, rfl⟩
theorem ExtW.trans {β β1 β2 : Bij} {h h1 h2 : AH} {w w1 w2 : World} (e : ExtW lo β h w β1 h1 w1) (f : ExtW lo β1 h1 w1 β2 h2 w2) : ExtW lo β h w β2 h2 w2 := by
  refine ⟨e.le.trans f.le, Nat.le_trans e.hs f.hs, Nat.le_trans e.ws f.ws, fun b x hx hb => f.junk b x (e.le b x hx) (e.junk b x hx hb), ?_, ?_, fun r L hL => (let ⟨L1, h1⟩ := e.lps r L hL; f.lps r L1 h1), ⟨f.env.1.trans e.env.1, f.env.2.1.trans e.env.2.1, f.env.2.2.trans e.env.2.2⟩⟩
  · intro r hr hk
    refine (f.keep r (Nat.lt_of_lt_of_le hr e.ws) fun b d hlo hb => ?_).trans (e.keep r hr hk)
    cases hbb : β b with
    | some x =>
      have := e.le b x hbb
      rw [hb] at this; cases this
      exact e.junk b _ hbb (hk b d hlo hbb)
    | none =>
      rcases e.fresh b r d hbb hb with h2 | ⟨b0, d0, hl0, h3, h4⟩
      · omega
      · exact absurd (hk b0 d0 hl0 h3) h4
  · intro b r d hb hx
    cases hb1 : β1 b with
    | some x =>
      have := f.le b x hb1
      rw [hx] at this; cases this
      exact e.fresh b r d hb hb1
    | none =>
      rcases f.fresh b r d hb1 hx with h2 | ⟨b0, d0, hl0, h3, h4⟩
      · exact .inl (Nat.le_trans e.ws h2)
      · cases hb0 : β b0 with
        | some x =>
          have := e.le b0 x hb0
          rw [h3] at this; cases this
          exact .inr ⟨b0, d0, hl0, hb0, fun hj => h4 (e.junk b0 _ hb0 hj)⟩
        | none => exact e.fresh b0 r d0 hb0 h3
theorem Ext.weak {β β1 : Bij} {h h1 : AH} {w w1 : World} (R : HRel P lo n0 β h w) (e : Ext lo β h w β1 h1 w1) : ExtW lo β h w β1 h1 w1 :=
  ⟨e.le R, e.hs, e.ws, e.junk, e.keep, fun b r d hb hx => e.fresh b r d (by
    rcases Nat.lt_or_ge b h.size with hlt | hge
    · rw [e.agree b hlt, hb] at hx; cases hx
    · exact hge) hx, e.lps, e.env⟩

/-- A map cut down to the blocks below a number. -/
def cutB (β : Bij) (n : Nat) : Bij := fun b => if b < n then β b else none
theorem cutB_le (β : Bij) (n : Nat) : BLe (cutB β n) β := fun b x h => by
  unfold cutB at h; split at h
  · exact h
  · cases h
theorem cutB_some {β : Bij} {n b : Nat} {x : Nat × (Nat × Nat)} (h : cutB β n b = some x) : b < n ∧ β b = some x := by
  unfold cutB at h; split at h
  · rename_i hb; exact ⟨hb, h⟩
  · cases h
end
end Go.RS
