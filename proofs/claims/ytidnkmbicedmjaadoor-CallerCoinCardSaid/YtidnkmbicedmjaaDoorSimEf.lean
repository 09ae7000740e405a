/- The runner: frames as trees, each operation a constant of its own. -/
import Derived.Test.YtidnkmbicedmjaaDoorSimEv
set_option linter.all false
namespace Go.RS
open Go

/-! ### Frames -/
inductive FT where
  | leaf
  | node (v : Option Value) (l r : FT)
noncomputable def FT.get (t : FT) : Nat → Option Value := FT.rec (fun _ => none) (fun v _ _ il ir n => cond (Nat.beq n 0) v (cond (Nat.beq (Nat.mod n 2) 1) (il (Nat.div n 2)) (ir (Nat.sub (Nat.div n 2) 1)))) t
theorem FT.get_leaf (n : Nat) : FT.leaf.get n = none := rfl
theorem FT.get_node (o : Option Value) (l r : FT) (n : Nat) : (FT.node o l r).get n = if n = 0 then o else if n % 2 = 1 then l.get (n / 2) else r.get (n / 2 - 1) := by
  show cond (Nat.beq n 0) o (cond (Nat.beq (Nat.mod n 2) 1) (l.get (Nat.div n 2)) (r.get (Nat.sub (Nat.div n 2) 1))) = _
  rw [nbeq, nbeq, Bool.cond_decide, Bool.cond_decide]; rfl
/-- A slot is written; what stands behind gets a finished tree. -/
noncomputable def FT.setK {α : Type} (f : Nat) : FT → Nat → Value → (FT → α) → α := Nat.rec (motive := fun _ => FT → Nat → Value → (FT → α) → α) (fun t _ _ k => k t) (fun _ ih t n v k =>
  FT.casesOn (motive := fun _ => α) t
    (cond (Nat.beq n 0) (k (.node (some v) .leaf .leaf)) (cond (Nat.beq (Nat.mod n 2) 1) (ih .leaf (Nat.div n 2) v fun l => k (.node none l .leaf)) (ih .leaf (Nat.sub (Nat.div n 2) 1) v fun r => k (.node none .leaf r))))
    (fun v0 l r => cond (Nat.beq n 0) (k (.node (some v) l r)) (cond (Nat.beq (Nat.mod n 2) 1) (ih l (Nat.div n 2) v fun l => k (.node v0 l r)) (ih r (Nat.sub (Nat.div n 2) 1) v fun r => k (.node v0 l r))))) f
theorem FT.setK_leaf {α : Type} (f n : Nat) (v : Value) (k : FT → α) : FT.setK (f + 1) .leaf n v k = if n = 0 then k (.node (some v) .leaf .leaf) else if n % 2 = 1 then FT.setK f .leaf (n / 2) v fun l => k (.node none l .leaf) else FT.setK f .leaf (n / 2 - 1) v fun r => k (.node none .leaf r) := by
  show cond (Nat.beq n 0) _ (cond (Nat.beq (Nat.mod n 2) 1) _ _) = _
  rw [nbeq, nbeq, Bool.cond_decide, Bool.cond_decide]; rfl
theorem FT.setK_node {α : Type} (f n : Nat) (v : Value) (v0 : Option Value) (l r : FT) (k : FT → α) : FT.setK (f + 1) (.node v0 l r) n v k = if n = 0 then k (.node (some v) l r) else if n % 2 = 1 then FT.setK f l (n / 2) v fun l => k (.node v0 l r) else FT.setK f r (n / 2 - 1) v fun r => k (.node v0 l r) := by
  show cond (Nat.beq n 0) _ (cond (Nat.beq (Nat.mod n 2) 1) _ _) = _
  rw [nbeq, nbeq, Bool.cond_decide, Bool.cond_decide]; rfl
theorem FT.setK_spec {α : Type} : ∀ (f : Nat) (t : FT) (n : Nat) (v : Value) (k : FT → α), n < f → ∃ t' : FT, FT.setK f t n v k = k t' ∧ ∀ m, t'.get m = if m = n then some v else t.get m
  | 0, t, n, v, k, h => by omega
  | f + 1, .leaf, n, v, k, h => by
    rw [FT.setK_leaf]
    by_cases h0 : n = 0
    · subst h0
      exact ⟨_, by rw [if_pos rfl], fun m => by simp [FT.get_node, FT.get_leaf]⟩
    · rw [if_neg h0]
      by_cases h1 : n % 2 = 1
      · rw [if_pos h1]
        obtain ⟨t', e, hg⟩ := FT.setK_spec f .leaf (n / 2) v (fun l => k (.node none l .leaf)) (by omega)
        refine ⟨_, e, fun m => ?_⟩
        simp only [FT.get_node, FT.get_leaf, hg]
        by_cases hm : m = n
        · subst hm; simp [h0, h1]
        · by_cases hm0 : m = 0
          · subst hm0; simp [hm]
          · by_cases hm1 : m % 2 = 1
            · simp [hm, hm0, hm1]; omega
            · simp [hm, hm0, hm1]
      · rw [if_neg h1]
        obtain ⟨t', e, hg⟩ := FT.setK_spec f .leaf (n / 2 - 1) v (fun r => k (.node none .leaf r)) (by omega)
        refine ⟨_, e, fun m => ?_⟩
        simp only [FT.get_node, FT.get_leaf, hg]
        by_cases hm : m = n
        · subst hm; simp [h0, h1]
        · by_cases hm0 : m = 0
          · subst hm0; simp [hm]
          · by_cases hm1 : m % 2 = 1
            · simp [hm, hm0, hm1]
            · simp [hm, hm0, hm1]; omega
  | f + 1, .node v0 l0 r0, n, v, k, h => by
    rw [FT.setK_node]
    by_cases h0 : n = 0
    · subst h0
      refine ⟨_, by rw [if_pos rfl], fun m => ?_⟩
      simp only [FT.get_node]
      by_cases hm : m = 0
      · simp [hm]
      · simp [hm]
    · rw [if_neg h0]
      by_cases h1 : n % 2 = 1
      · rw [if_pos h1]
        obtain ⟨t', e, hg⟩ := FT.setK_spec f l0 (n / 2) v (fun l => k (.node v0 l r0)) (by omega)
        refine ⟨_, e, fun m => ?_⟩
        simp only [FT.get_node, hg]
        by_cases hm : m = n
        · subst hm; simp [h0, h1]
        · by_cases hm0 : m = 0
          · subst hm0; simp [hm]
          · by_cases hm1 : m % 2 = 1
            · have : m / 2 ≠ n / 2 := by omega
              simp [hm, hm0, hm1, this]
            · simp [hm, hm0, hm1]
      · rw [if_neg h1]
        obtain ⟨t', e, hg⟩ := FT.setK_spec f r0 (n / 2 - 1) v (fun r => k (.node v0 l0 r)) (by omega)
        refine ⟨_, e, fun m => ?_⟩
        simp only [FT.get_node, hg]
        by_cases hm : m = n
        · subst hm; simp [h0, h1]
        · by_cases hm0 : m = 0
          · subst hm0; simp [hm]
          · by_cases hm1 : m % 2 = 1
            · simp [hm, hm0, hm1]
            · have : m / 2 - 1 ≠ n / 2 - 1 := by omega
              simp [hm, hm0, hm1, this]

structure FF where
  base : Fr
  t : FT
noncomputable def FF.get (fr : FF) : Fr := FF.casesOn fr fun base t n => Option.casesOn (t.get n) (base n) fun v => v
def FF.of (fr : Fr) : FF := ⟨fr, .leaf⟩
theorem FF.get_of (fr : Fr) : (FF.of fr).get = fr := rfl
noncomputable def putK {α : Type} (fr : FF) (d : Option Nat) (v : Value) (k : FF → α) : α :=
  Option.casesOn d (k fr) fun n => FF.casesOn fr fun base t => FT.setK (Nat.succ n) t n v fun t => k ⟨base, t⟩
theorem putK_spec {α : Type} (fr : FF) (d : Option Nat) (v : Value) (k : FF → α) : ∃ fr' : FF, putK fr d v k = k fr' ∧ fr'.get = putF fr.get d v := by
  cases d with
  | none => exact ⟨fr, rfl, rfl⟩
  | some n =>
    obtain ⟨base, t⟩ := fr
    obtain ⟨t', e, hg⟩ := FT.setK_spec (n + 1) t n v (fun t => k ⟨base, t⟩) (by omega)
    refine ⟨⟨base, t'⟩, e, ?_⟩
    funext m
    show (Option.casesOn (t'.get m) (base m) fun v => v : Value) = upd _ n v m
    rw [hg]
    unfold upd
    by_cases hm : m = n
    · simp [hm]
    · rw [if_neg hm, if_neg hm]; rfl

/-! ### Numbers -/
def eqI (a b : Int) : Bool := Int.casesOn a (fun m => Int.casesOn b (fun n => Nat.beq m n) fun _ => false) (fun m => Int.casesOn b (fun _ => false) fun n => Nat.beq m n)
def ltI (a b : Int) : Bool := Int.casesOn a (fun m => Int.casesOn b (fun n => Nat.blt m n) fun _ => false) (fun m => Int.casesOn b (fun _ => true) fun n => Nat.blt n m)
theorem eqI_eq (a b : Int) : eqI a b = (a == b) := by
  cases a <;> cases b <;> simp only [eqI, nbeq] <;> rename_i m n
  · by_cases h : m = n <;> simp [h]
    intro h2; exact absurd (Int.ofNat.inj h2) h
  · simp
  · simp
  · by_cases h : m = n <;> simp [h]
theorem ltI_eq (a b : Int) : ltI a b = decide (a < b) := by
  cases a <;> cases b <;> simp only [ltI, nblt] <;> rename_i m n
  · simp
  · simp; omega
  · simp; omega
  · simp; omega
def wrapI (k : IntKind) (n : Int) : Int :=
  match k with
  | .i64 => Int.casesOn n (fun m => cond (Nat.blt m 9223372036854775808) (Int.ofNat m) (IntKind.wrap .i64 n)) fun m => cond (Nat.blt m 9223372036854775808) (Int.negSucc m) (IntKind.wrap .i64 n)
  | k => k.wrap n
theorem wrapI_eq (k : IntKind) (n : Int) : wrapI k n = k.wrap n := by
  cases k <;> try rfl
  have key : -9223372036854775808 ≤ n → n < 9223372036854775808 → IntKind.wrap .i64 n = n := by
    intro h1 h2
    have e1 : (2 : Int) ^ 64 = 18446744073709551616 := by decide
    have e2 : (2 : Int) ^ (64 - 1) = 9223372036854775808 := by decide
    simp only [IntKind.wrap, IntKind.bits, IntKind.signed, e1, e2, Bool.true_and, decide_eq_true_eq]
    split <;> omega
  cases n with
  | ofNat m =>
    show cond (Nat.blt m 9223372036854775808) (Int.ofNat m) _ = _
    rw [nblt, Bool.cond_decide]
    split
    · rename_i h; exact (key (by first | (simp; done) | (simp; omega)) (by first | (simp; done) | (simp; omega))).symm
    · rfl
  | negSucc m =>
    show cond (Nat.blt m 9223372036854775808) (Int.negSucc m) _ = _
    rw [nblt, Bool.cond_decide]
    split
    · rename_i h; exact (key (by omega) (by omega)).symm
    · rfl
end Go.RS

