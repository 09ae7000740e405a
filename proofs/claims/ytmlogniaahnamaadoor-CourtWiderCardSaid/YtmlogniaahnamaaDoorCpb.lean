/- The chapter court, as plain functions (6): what is remembered on the way. -/
import Derived.Test.YtmlogniaahnamaaDoorCpa
import Derived.Test.YtmlogniaahnamaaDoorPvc
set_option linter.all false
namespace Go.RS.DC
open Go Go.RS
open Go.RS.Enc (enc dec)
def HasT {κ : Type} (kf : κ → PV) (x : κ) (es : List (PV × PV × Nat)) : Prop := ∃ e ∈ es, e.1 = kf x
abbrev St := Int × Int × Nat
abbrev keyT (a : St) : PV := .agg [.int .i64 a.1, .int .i64 a.2.1, .int .i64 ((a.2.2 : Nat) : Int)]
abbrev K3 : KS := .agg [.int, .int, .int]
theorem key_T (a b : St) : keyEqV K3 (keyT a) (keyT b) = some (decide (a = b)) := by
  simp [keyEqV, atomsEqV, atomEqV]
  rw [Bool.eq_iff_iff]
  simp only [Bool.and_eq_true, beq_iff_eq, decide_eq_true_eq, Prod.ext_iff]
  omega
theorem keyOk_T (a : St) : keyOkV K3 (keyT a) = true := by unfold keyOkV; rw [key_T]; simp
theorem keyT_inj {a b : St} (h : keyT a = keyT b) : a = b := by
  have h1 := key_T a b
  rw [h, key_T b b] at h1
  simpa using h1.symm
/-- An answer is put into the map. -/
theorem upd_T {R : St → PV → Prop} {es : List (PV × PV × Nat)} (clock : Nat) (h : MapOk keyT R es) (a : St) {v : PV} (hv : R a v) :
    ∃ f es' clock', findKV K3 (keyT a) es 0 = some f ∧ (∀ (M : VM) (t : Nat), updMapV M t es clock (keyT a) v f = M.set t (.map es' clock')) ∧ MapOk keyT R es' ∧ ∀ x, HasT keyT x es' ↔ x = a ∨ HasT keyT x es := by
  rcases find_good key_T a es 0 h with ⟨h1, _⟩ | ⟨i, w, h1, _⟩
  · refine ⟨_, _, _, h1, fun _ _ => rfl, mapOk_add h a hv _, fun x => ?_⟩
    unfold HasT
    simp only [List.mem_append, List.mem_singleton]
    constructor
    · rintro ⟨e, he | rfl, hx⟩
      · exact .inr ⟨e, he, hx⟩
      · exact .inl (keyT_inj hx).symm
    · rintro (rfl | ⟨e, he, hx⟩)
      · exact ⟨_, .inr rfl, rfl⟩
      · exact ⟨e, .inl he, hx⟩
  · refine ⟨_, _, _, h1, fun _ _ => rfl, mapOk_mod h a hv _, fun x => ⟨?_, ?_⟩⟩
    · rintro ⟨e, he, hx⟩
      obtain ⟨j, hj, rfl⟩ := List.getElem_of_mem he
      rw [List.getElem_modify] at hx
      split at hx
      · exact .inl (keyT_inj hx).symm
      · exact .inr ⟨_, List.getElem_mem _, hx⟩
    · rintro (rfl | hx)
      · have hm := mem_mod (k := keyT x) (v := v) (x := keyT x) (es := es) ?_ h1 fun e he hq => ?_
        · exact hm
        · have hg : ∀ (es : List (PV × PV × Nat)) (o : Nat), MapOk keyT R es → findKV K3 (keyT x) es o = some (some (i, w)) → ∃ e ∈ es, e.1 = keyT x := by
            intro es
            induction es with
            | nil => intro o _ h; cases h
            | cons e es ih =>
              intro o hm h
              obtain ⟨b, hb, _⟩ := hm e (by simp)
              rw [findKV, hb, key_T] at h
              by_cases hx : x = b
              · subst hx; exact ⟨e, by simp, hb⟩
              · rw [decide_eq_false hx] at h
                obtain ⟨f, hf, hk⟩ := ih (o + 1) (fun e he => hm e (by simp [he])) h
                exact ⟨f, by simp [hf], hk⟩
          exact hg es 0 h h1
        · obtain ⟨b, hb, _⟩ := h e he
          rw [hb, key_T] at hq
          simp at hq
          subst hq; exact hb
      · refine mem_mod hx h1 fun e he hq => ?_
        obtain ⟨b, hb, _⟩ := h e he
        rw [hb, key_T] at hq
        simp at hq
        subst hq; exact hb
section
variable (c : Case) (S : Says2) (A : Allow)
/-- Can a state be gone on from? -/
def canVis (a : St) : Bool := if a.1 < 0 then canB c S A a.2.2 else canA c S A (lastN c - a.1.toNat) a.1.toNat a.2.1 a.2.2
/-- What is not true yet behind a spot. -/
def restV (k x : Int) (n : Nat) : Nat := if k < 0 then n else anb n (S k x)
def folV (k x : Int) : List Int := if 0 ≤ k then nextO c x else firstO c
def nextB (k x : Int) (n : Nat) (y : Int) : Bool := A (k + 1).toNat y && canVis c S A (k + 1, y, restV S k x n)
theorem canVis_step {k x : Int} {n : Nat} (hk : -1 ≤ k) (hl : k < lastN c) : canVis c S A (k, x, n) = (folV c k x).any (nextB c S A k x n) := by
  unfold canVis folV nextB
  by_cases h : k < 0
  · obtain rfl : k = -1 := by omega
    simp only [if_pos h, show ¬ (0 : Int) ≤ -1 by decide, if_false]
    unfold canB restV canVis
    first | rfl | simp
  · simp only [if_neg h, if_pos (show 0 ≤ k by omega)]
    obtain ⟨m, rfl⟩ : ∃ m : Nat, k = m := ⟨k.toNat, by omega⟩
    have h1 : lastN c - m = (lastN c - (m + 1)) + 1 := by omega
    simp only [Int.toNat_natCast]
    rw [h1, canA]
    congr 1
theorem canVis_last {x : Int} {n : Nat} : canVis c S A ((lastN c : Int), x, n) = decide (restV S (lastN c) x n = 0) := by
  unfold canVis restV
  have h : ¬ (lastN c : Int) < 0 := by omega
  simp only [if_neg h, Int.toNat_natCast, Nat.sub_self]
  rw [canA]
def ReachS (need : Nat) (a : St) : Prop := (a = (-1, 0, need)) ∨ (0 ≤ a.1 ∧ a.1 ≤ lastN c ∧ (a.2.1, a.2.2) ∈ reachL c S A need a.1.toNat)
theorem reach_step {need : Nat} {k x : Int} {n : Nat} (h : ReachS c S A need (k, x, n)) (hl : k < lastN c) {y : Int} (hy : y ∈ folV c k x) (ha : A (k + 1).toNat y = true) : ReachS c S A need (k + 1, y, restV S k x n) := by
  right
  rcases h with h | ⟨h0, h1, h2⟩
  · simp only [Prod.mk.injEq] at h
    obtain ⟨rfl, rfl, rfl⟩ := h
    refine ⟨by simp, by simp, ?_⟩
    show (y, restV S (-1) 0 n) ∈ reachL c S A n 0
    rw [reachL, List.mem_map]
    exact ⟨y, List.mem_filter.2 ⟨hy, ha⟩, rfl⟩
  · simp only at h0 h1 h2
    refine ⟨by simp only; omega, by simp only; omega, ?_⟩
    obtain ⟨m, rfl⟩ : ∃ m : Nat, k = m := ⟨k.toNat, by omega⟩
    have h3 : ((m : Int) + 1).toNat = m + 1 := by omega
    simp only [h3]
    rw [h3] at ha
    simp only [Int.toNat_natCast] at h2
    rw [reachL, List.mem_flatMap]
    refine ⟨(x, n), h2, List.mem_map.2 ⟨y, List.mem_filter.2 ⟨?_, ha⟩, ?_⟩⟩
    · unfold folV at hy; rw [if_pos h0] at hy; exact hy
    · unfold restV; rw [if_neg (by omega)]
/-- What is remembered, and what is found. -/
structure KnowI (need : Nat) (F : Nat → Int → Bool) (es : List (PV × PV × Nat)) : Prop where
  ok : MapOk keyT (fun a v => v = .bool (canVis c S A a)) es
  cl : ∀ (k x : Int) (n : Nat), HasT keyT (k, x, n) es → k < lastN c → ∀ y ∈ folV c k x, A (k + 1).toNat y = true → HasT keyT (k + 1, y, restV S k x n) es
  fo : ∀ (k : Nat) (x : Int), F k x = true ↔ ∃ n, HasT keyT ((k : Int), x, n) es ∧ canVis c S A ((k : Int), x, n) = true
  re : ∀ a, HasT keyT a es → ReachS c S A need a
theorem know_nil (need : Nat) : KnowI c S A need (fun _ _ => false) [] := ⟨mapOk_nil, fun _ _ _ ⟨_, h, _⟩ => (by cases h), fun _ _ => ⟨fun h => (by cases h), fun ⟨_, ⟨_, h, _⟩, _⟩ => (by cases h)⟩, fun _ ⟨_, h, _⟩ => (by cases h)⟩
/-- Once the beginning is remembered, all that is reached is. -/
theorem know_all {need : Nat} {F : Nat → Int → Bool} {es : List (PV × PV × Nat)} (h : KnowI c S A need F es) (hb : HasT keyT (-1, 0, need) es) : ∀ (k : Nat), k ≤ lastN c → ∀ x n, (x, n) ∈ reachL c S A need k → HasT keyT ((k : Int), x, n) es
  | 0, _, x, n, hm => by
    rw [reachL, List.mem_map] at hm
    obtain ⟨y, hy, he⟩ := hm
    cases he
    rw [List.mem_filter] at hy
    have := h.cl (-1) 0 need hb (by omega) x (by unfold folV; rw [if_neg (by decide)]; exact hy.1) hy.2
    simpa [restV] using this
  | k + 1, hk, x, n, hm => by
    rw [reachL, List.mem_flatMap] at hm
    obtain ⟨⟨z, q⟩, hz, hm⟩ := hm
    rw [List.mem_map] at hm
    obtain ⟨y, hy, he⟩ := hm
    cases he
    rw [List.mem_filter] at hy
    have h1 := know_all h hb k (by omega) z q hz
    have h3 : ((k : Int) + 1).toNat = k + 1 := by omega
    have := h.cl k z q h1 (by omega) x (by unfold folV; rw [if_pos (by omega)]; exact hy.1) (by rw [h3]; exact hy.2)
    have h4 : restV S k z q = anb q (S k z) := by unfold restV; rw [if_neg (by omega)]
    rw [h4] at this
    exact this
theorem know_found {need : Nat} {F : Nat → Int → Bool} {es : List (PV × PV × Nat)} (h : KnowI c S A need F es) (hb : HasT keyT (-1, 0, need) es) {k : Nat} (hk : k ≤ lastN c) (x : Int) : F k x = foundB c S A need k x := by
  rw [Bool.eq_iff_iff, h.fo]
  unfold foundB
  rw [List.any_eq_true]
  have hv : ∀ n, canVis c S A ((k : Int), x, n) = canA c S A (lastN c - k) k x n := fun n => by
    unfold canVis; rw [if_neg (by simp), Int.toNat_natCast]
  constructor
  · rintro ⟨n, h1, h2⟩
    rw [hv] at h2
    rcases h.re _ h1 with he | ⟨_, _, he⟩
    · simp only [Prod.mk.injEq] at he; omega
    · simp only [Int.toNat_natCast] at he
      exact ⟨(x, n), he, by simp [h2]⟩
  · rintro ⟨⟨y, n⟩, h1, h2⟩
    simp only [Bool.and_eq_true, decide_eq_true_eq] at h2
    obtain ⟨rfl, h2⟩ := h2
    exact ⟨n, know_all c S A h hb k hk y n h1, by rw [hv]; exact h2⟩
end
/-! ### The table of what is found -/
def foundC (F : Nat → Int → Bool) (N : Nat) : List PV := (List.range (N * 61)).map fun i => .bool (F (i / 61) ((i % 61 : Nat) - 30))
theorem foundC_len (F : Nat → Int → Bool) (N : Nat) : (foundC F N).length = N * 61 := by simp [foundC]
def setF (F : Nat → Int → Bool) (k : Nat) (x : Int) : Nat → Int → Bool := fun j y => if j = k ∧ y = x then true else F j y
theorem foundC_set (F : Nat → Int → Bool) (N : Nat) {k i : Nat} (hk : k < N) (hi : i < 61) : spliceV (foundC F N) (k * 61 + i) [.bool true] = foundC (setF F k ((i : Int) - 30)) N := by
  have hlt : k * 61 + i < N * 61 := by
    have : (k + 1) * 61 ≤ N * 61 := Nat.mul_le_mul_right _ hk
    omega
  apply List.ext_getElem?
  intro j
  unfold spliceV
  have hl := foundC_len F N
  by_cases hj : j < N * 61
  · have hr : (foundC (setF F k ((i : Int) - 30)) N)[j]? = some (.bool (setF F k ((i : Int) - 30) (j / 61) ((j % 61 : Nat) - 30))) := by
      unfold foundC
      rw [List.getElem?_map, List.getElem?_range hj]; rfl
    have hg : ∀ j, j < N * 61 → (foundC F N)[j]? = some (.bool (F (j / 61) ((j % 61 : Nat) - 30))) := fun j hj => by
      unfold foundC
      rw [List.getElem?_map, List.getElem?_range hj]; rfl
    rw [hr]
    by_cases h1 : j < k * 61 + i
    · rw [List.getElem?_append_left (by simp [hl]; omega), List.getElem?_append_left (by simp [hl]; omega), List.getElem?_take_of_lt h1, hg j hj]
      unfold setF
      rw [if_neg]
      rintro ⟨h2, h3⟩
      omega
    · by_cases h2 : j = k * 61 + i
      · subst h2
        rw [List.getElem?_append_left (by simp [hl]; omega), List.getElem?_append_right (by simp [hl]; omega)]
        have e1 : (k * 61 + i) / 61 = k := by omega
        have e2 : (k * 61 + i) % 61 = i := by omega
        simp only [List.length_take, hl, e1, e2]
        rw [show k * 61 + i - min (k * 61 + i) (N * 61) = 0 by omega]
        unfold setF
        simp
      · rw [List.getElem?_append_right (by simp [hl]; omega)]
        simp only [List.length_append, List.length_take, hl, List.length_singleton]
        rw [List.getElem?_drop, show k * 61 + i + 1 + (j - (min (k * 61 + i) (N * 61) + 1)) = j by omega, hg j hj]
        unfold setF
        rw [if_neg]
        rintro ⟨h3, h4⟩
        omega
  · rw [List.getElem?_eq_none (by simp [hl]; omega), List.getElem?_eq_none (by rw [foundC_len]; omega)]
end Go.RS.DC

