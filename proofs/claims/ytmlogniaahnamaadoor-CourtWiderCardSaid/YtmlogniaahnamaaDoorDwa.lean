/- Walks: what the reference and the statements share. -/
import Derived.Test.YtmlogniaahnamaaDoorDpa
import Derived.Test.YtmlogniaahnamaaDoorDC
set_option linter.all false
namespace Go.RS.DC
open Go Go.RS
open Go.RS.Enc (enc dec)
@[simp] theorem t_eq (n : Nat) : t n = Opd.t n := rfl
variable {E : VEnv}
theorem w_within (hE : E.env.fn = G) : Ok E 65 (s3 fun n a b => some (wi n a b)) := by
  refine ok3 fun n a b r hr => ?_
  cases hr
  refine VP.run (A := F65) (goodV_nil) [] (by rw [hE]; rfl) (by simp [F65]) ?_; unfold F65; simp (implicitDefEqProofs := false) [enc_list]
  by_cases h : a ≤ n <;> simp (implicitDefEqProofs := false) [enc_list, h, wi]
theorem w_Lies (hE : E.env.fn = G) : Ok E 21 (s3 fun n a b => some (wi n a b)) := by
  refine ok3 fun n a b r hr => ?_
  cases hr
  refine VP.run (A := F21) (goodV_nil) [] (by rw [hE]; rfl) (by simp [F21]) ?_; unfold F21; simp (implicitDefEqProofs := false) [enc_list]
  by_cases h : a ≤ n <;> simp (implicitDefEqProofs := false) [enc_list, h, wi]
def restF (n b : Int) : Option Int := if 0 < b ∧ b < 9223372036854775808 then some (n % b) else none
theorem w_Rest (hE : E.env.fn = G) : Ok E 13 (s2 restF) := by
  refine ok2 fun n b r hr => ?_
  unfold restF at hr
  split at hr
  · rename_i hb
    cases hr
    refine VP.run (A := F13) (goodV_nil) [] (by rw [hE]; rfl) (by simp [F13]) ?_; unfold F13; simp (implicitDefEqProofs := false) [enc_list]
    have h0 : b ≠ 0 := by omega
    simp (implicitDefEqProofs := false) [enc_list, h0]
    have h1 := Int.emod_nonneg n h0
    have h2 := Int.emod_lt_of_pos n hb.1
    have h3 : n.tmod b = if 0 ≤ n ∨ b ∣ n then n % b else n % b - b := by
      rw [Int.tmod_eq_emod]
      split
      · simp
      · omega
    by_cases h4 : 0 ≤ n ∨ b ∣ n
    · rw [if_pos h4] at h3
      have h5 : ¬ n % b < 0 := by omega
      simp (implicitDefEqProofs := false) [enc_list, h3, h5]
    · rw [if_neg h4] at h3
      have h5 : n % b - b < 0 := by omega
      have h6 : IntKind.i64.wrap (n % b) = n % b := wrap64 (by omega) (by omega)
      simp (implicitDefEqProofs := false) [enc_list, h3, h5, h6]
  · cases hr
def floorF (n b : Int) : Option Int := if 0 < b ∧ b < 4611686018427387904 ∧ -4611686018427387904 ≤ n ∧ n ≤ 4611686018427387904 then some (n / b) else none
theorem div_bounds (n b : Int) (hb : 0 < b) (h1 : -4611686018427387904 ≤ n) (h2 : n ≤ 4611686018427387904) : -4611686018427387904 ≤ n / b ∧ n / b ≤ 4611686018427387904 := by
  constructor
  · exact (Int.le_ediv_iff_mul_le hb).2 (by omega)
  · have : n / b < 4611686018427387904 + 1 := (Int.ediv_lt_iff_lt_mul hb).2 (by omega)
    omega
theorem w_To (hE : E.env.fn = G) : Ok E 17 (s2 fun a b => some (Span.mk a b)) := by
  refine ok2 fun a b r hr => ?_
  cases hr
  refine VP.run (A := F17) (goodV_nil) [] (by rw [hE]; rfl) (by simp [F17]) ?_; unfold F17; simp (implicitDefEqProofs := false) [enc_list]
  simp (implicitDefEqProofs := false) [enc_list, spliceV]
end Go.RS.DC

/- Walks: lists. -/
namespace Go.RS.DC
open Go Go.RS
open Go.RS.Enc (enc dec)
variable {E : VEnv}
def firstF : List Int → List Int → Nat
  | x :: a, y :: b => if x = y then firstF a b + 1 else 0
  | _, _ => 0
theorem firstF_eq : ∀ {a b : List Int}, a.length = b.length → (firstF a b = a.length ↔ a = b)
  | [], [], _ => by simp [firstF]
  | x :: a, y :: b, h => by
    have ih := firstF_eq (a := a) (b := b) (by simpa using h)
    unfold firstF
    by_cases hx : x = y
    · simp [hx, ih]
    · simp [hx]
theorem w_First (hE : E.env.fn = G) : Ok E 50 (s2 fun (a b : List Int) => some (firstF a b : Int)) := by
  refine ok2 fun a b r hr => ?_
  cases hr
  refine VP.bound fun hb => ?_
  simp [enc_list] at hb
  refine VP.run (A := F50) (goodV_nil) [] (by rw [hE]; rfl) (by simp [F50]) ?_; unfold F50; simp (implicitDefEqProofs := false) [enc_list]
  refine VW.loop_to 0 [(5, .int .i64 (firstF a b))] [] (True) ?_ (fun hp f m hc => ?_)
  · obtain ⟨Inv, hI⟩ : ∃ Inv : Nat → List (Nat × PV) → VM → Prop, ∀ k f m, Inv k f m ↔ (f = [(0, enc a), (1, enc b), (5, .int .i64 k)] ∧ m = [] ∧ k + firstF (a.drop k) (b.drop k) = firstF a b) := ⟨_, fun _ _ _ => Iff.rfl⟩
    refine VW.loop_cut Inv a.length ?_ ?_ ?_
    · exact ⟨_, _, (hI _ _ _).2 ⟨rfl, rfl, by simp⟩, ⟨0, [], by simp [enc_list], by simp, by simp, by simp (implicitDefEqProofs := false) [enc_list], by simp (implicitDefEqProofs := false) [enc_list]⟩⟩
    · intro k f m hk hi
      obtain ⟨rfl, rfl, hs⟩ := (hI _ _ _).1 hi
      refine VW.run goodV_nil [] ?_
      have w1 : IntKind.i64.wrap ((k : Int) + 1) = k + 1 := wrap64 (by omega) (by omega)
      by_cases hkb : k < b.length
      · rw [List.drop_eq_getElem_cons hk, List.drop_eq_getElem_cons hkb] at hs
        by_cases he : a[k] = b[k]
        · simp (implicitDefEqProofs := false) [enc_list, hk, hkb, get_Int a k hk, get_Int b k hkb, he, w1]
          simp [firstF, he] at hs
          exact ⟨_, _, (hI _ _ _).2 ⟨rfl, rfl, by omega⟩, ⟨0, [], by simp [enc_list], by simp, by simp, by simp (implicitDefEqProofs := false) [enc_list], by simp (implicitDefEqProofs := false) [enc_list]⟩⟩
        · simp [firstF, he] at hs
          simp (implicitDefEqProofs := false) [enc_list, hk, hkb, get_Int a k hk, get_Int b k hkb, he, w1]
          exact ⟨0, [], by simp [enc_list,  hs], by simp, by simp, by simp (implicitDefEqProofs := false) [enc_list,  hs], by simp (implicitDefEqProofs := false) [enc_list,  hs]⟩
      · rw [List.drop_eq_nil_of_le (show b.length ≤ k by omega)] at hs
        have : firstF (a.drop k) [] = 0 := by cases a.drop k <;> rfl
        rw [this] at hs
        simp (implicitDefEqProofs := false) [enc_list, hk, hkb]
        exact ⟨0, [], by simp [enc_list,  ← hs], by simp, by simp, by simp (implicitDefEqProofs := false) [enc_list,  ← hs], by simp (implicitDefEqProofs := false) [enc_list,  ← hs]⟩
    · intro f m hi
      obtain ⟨rfl, rfl, hs⟩ := (hI _ _ _).1 hi
      refine VW.run goodV_nil [] ?_
      simp [firstF] at hs
      simp (implicitDefEqProofs := false) [enc_list]
      exact ⟨0, [], by simp [enc_list,  ← hs], by simp, by simp, by simp (implicitDefEqProofs := false) [enc_list,  ← hs], by simp (implicitDefEqProofs := false) [enc_list,  ← hs]⟩
  · simp (implicitDefEqProofs := false); refine .ofCut hc (VW.run goodV_nil [] ?_); simp (implicitDefEqProofs := false) [enc_list]
theorem w_Alike (hE : E.env.fn = G) : Ok E 15 (s2 fun (a b : List Int) => some (decide (a = b))) := by
  refine ok2 fun a b r hr => ?_
  cases hr
  refine VP.run (A := F15) ((goodV_cons (w_First hE) goodV_nil)) [] (by rw [hE]; rfl) (by simp [F15]) ?_; unfold F15; simp (implicitDefEqProofs := false) [enc_list]
  by_cases h : a.length = b.length
  · have := firstF_eq h
    simp (implicitDefEqProofs := false) [enc_list, h]
    rw [← h, this]
  · have : a ≠ b := fun e => h (by rw [e])
    simp (implicitDefEqProofs := false) [enc_list, h, this]
def findR (n : Int) : Nat → List Int → Int
  | _, [] => -1
  | k, x :: l => if x = n then (k : Int) else findR n (k + 1) l
theorem w_Find (hE : E.env.fn = G) : Ok E 23 (s2 fun l n => some (findR n 0 l)) := by
  refine ok2 fun l n r hr => ?_
  cases hr
  refine VP.bound fun hb => ?_
  simp [enc_list] at hb
  generalize hT : findR n 0 l = T
  refine VP.run (A := F23) (goodV_nil) [] (by rw [hE]; rfl) (by simp [F23]) ?_; unfold F23; simp (implicitDefEqProofs := false) [enc_list]
  refine VW.loop_to 0 [] [] (T = -1) ?_ (fun hp f m hc => ?_)
  · obtain ⟨Inv, hI⟩ : ∃ Inv : Nat → List (Nat × PV) → VM → Prop, ∀ k f m, Inv k f m ↔ (f = [(0, enc l), (1, .int .i64 n), (6, enc l), (7, .int .i64 l.length), (8, .int .i64 k)] ∧ m = [] ∧ T = findR n k (l.drop k)) := ⟨_, fun _ _ _ => Iff.rfl⟩
    refine VW.loop_cut Inv l.length ?_ ?_ ?_
    · exact ⟨_, _, (hI _ _ _).2 ⟨rfl, rfl, hT.symm⟩, ⟨0, [], by simp [enc_list], by simp, by simp, by simp (implicitDefEqProofs := false) [enc_list], by simp (implicitDefEqProofs := false) [enc_list]⟩⟩
    · intro k f m hk hi
      obtain ⟨rfl, rfl, hs⟩ := (hI _ _ _).1 hi
      have w1 : IntKind.i64.wrap ((k : Int) + 1) = k + 1 := wrap64 (by omega) (by omega)
      rw [List.drop_eq_getElem_cons hk, findR] at hs
      by_cases hw : l[k] = n
      · rw [if_pos hw] at hs
        refine VW.run goodV_nil [] ?_; simp (implicitDefEqProofs := false) [enc_list, hk, get_Int l k hk, w1, hw, hs]
      · rw [if_neg hw] at hs
        refine VW.run goodV_nil [] ?_; simp (implicitDefEqProofs := false) [enc_list, hk, get_Int l k hk, w1, hw]
        exact ⟨_, _, (hI _ _ _).2 ⟨rfl, rfl, hs⟩, ⟨0, [], by simp [enc_list], by simp, by simp, by simp (implicitDefEqProofs := false) [enc_list], by simp (implicitDefEqProofs := false) [enc_list]⟩⟩
    · intro f m hi
      obtain ⟨rfl, rfl, hs⟩ := (hI _ _ _).1 hi
      rw [List.drop_length, findR] at hs
      refine VW.run goodV_nil [] ?_; simp (implicitDefEqProofs := false) [enc_list]
      exact ⟨hs, ⟨0, [], by simp [enc_list], by simp, by simp, by simp (implicitDefEqProofs := false) [enc_list], by simp (implicitDefEqProofs := false) [enc_list]⟩⟩
  · simp (implicitDefEqProofs := false); refine .ofCut hc (VW.run goodV_nil [] ?_); simp (implicitDefEqProofs := false) [enc_list, hp]
end Go.RS.DC

/- Walks: the reference (1): lengths of days. -/
namespace Go.RS.DC
open Go Go.RS
open Go.RS.Enc (enc dec)
variable {E : VEnv}
abbrev clc (c : Cal) : VObj := .cells [enc c.Hours, enc c.Minutes, enc c.Seconds, enc c.Days, enc c.Decrees]
end Go.RS.DC

/- Walks: the reference (2): readings and ticks. -/
namespace Go.RS.DC
open Go Go.RS
open Go.RS.Enc (enc dec)
variable {E : VEnv}
end Go.RS.DC

/- Walks: the reference (3): what is told. -/
namespace Go.RS.DC
open Go Go.RS
open Go.RS.Enc (enc dec)
variable {E : VEnv}
theorem fits8L {n : Nat} (h : n ≤ 8796093021952) : fits n 8 = true := by simp [fits]; omega
abbrev sl1 (t : Nat) (out : List Int) : PV := .sl t out.length 0 out.length (openCap + 1) 1
end Go.RS.DC

/- Walks: the reference (4): what is told. -/
namespace Go.RS.DC
open Go Go.RS
open Go.RS.Enc (enc dec)
variable {E : VEnv}
end Go.RS.DC

/- Walks: the reference (5): towns. -/
namespace Go.RS.DC
open Go Go.RS
open Go.RS.Enc (enc dec)
variable {E : VEnv}
/-! ### Readings moved -/
def rdOk (r : Reading) : Prop := -100000 ≤ r.Day ∧ r.Day ≤ 100000 ∧ 0 ≤ r.Hour ∧ r.Hour ≤ 100 ∧ 0 ≤ r.Minute ∧ r.Minute ≤ 100
instance (r : Reading) : Decidable (rdOk r) := by unfold rdOk; infer_instance
theorem thru_ok {c : Cal} (o : CalOk c) {r : Reading} (h : rdOk r) : -144000000 ≤ r.Day * c.Hours * 60 ∧ -2400000 ≤ r.Day * c.Hours ∧ r.Day * c.Hours ≤ 2400000 ∧ -144000000 ≤ (r.Day * c.Hours + r.Hour) * c.Minutes ∧ (r.Day * c.Hours + r.Hour) * c.Minutes ≤ 144006000 := by
  obtain ⟨h1, h2, h3, h4, h5, h6⟩ := h
  have a1 := o.h1
  have a2 := o.h2
  have a3 := o.m1
  have a4 := o.m2
  have g1 : -100000 * c.Hours ≤ r.Day * c.Hours := Int.mul_le_mul_of_nonneg_right h1 (by omega)
  have g2 : r.Day * c.Hours ≤ 100000 * c.Hours := Int.mul_le_mul_of_nonneg_right h2 (by omega)
  have g3 : -2400000 * c.Minutes ≤ (r.Day * c.Hours + r.Hour) * c.Minutes := Int.mul_le_mul_of_nonneg_right (by omega) (by omega)
  have g4 : (r.Day * c.Hours + r.Hour) * c.Minutes ≤ 2400100 * c.Minutes := Int.mul_le_mul_of_nonneg_right (by omega) (by omega)
  omega
end Go.RS.DC

/- Walks: the reference (6): the next tick; all ticks of a reading. -/
namespace Go.RS.DC
open Go Go.RS
open Go.RS.Enc (enc dec)
variable {E : VEnv}
/-! ### All ticks of a local reading -/
theorem chg_all : ∀ (l : List Change) (all last : Int), chgOk all last l = true → 0 ≤ last → ∀ x ∈ l, 0 ≤ x.Tick ∧ x.Tick < all ∧ -1440 ≤ x.Ahead ∧ x.Ahead ≤ 1440
  | [], _, _, _, _, x, hx => by cases hx
  | y :: l, all, last, h, h0, x, hx => by
    simp only [chgOk, Bool.and_eq_true, wi_iff] at h
    rcases List.mem_cons.1 hx with rfl | hx
    · omega
    · exact chg_all l all y.Tick h.2 (by omega) x hx
end Go.RS.DC

/- Walks: the reference (7): all ticks of a local reading. -/
namespace Go.RS.DC
open Go Go.RS
open Go.RS.Enc (enc dec)
variable {E : VEnv}
theorem fits8 {n : Nat} (h : n ≤ 100000) : fits n 8 = true := by simp [fits]; omega
end Go.RS.DC

