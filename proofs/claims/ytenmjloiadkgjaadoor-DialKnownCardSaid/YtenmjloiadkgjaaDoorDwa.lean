/- Walks: what the reference and the statements share. -/
import Derived.Test.YtenmjloiadkgjaaDoorDpa
import Derived.Test.YtenmjloiadkgjaaDoorDC
set_option linter.all false
namespace Go.RS.DC
open Go Go.RS
open Go.RS.Enc (enc dec)
@[simp] theorem t_eq (n : Nat) : t n = Opd.t n := rfl
variable {E : VEnv}
theorem w_within (hE : E.env.fn = G) : Ok E 56 (s3 fun n a b => some (wi n a b)) := by
  refine ok3 fun n a b r hr => ?_
  cases hr
  refine VP.run (A := F56) (goodV_nil) [] (by rw [hE]; rfl) (by simp [F56]) ?_; unfold F56; simp (implicitDefEqProofs := false) [enc_list]
  by_cases h : a ≤ n <;> simp (implicitDefEqProofs := false) [enc_list, h, wi]
theorem w_Lies (hE : E.env.fn = G) : Ok E 44 (s3 fun n a b => some (wi n a b)) := by
  refine ok3 fun n a b r hr => ?_
  cases hr
  refine VP.run (A := F44) (goodV_nil) [] (by rw [hE]; rfl) (by simp [F44]) ?_; unfold F44; simp (implicitDefEqProofs := false) [enc_list]
  by_cases h : a ≤ n <;> simp (implicitDefEqProofs := false) [enc_list, h, wi]
def restF (n b : Int) : Option Int := if 0 < b ∧ b < 9223372036854775808 then some (n % b) else none
theorem w_Rest (hE : E.env.fn = G) : Ok E 42 (s2 restF) := by
  refine ok2 fun n b r hr => ?_
  unfold restF at hr
  split at hr
  · rename_i hb
    cases hr
    refine VP.run (A := F42) (goodV_nil) [] (by rw [hE]; rfl) (by simp [F42]) ?_; unfold F42; simp (implicitDefEqProofs := false) [enc_list]
    have h0 : b ≠ 0 := by omega
    simp (implicitDefEqProofs := false) [enc_list, h0]
    have h1 := Int.emod_nonneg n h0
    have h2 := Int.emod_lt_of_pos n hb.1
    have h3 : n.tmod b = if 0 ≤ n ∨ b ∣ n then n % b else n % b - b := by
      rw [Int.tmod_eq_emod]
      split
      · simp
      · omega
    by_cases h4 : 0 ≤ n ∨ b ∣ n
    · rw [if_pos h4] at h3
      have h5 : ¬ n % b < 0 := by omega
      simp (implicitDefEqProofs := false) [enc_list, h3, h5]
    · rw [if_neg h4] at h3
      have h5 : n % b - b < 0 := by omega
      have h6 : IntKind.i64.wrap (n % b) = n % b := wrap64 (by omega) (by omega)
      simp (implicitDefEqProofs := false) [enc_list, h3, h5, h6]
  · cases hr
def floorF (n b : Int) : Option Int := if 0 < b ∧ b < 4611686018427387904 ∧ -4611686018427387904 ≤ n ∧ n ≤ 4611686018427387904 then some (n / b) else none
theorem tdiv_floor (n b : Int) (hb : 0 < b) : (n - n % b).tdiv b = n / b := by
  have : n - n % b = b * (n / b) := by have := Int.mul_ediv_add_emod n b; omega
  rw [this]
  exact Int.mul_tdiv_cancel_left _ (by omega)
theorem div_bounds (n b : Int) (hb : 0 < b) (h1 : -4611686018427387904 ≤ n) (h2 : n ≤ 4611686018427387904) : -4611686018427387904 ≤ n / b ∧ n / b ≤ 4611686018427387904 := by
  constructor
  · exact (Int.le_ediv_iff_mul_le hb).2 (by omega)
  · have : n / b < 4611686018427387904 + 1 := (Int.ediv_lt_iff_lt_mul hb).2 (by omega)
    omega
theorem w_Floor (hE : E.env.fn = G) : Ok E 86 (s2 floorF) := by
  refine ok2 fun n b r hr => ?_
  unfold floorF at hr
  split at hr
  · rename_i hb
    cases hr
    refine VP.run (A := F86) ((goodV_cons (w_Rest hE) goodV_nil)) [] (by rw [hE]; rfl) (by simp [F86]) ?_; unfold F86; simp (implicitDefEqProofs := false) [enc_list]
    have h0 : b ≠ 0 := by omega
    have h1 := Int.emod_nonneg n h0
    have h2 := Int.emod_lt_of_pos n hb.1
    have h3 : restF n b = some (n % b) := if_pos ⟨hb.1, by omega⟩
    have h4 : IntKind.i64.wrap (n - n % b) = n - n % b := wrap64 (by omega) (by omega)
    have h5 := div_bounds n b hb.1 hb.2.2.1 hb.2.2.2
    have h6 : IntKind.i64.wrap (n / b) = n / b := wrap64 (by omega) (by omega)
    simp (implicitDefEqProofs := false) [enc_list, h0, h3, h4, tdiv_floor n b hb.1, h6]
  · cases hr
theorem w_To (hE : E.env.fn = G) : Ok E 47 (s2 fun a b => some (Span.mk a b)) := by
  refine ok2 fun a b r hr => ?_
  cases hr
  refine VP.run (A := F47) (goodV_nil) [] (by rw [hE]; rfl) (by simp [F47]) ?_; unfold F47; simp (implicitDefEqProofs := false) [enc_list]
  simp (implicitDefEqProofs := false) [enc_list, spliceV]
end Go.RS.DC

/- Walks: lists. -/
namespace Go.RS.DC
open Go Go.RS
open Go.RS.Enc (enc dec)
variable {E : VEnv}
def firstF : List Int → List Int → Nat
  | x :: a, y :: b => if x = y then firstF a b + 1 else 0
  | _, _ => 0
theorem firstF_eq : ∀ {a b : List Int}, a.length = b.length → (firstF a b = a.length ↔ a = b)
  | [], [], _ => by simp [firstF]
  | x :: a, y :: b, h => by
    have ih := firstF_eq (a := a) (b := b) (by simpa using h)
    unfold firstF
    by_cases hx : x = y
    · simp [hx, ih]
    · simp [hx]
theorem w_First (hE : E.env.fn = G) : Ok E 74 (s2 fun (a b : List Int) => some (firstF a b : Int)) := by
  refine ok2 fun a b r hr => ?_
  cases hr
  refine VP.bound fun hb => ?_
  simp [enc_list] at hb
  refine VP.run (A := F74) (goodV_nil) [] (by rw [hE]; rfl) (by simp [F74]) ?_; unfold F74; simp (implicitDefEqProofs := false) [enc_list]
  refine VW.loop_to 0 [(5, .int .i64 (firstF a b))] [] (True) ?_ (fun hp f m hc => ?_)
  · obtain ⟨Inv, hI⟩ : ∃ Inv : Nat → List (Nat × PV) → VM → Prop, ∀ k f m, Inv k f m ↔ (f = [(0, enc a), (1, enc b), (5, .int .i64 k)] ∧ m = [] ∧ k + firstF (a.drop k) (b.drop k) = firstF a b) := ⟨_, fun _ _ _ => Iff.rfl⟩
    refine VW.loop_cut Inv a.length ?_ ?_ ?_
    · exact ⟨_, _, (hI _ _ _).2 ⟨rfl, rfl, by simp⟩, ⟨0, [], by simp [enc_list], by simp, by simp, by simp (implicitDefEqProofs := false) [enc_list], by simp (implicitDefEqProofs := false) [enc_list]⟩⟩
    · intro k f m hk hi
      obtain ⟨rfl, rfl, hs⟩ := (hI _ _ _).1 hi
      refine VW.run goodV_nil [] ?_
      have w1 : IntKind.i64.wrap ((k : Int) + 1) = k + 1 := wrap64 (by omega) (by omega)
      by_cases hkb : k < b.length
      · rw [List.drop_eq_getElem_cons hk, List.drop_eq_getElem_cons hkb] at hs
        by_cases he : a[k] = b[k]
        · simp (implicitDefEqProofs := false) [enc_list, hk, hkb, get_Int a k hk, get_Int b k hkb, he, w1]
          simp [firstF, he] at hs
          exact ⟨_, _, (hI _ _ _).2 ⟨rfl, rfl, by omega⟩, ⟨0, [], by simp [enc_list], by simp, by simp, by simp (implicitDefEqProofs := false) [enc_list], by simp (implicitDefEqProofs := false) [enc_list]⟩⟩
        · simp [firstF, he] at hs
          simp (implicitDefEqProofs := false) [enc_list, hk, hkb, get_Int a k hk, get_Int b k hkb, he, w1]
          exact ⟨0, [], by simp [enc_list,  hs], by simp, by simp, by simp (implicitDefEqProofs := false) [enc_list,  hs], by simp (implicitDefEqProofs := false) [enc_list,  hs]⟩
      · rw [List.drop_eq_nil_of_le (show b.length ≤ k by omega)] at hs
        have : firstF (a.drop k) [] = 0 := by cases a.drop k <;> rfl
        rw [this] at hs
        simp (implicitDefEqProofs := false) [enc_list, hk, hkb]
        exact ⟨0, [], by simp [enc_list,  ← hs], by simp, by simp, by simp (implicitDefEqProofs := false) [enc_list,  ← hs], by simp (implicitDefEqProofs := false) [enc_list,  ← hs]⟩
    · intro f m hi
      obtain ⟨rfl, rfl, hs⟩ := (hI _ _ _).1 hi
      refine VW.run goodV_nil [] ?_
      simp [firstF] at hs
      simp (implicitDefEqProofs := false) [enc_list]
      exact ⟨0, [], by simp [enc_list,  ← hs], by simp, by simp, by simp (implicitDefEqProofs := false) [enc_list,  ← hs], by simp (implicitDefEqProofs := false) [enc_list,  ← hs]⟩
  · simp (implicitDefEqProofs := false); refine .ofCut hc (VW.run goodV_nil [] ?_); simp (implicitDefEqProofs := false) [enc_list]
theorem w_Alike (hE : E.env.fn = G) : Ok E 37 (s2 fun (a b : List Int) => some (decide (a = b))) := by
  refine ok2 fun a b r hr => ?_
  cases hr
  refine VP.run (A := F37) ((goodV_cons (w_First hE) goodV_nil)) [] (by rw [hE]; rfl) (by simp [F37]) ?_; unfold F37; simp (implicitDefEqProofs := false) [enc_list]
  by_cases h : a.length = b.length
  · have := firstF_eq h
    simp (implicitDefEqProofs := false) [enc_list, h]
    rw [← h, this]
  · have : a ≠ b := fun e => h (by rw [e])
    simp (implicitDefEqProofs := false) [enc_list, h, this]
def climbsR (below : Int) : Int → List Int → Bool
  | _, [] => true
  | least, x :: l => wi x least (IntKind.i64.wrap (below - 1)) && climbsR below (IntKind.i64.wrap (x + 1)) l
theorem w_Climbs (hE : E.env.fn = G) : Ok E 50 (s2 fun l n => some (climbsR n 0 l)) := by
  refine ok2 fun l n r hr => ?_
  cases hr
  refine VP.bound fun hb => ?_
  simp [enc_list] at hb
  have good := goodV_cons (w_Lies hE) goodV_nil
  generalize hT : climbsR n 0 l = T
  refine VP.run (A := F50) (good) [] (by rw [hE]; rfl) (by simp [F50]) ?_; unfold F50; simp (implicitDefEqProofs := false) [enc_list]
  refine VW.loop_to 0 [] [] (T = true) ?_ (fun hp f m hc => ?_)
  · obtain ⟨Inv, hI⟩ : ∃ Inv : Nat → List (Nat × PV) → VM → Prop, ∀ k f m, Inv k f m ↔ (∃ a : Int, f = [(0, enc l), (1, .int .i64 n), (5, .int .i64 a), (7, enc l), (8, .int .i64 l.length), (9, .int .i64 k)] ∧ m = [] ∧ T = climbsR n a (l.drop k)) := ⟨_, fun _ _ _ => Iff.rfl⟩
    refine VW.loop_cut Inv l.length ?_ ?_ ?_
    · exact ⟨_, _, (hI _ _ _).2 ⟨0, rfl, rfl, hT.symm⟩, ⟨0, [], by simp [enc_list], by simp, by simp, by simp (implicitDefEqProofs := false) [enc_list], by simp (implicitDefEqProofs := false) [enc_list]⟩⟩
    · intro k f m hk hi
      obtain ⟨a, rfl, rfl, hs⟩ := (hI _ _ _).1 hi
      have w1 : IntKind.i64.wrap ((k : Int) + 1) = k + 1 := wrap64 (by omega) (by omega)
      rw [List.drop_eq_getElem_cons hk, climbsR] at hs
      by_cases hw : wi l[k] a (IntKind.i64.wrap (n - 1)) = true
      · rw [hw, Bool.true_and] at hs
        refine VW.run good [] ?_; simp (implicitDefEqProofs := false) [enc_list, hk, get_Int l k hk, w1, hw]
        exact ⟨_, _, (hI _ _ _).2 ⟨_, rfl, rfl, hs⟩, ⟨0, [], by simp [enc_list], by simp, by simp, by simp (implicitDefEqProofs := false) [enc_list], by simp (implicitDefEqProofs := false) [enc_list]⟩⟩
      · have hw : wi l[k] a (IntKind.i64.wrap (n - 1)) = false := by simpa using hw
        rw [hw, Bool.false_and] at hs
        refine VW.run good [] ?_; simp (implicitDefEqProofs := false) [enc_list, hk, get_Int l k hk, w1, hw, hs]
    · intro f m hi
      obtain ⟨a, rfl, rfl, hs⟩ := (hI _ _ _).1 hi
      rw [List.drop_length, climbsR] at hs
      refine VW.run good [] ?_; simp (implicitDefEqProofs := false) [enc_list]
      exact ⟨hs, ⟨0, [], by simp [enc_list], by simp, by simp, by simp (implicitDefEqProofs := false) [enc_list], by simp (implicitDefEqProofs := false) [enc_list]⟩⟩
  · simp (implicitDefEqProofs := false); refine .ofCut hc (VW.run good [] ?_); simp (implicitDefEqProofs := false) [enc_list, hp]
def findR (n : Int) : Nat → List Int → Int
  | _, [] => -1
  | k, x :: l => if x = n then (k : Int) else findR n (k + 1) l
theorem w_Find (hE : E.env.fn = G) : Ok E 49 (s2 fun l n => some (findR n 0 l)) := by
  refine ok2 fun l n r hr => ?_
  cases hr
  refine VP.bound fun hb => ?_
  simp [enc_list] at hb
  generalize hT : findR n 0 l = T
  refine VP.run (A := F49) (goodV_nil) [] (by rw [hE]; rfl) (by simp [F49]) ?_; unfold F49; simp (implicitDefEqProofs := false) [enc_list]
  refine VW.loop_to 0 [] [] (T = -1) ?_ (fun hp f m hc => ?_)
  · obtain ⟨Inv, hI⟩ : ∃ Inv : Nat → List (Nat × PV) → VM → Prop, ∀ k f m, Inv k f m ↔ (f = [(0, enc l), (1, .int .i64 n), (6, enc l), (7, .int .i64 l.length), (8, .int .i64 k)] ∧ m = [] ∧ T = findR n k (l.drop k)) := ⟨_, fun _ _ _ => Iff.rfl⟩
    refine VW.loop_cut Inv l.length ?_ ?_ ?_
    · exact ⟨_, _, (hI _ _ _).2 ⟨rfl, rfl, hT.symm⟩, ⟨0, [], by simp [enc_list], by simp, by simp, by simp (implicitDefEqProofs := false) [enc_list], by simp (implicitDefEqProofs := false) [enc_list]⟩⟩
    · intro k f m hk hi
      obtain ⟨rfl, rfl, hs⟩ := (hI _ _ _).1 hi
      have w1 : IntKind.i64.wrap ((k : Int) + 1) = k + 1 := wrap64 (by omega) (by omega)
      rw [List.drop_eq_getElem_cons hk, findR] at hs
      by_cases hw : l[k] = n
      · rw [if_pos hw] at hs
        refine VW.run goodV_nil [] ?_; simp (implicitDefEqProofs := false) [enc_list, hk, get_Int l k hk, w1, hw, hs]
      · rw [if_neg hw] at hs
        refine VW.run goodV_nil [] ?_; simp (implicitDefEqProofs := false) [enc_list, hk, get_Int l k hk, w1, hw]
        exact ⟨_, _, (hI _ _ _).2 ⟨rfl, rfl, hs⟩, ⟨0, [], by simp [enc_list], by simp, by simp, by simp (implicitDefEqProofs := false) [enc_list], by simp (implicitDefEqProofs := false) [enc_list]⟩⟩
    · intro f m hi
      obtain ⟨rfl, rfl, hs⟩ := (hI _ _ _).1 hi
      rw [List.drop_length, findR] at hs
      refine VW.run goodV_nil [] ?_; simp (implicitDefEqProofs := false) [enc_list]
      exact ⟨hs, ⟨0, [], by simp [enc_list], by simp, by simp, by simp (implicitDefEqProofs := false) [enc_list], by simp (implicitDefEqProofs := false) [enc_list]⟩⟩
  · simp (implicitDefEqProofs := false); refine .ofCut hc (VW.run goodV_nil [] ?_); simp (implicitDefEqProofs := false) [enc_list, hp]
end Go.RS.DC

/- Walks: the reference (1): lengths of days. -/
namespace Go.RS.DC
open Go Go.RS
open Go.RS.Enc (enc dec)
variable {E : VEnv}
abbrev clc (c : Cal) : VObj := .cells [enc c.Hours, enc c.Minutes, enc c.Seconds, enc c.Days, enc c.Decrees]
def secsF (c : Cal) (d m : Int) : Option Int := if okC c = true then some (secsR c d m) else none
def addR (l : List Decree) (d : Int) (last : Bool) : Int := if last then moreR l d else 0
theorem addR_cons (x : Decree) (l : List Decree) (d : Int) (last : Bool) : addR (x :: l) d last = (if x.Day = d ∧ last = true then (if x.Plus then 1 else -1) else 0) + addR l d last := by
  cases last <;> simp [addR, moreR]
theorem w_seconds (hE : E.env.fn = G) : Ok E 79 (s3 secsF) := by
  refine ok3 fun c d m r hr => ?_
  unfold secsF at hr
  split at hr
  · rename_i hc
    cases hr
    have o := okC_ok hc
    have s1 := o.s1
    have s2 := o.s2
    have dl := o.dl
    have hm1 := o.hm1
    have hm2 := o.hm2
    have w0 : IntKind.i64.wrap (c.Hours * c.Minutes) = c.Hours * c.Minutes := wrap64 (by omega) (by omega)
    have w1 : IntKind.i64.wrap (c.Hours * c.Minutes - 1) = c.Hours * c.Minutes - 1 := wrap64 (by omega) (by omega)
    have hT : secsR c d m = c.Seconds + addR c.Decrees d (decide (m = c.Hours * c.Minutes - 1)) := by unfold secsR addR; simp
    obtain ⟨last, hl⟩ : ∃ last : Bool, last = decide (m = c.Hours * c.Minutes - 1) := ⟨_, rfl⟩
    rw [← hl] at hT
    refine VP.run (A := F79) (goodV_nil) [] (by rw [hE]; rfl) (by simp [F79]) ?_; unfold F79; simp (implicitDefEqProofs := false) [enc_list]
    refine VW.loop_to 0 [(7, .int .i64 (secsR c d m))] [clc c] (True) ?_ (fun hp f m hc => ?_)
    · obtain ⟨Inv, hI⟩ : ∃ Inv : Nat → List (Nat × PV) → VM → Prop, ∀ k f M, Inv k f M ↔ (∃ s : Int, f = [(1, .int .i64 d), (2, .int .i64 m), (3, .ptr 0 5 0), (7, .int .i64 s), (8, .int .i64 k)] ∧ M = [clc c] ∧ secsR c d m = s + addR (c.Decrees.drop k) d last ∧ -k ≤ s - c.Seconds ∧ s - c.Seconds ≤ k) := ⟨_, fun _ _ _ => Iff.rfl⟩
      refine VW.loop_cut Inv c.Decrees.length ?_ ?_ ?_
      · exact ⟨_, _, (hI _ _ _).2 ⟨c.Seconds, rfl, rfl, hT, by omega, by omega⟩, ⟨1, [], by simp [enc_list], by simp, by simp, by simp (implicitDefEqProofs := false) [enc_list], by simp (implicitDefEqProofs := false) [enc_list]⟩⟩
      · intro k f M hk hi
        obtain ⟨s, rfl, rfl, hs, b1, b2⟩ := (hI _ _ _).1 hi
        have w2 : IntKind.i64.wrap ((k : Int) + 1) = k + 1 := wrap64 (by omega) (by omega)
        have w3 : IntKind.i64.wrap (s - 1) = s - 1 := wrap64 (by omega) (by omega)
        have w4 : IntKind.i64.wrap (s - 1 + 2) = s - 1 + 2 := wrap64 (by omega) (by omega)
        rw [List.drop_eq_getElem_cons hk, addR_cons] at hs
        generalize hx : c.Decrees[k] = x at hs
        refine VW.run goodV_nil [] ?_; simp (implicitDefEqProofs := false) [enc_list, hk, get_Decree c.Decrees k hk, hx, w0, w1]
        by_cases h1 : x.Day = d
        · by_cases h2 : m = c.Hours * c.Minutes - 1
          · by_cases h3 : x.Plus = true
            · simp (implicitDefEqProofs := false) [enc_list, h1, h2, h3, hk, get_Decree c.Decrees k hk, hx, w0, w1, w2, w3, w4]
              (have e : last = true := by rw [hl]; simp [h2]
               simp only [h1, h3, e, and_self, if_true] at hs
               exact ⟨_, _, (hI _ _ _).2 ⟨s - 1 + 2, rfl, rfl, by rw [hs, e]; omega, by omega, by omega⟩, ⟨1, [], by simp [enc_list,  h2], by simp, by simp, by simp (implicitDefEqProofs := false) [enc_list,  h2], by simp (implicitDefEqProofs := false) [enc_list,  h2]⟩⟩)
            · simp (implicitDefEqProofs := false) [enc_list, h1, h2, h3, hk, get_Decree c.Decrees k hk, hx, w0, w1, w2, w3, w4]
              (have e : last = true := by rw [hl]; simp [h2]
               simp only [h1, h3, e, and_self, if_true, if_false, Bool.false_eq_true] at hs
               exact ⟨_, _, (hI _ _ _).2 ⟨s - 1, rfl, rfl, by rw [hs, e]; omega, by omega, by omega⟩, ⟨1, [], by simp [enc_list,  h2], by simp, by simp, by simp (implicitDefEqProofs := false) [enc_list,  h2], by simp (implicitDefEqProofs := false) [enc_list,  h2]⟩⟩)
          · simp (implicitDefEqProofs := false) [enc_list, h1, h2, hk, get_Decree c.Decrees k hk, hx, w0, w1, w2, w3, w4]
            (have e : last = false := by rw [hl]; simp [h2]
             simp only [e, and_false, if_false, Bool.false_eq_true] at hs
             exact ⟨_, _, (hI _ _ _).2 ⟨s, rfl, rfl, by rw [hs, e]; omega, by omega, by omega⟩, ⟨1, [], by simp [enc_list], by simp, by simp, by simp (implicitDefEqProofs := false) [enc_list], by simp (implicitDefEqProofs := false) [enc_list]⟩⟩)
        · simp (implicitDefEqProofs := false) [enc_list, h1, hk, get_Decree c.Decrees k hk, hx, w0, w1, w2, w3, w4]
          (simp only [h1, false_and, if_false] at hs
           exact ⟨_, _, (hI _ _ _).2 ⟨s, rfl, rfl, by rw [hs]; omega, by omega, by omega⟩, ⟨1, [], by simp [enc_list], by simp, by simp, by simp (implicitDefEqProofs := false) [enc_list], by simp (implicitDefEqProofs := false) [enc_list]⟩⟩)
      · intro f M hi
        obtain ⟨s, rfl, rfl, hs, b1, b2⟩ := (hI _ _ _).1 hi
        have he : secsR c d m = s := by rw [hs, List.drop_length]; cases last <;> simp [addR, moreR]
        refine VW.run goodV_nil [] ?_; simp (implicitDefEqProofs := false) [enc_list]
        exact ⟨1, [], by simp [enc_list,  he], by simp, by simp, by simp (implicitDefEqProofs := false) [enc_list,  he], by simp (implicitDefEqProofs := false) [enc_list,  he]⟩
    · simp (implicitDefEqProofs := false); refine .ofCut hc (VW.run goodV_nil [] ?_); simp (implicitDefEqProofs := false) [enc_list]
  · cases hr
def lengthF (c : Cal) (d : Int) : Option Int := if okC c = true then some (lenR c d) else none
theorem secs_len (c : Cal) (d : Int) : (c.Hours * c.Minutes - 1) * c.Seconds + secsR c d (c.Hours * c.Minutes - 1) = lenR c d := by
  unfold lenR secsR
  rw [if_pos rfl, Int.sub_mul]; omega
theorem w_length (hE : E.env.fn = G) : Ok E 58 (s2 lengthF) := by
  refine ok2 fun c d r hr => ?_
  unfold lengthF at hr
  split at hr
  · rename_i hc
    cases hr
    have o := okC_ok hc
    have hm1 := o.hm1
    have hm2 := o.hm2
    have w2 := o.w2
    have lb := o.lb d
    have mb := o.mb d
    have s2 := o.s2
    have hb1 : (c.Hours * c.Minutes - 1) * c.Seconds ≤ 86400 := by have := o.w1; have := o.w3; have := o.s1; omega
    have v0 : IntKind.i64.wrap (c.Hours * c.Minutes) = c.Hours * c.Minutes := wrap64 (by omega) (by omega)
    have v1 : IntKind.i64.wrap (c.Hours * c.Minutes - 1) = c.Hours * c.Minutes - 1 := wrap64 (by omega) (by omega)
    have v2 : IntKind.i64.wrap ((c.Hours * c.Minutes - 1) * c.Seconds) = (c.Hours * c.Minutes - 1) * c.Seconds := wrap64 (by omega) (by omega)
    have v3 : IntKind.i64.wrap ((c.Hours * c.Minutes - 1) * c.Seconds + secsR c d (c.Hours * c.Minutes - 1)) = lenR c d := by
      rw [secs_len]; exact wrap64 (by omega) (by omega)
    have v4 : secsF c d (c.Hours * c.Minutes - 1) = some (secsR c d (c.Hours * c.Minutes - 1)) := if_pos hc
    refine VP.run (A := F58) ((goodV_cons (w_seconds hE) goodV_nil)) [] (by rw [hE]; rfl) (by simp [F58]) ?_; unfold F58; simp (implicitDefEqProofs := false) [enc_list]
    simp (implicitDefEqProofs := false) [enc_list, v0, v1, v2, v3, v4]
  · cases hr
def beginsF (c : Cal) (n : Int) : Option Int := if okC c = true ∧ 0 ≤ n ∧ n ≤ 1000 then some (begR c n.toNat) else none
theorem w_begins (hE : E.env.fn = G) : Ok E 60 (s2 beginsF) := by
  refine ok2 fun c n r hr => ?_
  unfold beginsF at hr
  split at hr
  · rename_i hc
    cases hr
    obtain ⟨hc, n0, n1⟩ := hc
    obtain ⟨n, rfl⟩ : ∃ d : Nat, n = d := ⟨n.toNat, by omega⟩
    rw [Int.toNat_natCast]
    have o := okC_ok hc
    have good := goodV_cons (w_length hE) goodV_nil
    refine VP.run (A := F60) (good) [] (by rw [hE]; rfl) (by simp [F60]) ?_; unfold F60; simp (implicitDefEqProofs := false) [enc_list]
    refine VW.loop_to 0 [(5, .int .i64 (begR c n))] [clc c] (True) ?_ (fun hp f m hc => ?_)
    · obtain ⟨Inv, hI⟩ : ∃ Inv : Nat → List (Nat × PV) → VM → Prop, ∀ k f M, Inv k f M ↔ (f = [(1, .int .i64 n), (2, .ptr 0 5 0), (5, .int .i64 (begR c k)), (6, .int .i64 k)] ∧ M = [clc c]) := ⟨_, fun _ _ _ => Iff.rfl⟩
      refine VW.loop_cut Inv n ?_ ?_ ?_
      · exact ⟨_, _, (hI _ _ _).2 ⟨rfl, rfl⟩, ⟨1, [], by simp [enc_list,  begR], by simp, by simp, by simp (implicitDefEqProofs := false) [enc_list,  begR], by simp (implicitDefEqProofs := false) [enc_list,  begR]⟩⟩
      · intro k f M hk hi
        obtain ⟨rfl, rfl⟩ := (hI _ _ _).1 hi
        have hb := begR_b o (k + 1)
        have w2 : IntKind.i64.wrap ((k : Int) + 1) = k + 1 := wrap64 (by omega) (by omega)
        have w3 : IntKind.i64.wrap (begR c k + lenR c k) = begR c (k + 1) := by rw [begR] at hb ⊢; exact wrap64 (by omega) (by omega)
        have w4 : lengthF c k = some (lenR c k) := if_pos hc
        refine VW.run good [] ?_; simp (implicitDefEqProofs := false) [enc_list, hk, w2, w3, w4]
        exact ⟨_, _, (hI _ _ _).2 ⟨rfl, rfl⟩, ⟨1, [], by simp [enc_list], by simp, by simp, by simp (implicitDefEqProofs := false) [enc_list], by simp (implicitDefEqProofs := false) [enc_list]⟩⟩
      · intro f M hi
        obtain ⟨rfl, rfl⟩ := (hI _ _ _).1 hi
        refine VW.run good [] ?_; simp (implicitDefEqProofs := false) [enc_list]
        exact ⟨1, [], by simp [enc_list], by simp, by simp, by simp (implicitDefEqProofs := false) [enc_list], by simp (implicitDefEqProofs := false) [enc_list]⟩
    · simp (implicitDefEqProofs := false); refine .ofCut hc (VW.run good [] ?_); simp (implicitDefEqProofs := false) [enc_list]
  · cases hr
def isTickF (c : Cal) (t : Int) : Option Bool := if okC c = true then some (wi t 0 (allR c - 1)) else none
theorem days_begins {c : Cal} (hc : okC c = true) : beginsF c c.Days = some (allR c) := by
  have o := okC_ok hc
  have d1 := o.d1
  have d2 := o.d2
  exact if_pos ⟨hc, by omega, by omega⟩
theorem w_isTick (hE : E.env.fn = G) : Ok E 63 (s2 isTickF) := by
  refine ok2 fun c t r hr => ?_
  unfold isTickF at hr
  split at hr
  · rename_i hc
    cases hr
    have o := okC_ok hc
    have ab := allR_b o
    have w1 : IntKind.i64.wrap (allR c - 1) = allR c - 1 := wrap64 (by omega) (by omega)
    refine VP.run (A := F63) ((goodV_cons (w_begins hE) (goodV_cons (w_Lies hE) goodV_nil))) [] (by rw [hE]; rfl) (by simp [F63]) ?_; unfold F63; simp (implicitDefEqProofs := false) [enc_list]
    simp (implicitDefEqProofs := false) [enc_list, days_begins hc, w1]
  · cases hr
end Go.RS.DC

/- Walks: the reference (2): readings and ticks. -/
namespace Go.RS.DC
open Go Go.RS
open Go.RS.Enc (enc dec)
variable {E : VEnv}
def readF (c : Cal) (t : Int) : Option Reading := if okC c = true ∧ 0 ≤ t ∧ t < allR c then some (readR c t) else none
theorem w_reading (hE : E.env.fn = G) : Ok E 64 (s2 readF) := by
  refine ok2 fun c t r hr => ?_
  unfold readF at hr
  split at hr
  · rename_i hc
    cases hr
    obtain ⟨ho, t0, t1⟩ := hc
    have o := okC_ok ho
    obtain ⟨d1, d2, d3⟩ := dayR_spec o t0 t1
    have dd := o.d2
    have ab := allR_b o
    have m1 := o.m1
    have m2 := o.m2
    have s1 := o.s1
    have hm1 := o.hm1
    have hm2 := o.hm2
    have hl0 : 0 ≤ leftR c t := by unfold leftR; omega
    have hl1 : leftR c t < lenR c (dayR c t) := by unfold leftR; rw [begR] at d3; omega
    obtain ⟨g1, g2, g3, g4⟩ := min_split o hl0 hl1
    have lb := o.lb (dayR c t)
    have e1 := Int.mul_ediv_add_emod (leftR c t) c.Seconds
    have q1 : 0 ≤ leftR c t / c.Seconds := Int.ediv_nonneg hl0 (by omega)
    have q2 : leftR c t / c.Seconds ≤ leftR c t := Int.ediv_le_self _ hl0
    have q3 : (leftR c t).tdiv c.Seconds = leftR c t / c.Seconds := Int.tdiv_eq_ediv_of_nonneg hl0
    have q4 : 0 ≤ minR c (leftR c t) / c.Minutes := Int.ediv_nonneg g1 (by omega)
    have q5 : minR c (leftR c t) / c.Minutes ≤ minR c (leftR c t) := Int.ediv_le_self _ g1
    have q6 := Int.emod_nonneg (minR c (leftR c t)) (show c.Minutes ≠ 0 by omega)
    have q7 := Int.emod_lt_of_pos (minR c (leftR c t)) (show 0 < c.Minutes by omega)
    have q8 : (minR c (leftR c t)).tdiv c.Minutes = minR c (leftR c t) / c.Minutes := Int.tdiv_eq_ediv_of_nonneg g1
    have q9 : (minR c (leftR c t)).tmod c.Minutes = minR c (leftR c t) % c.Minutes := Int.tmod_eq_emod_of_nonneg g1
    have w0 : IntKind.i64.wrap (c.Hours * c.Minutes) = c.Hours * c.Minutes := wrap64 (by omega) (by omega)
    have w1 : IntKind.i64.wrap (c.Hours * c.Minutes - 1) = c.Hours * c.Minutes - 1 := wrap64 (by omega) (by omega)
    have w5 : IntKind.i64.wrap (leftR c t / c.Seconds) = leftR c t / c.Seconds := wrap64 (by omega) (by omega)
    have p0 : 0 ≤ minR c (leftR c t) * c.Seconds := Int.mul_nonneg g1 (by omega)
    have n1 : c.Minutes ≠ 0 := by omega
    have n2 : c.Seconds ≠ 0 := by omega
    have w6 : IntKind.i64.wrap (minR c (leftR c t) / c.Minutes) = minR c (leftR c t) / c.Minutes := wrap64 (by omega) (by omega)
    have w7 : IntKind.i64.wrap (minR c (leftR c t) % c.Minutes) = minR c (leftR c t) % c.Minutes := wrap64 (by omega) (by omega)
    have w8 : IntKind.i64.wrap (minR c (leftR c t) * c.Seconds) = minR c (leftR c t) * c.Seconds := wrap64 (by omega) (by omega)
    have w9 : IntKind.i64.wrap (leftR c t - minR c (leftR c t) * c.Seconds) = leftR c t - minR c (leftR c t) * c.Seconds := wrap64 (by omega) (by omega)
    have bg := begR_b o (dayR c t)
    have w10 : IntKind.i64.wrap (t - begR c (dayR c t)) = leftR c t := wrap64 (by omega) (by omega)
    have hmin : (if c.Hours * c.Minutes - 1 < leftR c t / c.Seconds then c.Hours * c.Minutes - 1 else leftR c t / c.Seconds) = minR c (leftR c t) := by
      unfold minR
      by_cases h : leftR c t / c.Seconds < c.Hours * c.Minutes - 1
      · rw [if_pos h, if_neg (by omega)]
      · rw [if_neg h]; split <;> omega
    have good := goodV_cons (w_begins hE) goodV_nil
    refine VP.run (A := F64) (good) [] (by rw [hE]; rfl) (by simp [F64]) ?_; unfold F64; simp (implicitDefEqProofs := false) [enc_list]
    refine VW.loop_to 0 [(1, .int .i64 t), (2, .ptr 0 5 0), (4, .ptr 1 4 0), (5, .int .i64 (dayR c t))] [clc c, .cells [.int .i64 0, .int .i64 0, .int .i64 0, .int .i64 0]] (True) ?_ (fun hp f m hc => ?_)
    · obtain ⟨Inv, hI⟩ : ∃ Inv : Nat → List (Nat × PV) → VM → Prop, ∀ k f M, Inv k f M ↔ (f = [(1, .int .i64 t), (2, .ptr 0 5 0), (4, .ptr 1 4 0), (5, .int .i64 k)] ∧ M = [clc c, .cells [.int .i64 0, .int .i64 0, .int .i64 0, .int .i64 0]]) := ⟨_, fun _ _ _ => Iff.rfl⟩
      refine VW.loop_cut Inv (dayR c t) ?_ ?_ ?_
      · exact ⟨_, _, (hI _ _ _).2 ⟨rfl, rfl⟩, ⟨2, [], by simp [enc_list], by simp, by simp, by simp (implicitDefEqProofs := false) [enc_list], by simp (implicitDefEqProofs := false) [enc_list]⟩⟩
      · intro k f M hk hi
        obtain ⟨rfl, rfl⟩ := (hI _ _ _).1 hi
        have w2 : IntKind.i64.wrap ((k : Int) + 1) = k + 1 := wrap64 (by omega) (by omega)
        have w4 : beginsF c ((k : Int) + 1) = some (begR c (k + 1)) := if_pos ⟨ho, by omega, by omega⟩
        have hle : begR c (k + 1) ≤ t := by have := begR_mono o (show k + 1 ≤ dayR c t by omega); omega
        refine VW.run good [] ?_; simp (implicitDefEqProofs := false) [enc_list, w2, w4, hle]
        exact ⟨_, _, (hI _ _ _).2 ⟨rfl, rfl⟩, ⟨2, [], by simp [enc_list], by simp, by simp, by simp (implicitDefEqProofs := false) [enc_list], by simp (implicitDefEqProofs := false) [enc_list]⟩⟩
      · intro f M hi
        obtain ⟨rfl, rfl⟩ := (hI _ _ _).1 hi
        have w2 : IntKind.i64.wrap ((dayR c t : Int) + 1) = dayR c t + 1 := wrap64 (by omega) (by omega)
        have w4 : beginsF c ((dayR c t : Int) + 1) = some (begR c (dayR c t + 1)) := if_pos ⟨ho, by omega, by omega⟩
        have hle : ¬ begR c (dayR c t + 1) ≤ t := by omega
        refine VW.run good [] ?_; simp (implicitDefEqProofs := false) [enc_list, w2, w4, hle]
        exact ⟨2, [], by simp [enc_list], by simp, by simp, by simp (implicitDefEqProofs := false) [enc_list], by simp (implicitDefEqProofs := false) [enc_list]⟩
    · have w4 : beginsF c (dayR c t : Int) = some (begR c (dayR c t)) := if_pos ⟨ho, by omega, by omega⟩
      simp (implicitDefEqProofs := false); refine .ofCut hc (VW.run good [] ?_); simp (implicitDefEqProofs := false) [enc_list, w0, w1, w4, w5, w6, w7, w8, w9, w10, n1, n2, q3, q8, q9, hmin, spliceV, readR]
  · cases hr
def tickOfF (c : Cal) (r : Reading) : Option Int := if okC c = true then some (tickF c r) else none
theorem w_tickOf (hE : E.env.fn = G) : Ok E 66 (s2 tickOfF) := by
  refine ok2 fun c r a hr => ?_
  unfold tickOfF at hr
  split at hr
  · rename_i ho
    cases hr
    have o := okC_ok ho
    have d1 := o.d1
    have d2 := o.d2
    have h1 := o.h1
    have h2 := o.h2
    have m1 := o.m1
    have m2 := o.m2
    have s1 := o.s1
    have s2 := o.s2
    have w1 : IntKind.i64.wrap (c.Days - 1) = c.Days - 1 := wrap64 (by omega) (by omega)
    have w2 : IntKind.i64.wrap (c.Hours - 1) = c.Hours - 1 := wrap64 (by omega) (by omega)
    have w3 : IntKind.i64.wrap (c.Minutes - 1) = c.Minutes - 1 := wrap64 (by omega) (by omega)
    have good := goodV_cons (w_begins hE) (goodV_cons (w_seconds hE) (goodV_cons (w_Lies hE) goodV_nil))
    refine VP.run (A := F66) (good) [] (by rw [hE]; rfl) (by simp [F66]) ?_; unfold F66; simp (implicitDefEqProofs := false) [enc_list, w1, w2, w3]
    by_cases hd : wi r.Day 0 (c.Days - 1) = true
    · by_cases hh : wi r.Hour 0 (c.Hours - 1) = true
      · by_cases hm : wi r.Minute 0 (c.Minutes - 1) = true
        · obtain ⟨b1, b2⟩ := (wi_iff _ _ _).1 hh
          obtain ⟨b3, b4⟩ := (wi_iff _ _ _).1 hm
          obtain ⟨b5, b6⟩ := (wi_iff _ _ _).1 hd
          have g1 : 0 ≤ r.Hour * c.Minutes := Int.mul_nonneg b1 (by omega)
          have g2 : r.Hour * c.Minutes ≤ 24 * 60 := Int.mul_le_mul (by omega) (by omega) (by omega) (by omega)
          have w4 : IntKind.i64.wrap (r.Hour * c.Minutes) = r.Hour * c.Minutes := wrap64 (by omega) (by omega)
          have w5 : IntKind.i64.wrap (r.Hour * c.Minutes + r.Minute) = minOf c r := wrap64 (by omega) (by omega)
          have w6 : secsF c r.Day (minOf c r) = some (secsR c r.Day (minOf c r)) := if_pos ho
          have mb := o.mb r.Day
          have sb : secsR c r.Day (minOf c r) ≤ 61 ∧ 0 ≤ secsR c r.Day (minOf c r) := by unfold secsR; split <;> omega
          have w7 : IntKind.i64.wrap (secsR c r.Day (minOf c r) - 1) = secsR c r.Day (minOf c r) - 1 := wrap64 (by omega) (by omega)
          by_cases hs : wi r.Second 0 (secsR c r.Day (minOf c r) - 1) = true
          · have hv : validR c r = true := by unfold validR; rw [hd, hh, hm, hs]; rfl
            have hT : tickF c r = tickR c r := if_pos hv
            have w8 : beginsF c r.Day = some (begR c r.Day.toNat) := if_pos ⟨ho, by omega, by omega⟩
            have bb := begR_b o r.Day.toNat
            have bm : 0 ≤ minOf c r ∧ minOf c r ≤ 1600 := by unfold minOf; omega
            have g3 : 0 ≤ minOf c r * c.Seconds := Int.mul_nonneg bm.1 (by omega)
            have g4 : minOf c r * c.Seconds ≤ 1600 * 60 := Int.mul_le_mul (by omega) (by omega) (by omega) (by omega)
            obtain ⟨b7, b8⟩ := (wi_iff _ _ _).1 hs
            have w9 : IntKind.i64.wrap (minOf c r * c.Seconds) = minOf c r * c.Seconds := wrap64 (by omega) (by omega)
            have w10 : IntKind.i64.wrap (begR c r.Day.toNat + minOf c r * c.Seconds) = begR c r.Day.toNat + minOf c r * c.Seconds := wrap64 (by omega) (by omega)
            have w11 : IntKind.i64.wrap (begR c r.Day.toNat + minOf c r * c.Seconds + r.Second) = tickR c r := wrap64 (by omega) (by omega)
            simp (implicitDefEqProofs := false) [enc_list, w1, w2, w3, hd, hh, hm, w4, w5, w6, w7, hs, w8, w9, w10, w11, hT]
          · have hs : wi r.Second 0 (secsR c r.Day (minOf c r) - 1) = false := by simpa using hs
            have hv : tickF c r = -1 := if_neg (by unfold validR; rw [hs]; simp)
            simp (implicitDefEqProofs := false) [enc_list, w1, w2, w3, hd, hh, hm, w4, w5, w6, w7, hs, hv]
        · have hm : wi r.Minute 0 (c.Minutes - 1) = false := by simpa using hm
          have hv : tickF c r = -1 := if_neg (by unfold validR; rw [hm]; simp)
          simp (implicitDefEqProofs := false) [enc_list, w1, w2, w3, hd, hh, hm, hv]
      · have hh : wi r.Hour 0 (c.Hours - 1) = false := by simpa using hh
        have hv : tickF c r = -1 := if_neg (by unfold validR; rw [hh]; simp)
        simp (implicitDefEqProofs := false) [enc_list, w1, w2, w3, hd, hh, hv]
    · have hd : wi r.Day 0 (c.Days - 1) = false := by simpa using hd
      have hv : tickF c r = -1 := if_neg (by unfold validR; rw [hd]; simp)
      simp (implicitDefEqProofs := false) [enc_list, w1, w2, w3, hd, hv]
  · cases hr
end Go.RS.DC

/- Walks: the reference (3): what is told. -/
namespace Go.RS.DC
open Go Go.RS
open Go.RS.Enc (enc dec)
variable {E : VEnv}
/-- As many entries of two words as an input can bear. -/
abbrev LB : Nat := 8796093021952
theorem fits8L {n : Nat} (h : n ≤ 8796093021952) : fits n 8 = true := by simp [fits]; omega
abbrev sl1 (t : Nat) (out : List Int) : PV := .sl t out.length 0 out.length (openCap + 1) 1
theorem climbs_eq (n : Int) (h1 : 1 ≤ n) (h2 : n ≤ 10) : ∀ (l : List Decree) (a : Int), 0 ≤ a → climbsR n a (l.map (·.Day)) = climbD n a l
  | [], _, _ => rfl
  | x :: l, a, ha => by
    have w1 : IntKind.i64.wrap (n - 1) = n - 1 := wrap64 (by omega) (by omega)
    rw [List.map_cons, climbsR, climbD, w1]
    by_cases h : wi x.Day a (n - 1) = true
    · obtain ⟨g0, g⟩ := (wi_iff _ _ _).1 h
      have w2 : IntKind.i64.wrap (x.Day + 1) = x.Day + 1 := wrap64 (by omega) (by omega)
      rw [w2, climbs_eq n h1 h2 l (x.Day + 1) (by omega)]
    · have h : wi x.Day a (n - 1) = false := by simpa using h
      rw [h, Bool.false_and, Bool.false_and]
def checkF (c : Cal) : Option Int := if c.Decrees.length ≤ 8796093021952 then some (checkR c) else none
theorem check_of (c : Cal) : checkR c = if (headC c && climbsR c.Days 0 (c.Decrees.map (·.Day))) = true then 0 else 10 := by
  unfold checkR okC
  by_cases h : headC c = true
  · have hh := h
    simp only [headC, Bool.and_eq_true, wi_iff] at hh
    rw [climbs_eq c.Days (by omega) (by omega) _ _ (by omega)]
  · have h : headC c = false := by simpa using h
    rw [h, Bool.false_and, Bool.false_and]
theorem w_Check (hE : E.env.fn = G) : Ok E 19 (s1 checkF) := by
  refine ok1 fun c r hr => ?_
  unfold checkF at hr
  split at hr
  · rename_i hL
    cases hr
    have good := goodV_cons (w_Climbs hE) (goodV_cons (w_Lies hE) goodV_nil)
    have hlen10 : ((c.Decrees.length : Int) ≤ 10) = (c.Decrees.length ≤ 10) := by apply propext; omega
    generalize hD : c.Decrees.map (·.Day) = D
    have hDl : D.length = c.Decrees.length := by rw [← hD]; simp
    have hck := check_of c
    rw [hD] at hck
    refine VP.func (A := F19) (by rw [hE]; rfl) (by simp [F19]) ?_; unfold F19
    refine VW.seq (VW.run good [] ?_); simp (implicitDefEqProofs := false) [enc_list]
    refine VW.seq_cut [(1, .ptr 0 5 0), (3, .bool (headC c))] [clc c] (VW.run good [] ?_) ?_; simp (implicitDefEqProofs := false) [enc_list]
    · repeat' (first | (refine vstep_split (fun hb => ?_) (fun hb => ?_) <;> (try simp only [Bool.not_eq_eq_eq_not, Bool.not_true, Bool.not_false, decide_eq_true_eq, decide_eq_false_iff_not] at hb) <;> simp (implicitDefEqProofs := false) [hb, enc_list]) | (refine vcond_split (fun hb => ?_) (fun hb => ?_) <;> (try simp only [Bool.not_eq_eq_eq_not, Bool.not_true, Bool.not_false, decide_eq_true_eq, decide_eq_false_iff_not] at hb) <;> simp (implicitDefEqProofs := false) [hb, enc_list]))
      all_goals exact ⟨1, [], by simp [enc_list,  headC, hlen10, *], by simp, by simp, by simp (implicitDefEqProofs := false) [enc_list,  headC, hlen10, *], by simp (implicitDefEqProofs := false) [enc_list,  headC, hlen10, *]⟩
    refine VW.run good [] ?_; simp (implicitDefEqProofs := false) [enc_list]
    refine VW.declare 4 1 (by simp) ?_
    refine VW.run good [] ?_; simp (implicitDefEqProofs := false) [enc_list]
    refine VW.loop_to 0 [(1, .ptr 0 5 0), (3, .bool (headC c)), (4, sl1 1 D)] [clc c, .vec (encL D)] (True) ?_ (fun hp f m hc => ?_)
    · obtain ⟨Inv, hI⟩ : ∃ Inv : Nat → List (Nat × PV) → VM → Prop, ∀ k f m, Inv k f m ↔ (∃ out : List Int, f = [(1, .ptr 0 5 0), (3, .bool (headC c)), (4, sl1 1 out), (5, .int .i64 k)] ∧ m = [clc c, .vec (encL out)] ∧ out.length = k ∧ D = out ++ (c.Decrees.drop k).map (·.Day)) := ⟨_, fun _ _ _ => Iff.rfl⟩
      refine VW.loop_cut Inv c.Decrees.length ?_ ?_ ?_
      · exact ⟨_, _, (hI _ _ _).2 ⟨[], rfl, rfl, rfl, hD.symm⟩, ⟨2, [], by simp [enc_list], by simp, by simp, by simp (implicitDefEqProofs := false) [enc_list], by simp (implicitDefEqProofs := false) [enc_list]⟩⟩
      · intro k f m hk hi
        obtain ⟨out, rfl, rfl, hl, hs⟩ := (hI _ _ _).1 hi
        have w1 : IntKind.i64.wrap ((k : Int) + 1) = k + 1 := wrap64 (by omega) (by omega)
        have hf : fits (out.length + 1) 8 = true := fits8L (by omega)
        rw [List.drop_eq_getElem_cons hk, List.map_cons] at hs
        refine VW.run good [] ?_; simp (implicitDefEqProofs := false) [enc_list, hk, get_Decree c.Decrees k hk, hf, w1, spliceV]
        have e1 : (out ++ [c.Decrees[k].Day]).length = out.length + 1 := by simp
        exact ⟨_, _, (hI _ _ _).2 ⟨out ++ [c.Decrees[k].Day], rfl, rfl, by rw [e1]; omega, by rw [hs]; simp⟩, ⟨2, [], by simp [enc_list,  e1], by simp, by simp, by simp (implicitDefEqProofs := false) [enc_list,  e1], by simp (implicitDefEqProofs := false) [enc_list,  e1]⟩⟩
      · intro f m hi
        obtain ⟨out, rfl, rfl, hl, hs⟩ := (hI _ _ _).1 hi
        rw [List.drop_length, List.map_nil, List.append_nil] at hs
        subst hs
        refine VW.run good [] ?_; simp (implicitDefEqProofs := false) [enc_list]
        exact ⟨2, [], by simp [enc_list], by simp, by simp, by simp (implicitDefEqProofs := false) [enc_list], by simp (implicitDefEqProofs := false) [enc_list]⟩
    · simp (implicitDefEqProofs := false); refine .ofCut hc (VW.run good [] ?_); simp (implicitDefEqProofs := false) [enc_list]
      cases hh : headC c
      · rw [hh] at hck
        simp (implicitDefEqProofs := false) [enc_list, hck]
      · rw [hh, Bool.true_and] at hck
        cases hcl : climbsR c.Days 0 D
        · rw [hcl] at hck
          simp (implicitDefEqProofs := false) [enc_list, hcl, hck]
        · rw [hcl] at hck
          simp (implicitDefEqProofs := false) [enc_list, hcl, hck]
  · cases hr
end Go.RS.DC

/- Walks: the reference (4): what is told. -/
namespace Go.RS.DC
open Go Go.RS
open Go.RS.Enc (enc dec)
variable {E : VEnv}
def lim {α : Type} (c : Cal) (x : α) : Option α := if c.Decrees.length ≤ 8796093021952 then some x else none
theorem checkF_ok {c : Cal} (hL : c.Decrees.length ≤ 8796093021952) (ho : okC c = true) : checkF c = some 0 := by unfold checkF checkR; rw [if_pos hL, if_pos ho]
theorem checkF_no {c : Cal} (hL : c.Decrees.length ≤ 8796093021952) (ho : okC c = false) : checkF c = some 10 := by unfold checkF checkR; rw [if_pos hL, if_neg (by simp [ho])]
theorem w_LengthR (hE : E.env.fn = G) : Ok E 17 (s2 fun c d => lim c (LengthR c d)) := by
  refine ok2 fun c d r hr => ?_
  unfold lim at hr
  split at hr
  · rename_i hL
    cases hr
    have good := goodV_cons (w_Check hE) (goodV_cons (w_length hE) (goodV_cons (w_Lies hE) goodV_nil))
    cases ho : okC c
    · refine VP.run (A := F17) (good) [] (by rw [hE]; rfl) (by simp [F17]) ?_; unfold F17; simp (implicitDefEqProofs := false) [enc_list, checkF_no hL ho, LengthR, ho]
    · have o := okC_ok ho
      have d1 := o.d1
      have d2 := o.d2
      have w1 : IntKind.i64.wrap (c.Days - 1) = c.Days - 1 := wrap64 (by omega) (by omega)
      have w2 : lengthF c d = some (lenR c d) := if_pos ho
      cases hd : wi d 0 (c.Days - 1)
      · refine VP.run (A := F17) (good) [] (by rw [hE]; rfl) (by simp [F17]) ?_; unfold F17; simp (implicitDefEqProofs := false) [enc_list, checkF_ok hL ho, LengthR, ho, w1, hd]
      · refine VP.run (A := F17) (good) [] (by rw [hE]; rfl) (by simp [F17]) ?_; unfold F17; simp (implicitDefEqProofs := false) [enc_list, checkF_ok hL ho, LengthR, ho, w1, hd, w2]
  · cases hr
theorem w_TotalR (hE : E.env.fn = G) : Ok E 21 (s1 fun c => lim c (TotalR c)) := by
  refine ok1 fun c r hr => ?_
  unfold lim at hr
  split at hr
  · rename_i hL
    cases hr
    have good := goodV_cons (w_Check hE) (goodV_cons (w_begins hE) goodV_nil)
    cases ho : okC c
    · refine VP.run (A := F21) (good) [] (by rw [hE]; rfl) (by simp [F21]) ?_; unfold F21; simp (implicitDefEqProofs := false) [enc_list, checkF_no hL ho, TotalR, ho]
    · refine VP.run (A := F21) (good) [] (by rw [hE]; rfl) (by simp [F21]) ?_; unfold F21; simp (implicitDefEqProofs := false) [enc_list, checkF_ok hL ho, TotalR, ho, days_begins ho]
  · cases hr
theorem w_ReadingR (hE : E.env.fn = G) : Ok E 23 (s2 fun c t => lim c (ReadingR c t)) := by
  refine ok2 fun c t r hr => ?_
  unfold lim at hr
  split at hr
  · rename_i hL
    cases hr
    have good := goodV_cons (w_Check hE) (goodV_cons (w_isTick hE) (goodV_cons (w_reading hE) goodV_nil))
    cases ho : okC c
    · refine VP.run (A := F23) (good) [] (by rw [hE]; rfl) (by simp [F23]) ?_; unfold F23; simp (implicitDefEqProofs := false) [enc_list, checkF_no hL ho, ReadingR, ho, zeroRd, spliceV]
    · have w1 : isTickF c t = some (wi t 0 (allR c - 1)) := if_pos ho
      cases hd : wi t 0 (allR c - 1)
      · refine VP.run (A := F23) (good) [] (by rw [hE]; rfl) (by simp [F23]) ?_; unfold F23; simp (implicitDefEqProofs := false) [enc_list, checkF_ok hL ho, ReadingR, ho, w1, hd, zeroRd, spliceV]
      · have w2 : readF c t = some (readR c t) := by
          obtain ⟨g1, g2⟩ := (wi_iff _ _ _).1 hd
          exact if_pos ⟨ho, by omega, by omega⟩
        refine VP.run (A := F23) (good) [] (by rw [hE]; rfl) (by simp [F23]) ?_; unfold F23; simp (implicitDefEqProofs := false) [enc_list, checkF_ok hL ho, ReadingR, ho, w1, hd, w2, spliceV]
  · cases hr
theorem w_TickR (hE : E.env.fn = G) : Ok E 25 (s2 fun c r => lim c (TickR c r)) := by
  refine ok2 fun c x r hr => ?_
  unfold lim at hr
  split at hr
  · rename_i hL
    cases hr
    have good := goodV_cons (w_Check hE) (goodV_cons (w_tickOf hE) goodV_nil)
    cases ho : okC c
    · refine VP.run (A := F25) (good) [] (by rw [hE]; rfl) (by simp [F25]) ?_; unfold F25; simp (implicitDefEqProofs := false) [enc_list, checkF_no hL ho, TickR, ho]
    · have w1 : tickOfF c x = some (tickF c x) := if_pos ho
      cases hv : validR c x
      · have w2 : tickF c x = -1 := by unfold tickF; rw [hv]; simp
        refine VP.run (A := F25) (good) [] (by rw [hE]; rfl) (by simp [F25]) ?_; unfold F25; simp (implicitDefEqProofs := false) [enc_list, checkF_ok hL ho, TickR, ho, w1, w2, hv]
      · have w2 : tickF c x = tickR c x := by unfold tickF; rw [hv]; simp
        have w3 := (tick_read (okC_ok ho) hv).1
        refine VP.run (A := F25) (good) [] (by rw [hE]; rfl) (by simp [F25]) ?_; unfold F25; simp (implicitDefEqProofs := false) [enc_list, checkF_ok hL ho, TickR, ho, w1, w2, hv, w3]
  · cases hr
end Go.RS.DC

/- Walks: the reference (5): towns. -/
namespace Go.RS.DC
open Go Go.RS
open Go.RS.Enc (enc dec)
variable {E : VEnv}
theorem tickR_b {c : Cal} {r : Reading} (h : (TickR c r).2 = 0) : 0 ≤ (TickR c r).1 ∧ (TickR c r).1 ≤ 864010 := by
  unfold TickR at h ⊢
  split at h
  · rename_i ho
    rw [if_pos ho]
    split at h
    · rename_i hv
      rw [if_pos hv]
      have o := okC_ok ho
      have := tick_read o hv
      have := allR_b o
      simp only
      omega
    · cases h
  · cases h
theorem w_ApartR (hE : E.env.fn = G) : Ok E 28 (s3 fun c a b => lim c (ApartR c a b)) := by
  refine ok3 fun c a b r hr => ?_
  unfold lim at hr
  split at hr
  · rename_i hL
    cases hr
    have good := goodV_cons (w_TickR hE) goodV_nil
    have e : ∀ x, lim c (TickR c x) = some (TickR c x) := fun x => if_pos hL
    have b1 := tickR_b (c := c) (r := a)
    have b2 := tickR_b (c := c) (r := b)
    unfold ApartR
    obtain ⟨⟨A1, A2⟩, hA⟩ : ∃ A, TickR c a = A := ⟨_, rfl⟩
    obtain ⟨⟨B1, B2⟩, hB⟩ : ∃ B, TickR c b = B := ⟨_, rfl⟩
    have eA := (e a).trans (congrArg some hA)
    have eB := (e b).trans (congrArg some hB)
    rw [hA] at b1
    rw [hB] at b2
    rw [hA, hB]
    by_cases h1 : A2 = 0
    · by_cases h2 : B2 = 0
      · have b1 := b1 h1
        have b2 := b2 h2
        simp only at b1 b2
        have w : IntKind.i64.wrap (B1 - A1) = B1 - A1 := wrap64 (by omega) (by omega)
        refine VP.run (A := F28) (good) [] (by rw [hE]; rfl) (by simp [F28]) ?_; unfold F28; simp (implicitDefEqProofs := false) [enc_list, eA, eB, h1, h2, w]
      · refine VP.run (A := F28) (good) [] (by rw [hE]; rfl) (by simp [F28]) ?_; unfold F28; simp (implicitDefEqProofs := false) [enc_list, eA, eB, h1, h2]
    · refine VP.run (A := F28) (good) [] (by rw [hE]; rfl) (by simp [F28]) ?_; unfold F28; simp (implicitDefEqProofs := false) [enc_list, eA, eB, h1]
  · cases hr
theorem w_aheadR (hE : E.env.fn = G) : Ok E 71 (s2 fun (t : Town) (k : Int) => some (aheadL t.Ahead t.Changes k)) := by
  refine ok2 fun t n r hr => ?_
  cases hr
  refine VP.bound fun hb => ?_
  simp [enc_list] at hb
  generalize hT : aheadL t.Ahead t.Changes n = T
  refine VP.run (A := F71) (goodV_nil) [] (by rw [hE]; rfl) (by simp [F71]) ?_; unfold F71; simp (implicitDefEqProofs := false) [enc_list]
  refine VW.loop_to 0 [(5, .int .i64 T)] [] (True) ?_ (fun hp f m hc => ?_)
  · obtain ⟨Inv, hI⟩ : ∃ Inv : Nat → List (Nat × PV) → VM → Prop, ∀ k f m, Inv k f m ↔ (∃ a : Int, f = [(1, .int .i64 n), (2, .ptr 0 2 0), (5, .int .i64 a), (6, .int .i64 k)] ∧ m = [.cells [enc t.Ahead, enc t.Changes]] ∧ T = aheadL a (t.Changes.drop k) n) := ⟨_, fun _ _ _ => Iff.rfl⟩
    refine VW.loop_cut Inv t.Changes.length ?_ ?_ ?_
    · exact ⟨_, _, (hI _ _ _).2 ⟨_, rfl, rfl, hT.symm⟩, ⟨1, [], by simp [enc_list], by simp, by simp, by simp (implicitDefEqProofs := false) [enc_list], by simp (implicitDefEqProofs := false) [enc_list]⟩⟩
    · intro k f m hk hi
      obtain ⟨a, rfl, rfl, hs⟩ := (hI _ _ _).1 hi
      have w1 : IntKind.i64.wrap ((k : Int) + 1) = k + 1 := wrap64 (by omega) (by omega)
      rw [List.drop_eq_getElem_cons hk, aheadL] at hs
      by_cases hx : t.Changes[k].Tick ≤ n
      · rw [if_pos hx] at hs
        refine VW.run goodV_nil [] ?_; simp (implicitDefEqProofs := false) [enc_list, hk, get_Change t.Changes k hk, w1, hx]
        exact ⟨_, _, (hI _ _ _).2 ⟨_, rfl, rfl, hs⟩, ⟨1, [], by simp [enc_list], by simp, by simp, by simp (implicitDefEqProofs := false) [enc_list], by simp (implicitDefEqProofs := false) [enc_list]⟩⟩
      · rw [if_neg hx] at hs
        refine VW.run goodV_nil [] ?_; simp (implicitDefEqProofs := false) [enc_list, hk, get_Change t.Changes k hk, w1, hx]
        exact ⟨_, _, (hI _ _ _).2 ⟨_, rfl, rfl, hs⟩, ⟨1, [], by simp [enc_list], by simp, by simp, by simp (implicitDefEqProofs := false) [enc_list], by simp (implicitDefEqProofs := false) [enc_list]⟩⟩
    · intro f m hi
      obtain ⟨a, rfl, rfl, hs⟩ := (hI _ _ _).1 hi
      rw [List.drop_length, aheadL] at hs
      subst hs
      refine VW.run goodV_nil [] ?_; simp (implicitDefEqProofs := false) [enc_list]
      exact ⟨0, [], by simp [enc_list], by simp, by simp, by simp (implicitDefEqProofs := false) [enc_list], by simp (implicitDefEqProofs := false) [enc_list]⟩
  · simp (implicitDefEqProofs := false); refine .ofCut hc (VW.run goodV_nil [] ?_); simp (implicitDefEqProofs := false) [enc_list]
def CheckF (c : Cal) (t : Town) : Option Int := lim c (CheckTownR c t)
theorem wi_chg {x last all : Int} (h : 0 ≤ last) : wi x (last + 1) (all - 1) = (decide (last < x) && wi x 0 (all - 1)) := by
  rw [Bool.eq_iff_iff]
  simp only [Bool.and_eq_true, wi_iff, decide_eq_true_eq]
  omega
theorem w_CheckTownR (hE : E.env.fn = G) : Ok E 34 (s2 CheckF) := by
  refine ok2 fun c t r hr => ?_
  unfold CheckF lim at hr
  split at hr
  · rename_i hL
    cases hr
    refine VP.bound fun hb => ?_
    simp [enc_list] at hb
    have good := goodV_cons (w_Check hE) (goodV_cons (w_isTick hE) (goodV_cons (w_Lies hE) goodV_nil))
    cases ho : okC c
    · refine VP.run (A := F34) (good) [] (by rw [hE]; rfl) (by simp [F34]) ?_; unfold F34; simp (implicitDefEqProofs := false) [enc_list, checkF_no hL ho, CheckTownR, ho]
    · have w2 : ∀ x, isTickF c x = some (wi x 0 (allR c - 1)) := fun x => if_pos ho
      have hck : CheckTownR c t = if okT c t = true then 0 else 12 := by unfold CheckTownR; rw [ho]; rfl
      generalize hT : okT c t = T at hck
      refine VP.func (A := F34) (by rw [hE]; rfl) (by simp [F34]) ?_; unfold F34
      refine VW.seq (VW.run good [] ?_); simp (implicitDefEqProofs := false) [enc_list]
      refine VW.seq (VW.run good [] ?_); simp (implicitDefEqProofs := false) [enc_list, checkF_ok hL ho]
      refine VW.seq_cut [(2, .ptr 0 5 0), (3, .ptr 1 2 0), (6, .bool (wi t.Ahead (-1440) 1440 && decide (t.Changes.length ≤ 6)))] [clc c, .cells [enc t.Ahead, enc t.Changes]] (VW.run good [] ?_) ?_; simp (implicitDefEqProofs := false) [enc_list]
      · have h6 : ((t.Changes.length : Int) ≤ 6) = (t.Changes.length ≤ 6) := by apply propext; omega
        cases h1 : wi t.Ahead (-1440) 1440
        · simp (implicitDefEqProofs := false) [enc_list, h1]
          exact ⟨2, [], by simp [enc_list], by simp, by simp, by simp (implicitDefEqProofs := false) [enc_list], by simp (implicitDefEqProofs := false) [enc_list]⟩
        · simp (implicitDefEqProofs := false) [enc_list, h1]
          exact ⟨2, [], by simp [enc_list,  h6], by simp, by simp, by simp (implicitDefEqProofs := false) [enc_list,  h6], by simp (implicitDefEqProofs := false) [enc_list,  h6]⟩
      refine VW.run good [] ?_; simp (implicitDefEqProofs := false) [enc_list]
      refine VW.loop_to 0 [(6, .bool T)] [] (True) ?_ (fun hp f m hc => ?_)
      · obtain ⟨Inv, hI⟩ : ∃ Inv : Nat → List (Nat × PV) → VM → Prop, ∀ k f m, Inv k f m ↔ (∃ (s : Bool) (last : Int), f = [(2, .ptr 0 5 0), (3, .ptr 1 2 0), (6, .bool s), (7, .int .i64 last), (8, .int .i64 k)] ∧ m = [clc c, .cells [enc t.Ahead, enc t.Changes]] ∧ T = (s && chgOk (allR c) last (t.Changes.drop k)) ∧ (s = true → 0 ≤ last)) := ⟨_, fun _ _ _ => Iff.rfl⟩
        refine VW.loop_cut Inv t.Changes.length ?_ ?_ ?_
        · exact ⟨_, _, (hI _ _ _).2 ⟨_, 0, rfl, rfl, by rw [← hT]; rfl, fun _ => Int.le_refl _⟩, ⟨2, [], by simp [enc_list], by simp, by simp, by simp (implicitDefEqProofs := false) [enc_list], by simp (implicitDefEqProofs := false) [enc_list]⟩⟩
        · intro k f m hk hi
          obtain ⟨s, last, rfl, rfl, hs, h0⟩ := (hI _ _ _).1 hi
          have w1 : IntKind.i64.wrap ((k : Int) + 1) = k + 1 := wrap64 (by omega) (by omega)
          rw [List.drop_eq_getElem_cons hk, chgOk] at hs
          cases s
          · rw [Bool.false_and] at hs
            refine VW.run good [] ?_; simp (implicitDefEqProofs := false) [enc_list]
            exact ⟨0, [], by simp [enc_list,  hs], by simp, by simp, by simp (implicitDefEqProofs := false) [enc_list,  hs], by simp (implicitDefEqProofs := false) [enc_list,  hs]⟩
          · have h0 := h0 rfl
            rw [wi_chg h0, Bool.true_and] at hs
            by_cases h1 : last < t.Changes[k].Tick
            · cases h2 : wi t.Changes[k].Tick 0 (allR c - 1)
              · refine VW.run good [] ?_; simp (implicitDefEqProofs := false) [enc_list, hk, get_Change t.Changes k hk, w1, h1, w2, h2, spliceV]
                simp only [h1, h2, decide_true, Bool.true_and, Bool.false_and] at hs
                refine ⟨_, _, (hI _ _ _).2 ⟨false, t.Changes[k].Tick, rfl, rfl, hs, fun hx => by cases hx⟩, ⟨2, [], by simp [enc_list], by simp, by simp, by simp (implicitDefEqProofs := false) [enc_list], by simp (implicitDefEqProofs := false) [enc_list]⟩⟩
              · refine VW.run good [] ?_; simp (implicitDefEqProofs := false) [enc_list, hk, get_Change t.Changes k hk, w1, h1, w2, h2, spliceV]
                have h3 := (wi_iff _ _ _).1 h2
                simp only [h1, h2, decide_true, Bool.true_and] at hs
                exact ⟨_, _, (hI _ _ _).2 ⟨wi t.Changes[k].Ahead (-1440) 1440, t.Changes[k].Tick, rfl, rfl, hs, fun _ => h3.1⟩, ⟨2, [], by simp [enc_list], by simp, by simp, by simp (implicitDefEqProofs := false) [enc_list], by simp (implicitDefEqProofs := false) [enc_list]⟩⟩
            · refine VW.run good [] ?_; simp (implicitDefEqProofs := false) [enc_list, hk, get_Change t.Changes k hk, w1, h1, w2, spliceV]
              simp only [h1, decide_false, Bool.false_and] at hs
              exact ⟨_, _, (hI _ _ _).2 ⟨false, t.Changes[k].Tick, rfl, rfl, hs, fun hx => by cases hx⟩, ⟨2, [], by simp [enc_list], by simp, by simp, by simp (implicitDefEqProofs := false) [enc_list], by simp (implicitDefEqProofs := false) [enc_list]⟩⟩
        · intro f m hi
          obtain ⟨s, last, rfl, rfl, hs, h0⟩ := (hI _ _ _).1 hi
          rw [List.drop_length, chgOk, Bool.and_true] at hs
          subst hs
          cases T
          · refine VW.run good [] ?_; simp (implicitDefEqProofs := false) [enc_list]; exact ⟨0, [], by simp [enc_list], by simp, by simp, by simp (implicitDefEqProofs := false) [enc_list], by simp (implicitDefEqProofs := false) [enc_list]⟩
          · refine VW.run good [] ?_; simp (implicitDefEqProofs := false) [enc_list]; exact ⟨0, [], by simp [enc_list], by simp, by simp, by simp (implicitDefEqProofs := false) [enc_list], by simp (implicitDefEqProofs := false) [enc_list]⟩
      · simp (implicitDefEqProofs := false); refine .ofCut hc (VW.run good [] ?_); simp (implicitDefEqProofs := false) [enc_list]
        cases T <;> simp (implicitDefEqProofs := false) [enc_list, hck]
  · cases hr
/-! ### Readings moved -/
def rdOk (r : Reading) : Prop := -100000 ≤ r.Day ∧ r.Day ≤ 100000 ∧ 0 ≤ r.Hour ∧ r.Hour ≤ 100 ∧ 0 ≤ r.Minute ∧ r.Minute ≤ 100
instance (r : Reading) : Decidable (rdOk r) := by unfold rdOk; infer_instance
def movedF (c : Cal) (r : Reading) (n : Int) : Option Reading := if okC c = true ∧ rdOk r ∧ -100000 ≤ n ∧ n ≤ 100000 then some (movedR c r n) else none
theorem thru_ok {c : Cal} (o : CalOk c) {r : Reading} (h : rdOk r) : -144000000 ≤ r.Day * c.Hours * 60 ∧ -2400000 ≤ r.Day * c.Hours ∧ r.Day * c.Hours ≤ 2400000 ∧ -144000000 ≤ (r.Day * c.Hours + r.Hour) * c.Minutes ∧ (r.Day * c.Hours + r.Hour) * c.Minutes ≤ 144006000 := by
  obtain ⟨h1, h2, h3, h4, h5, h6⟩ := h
  have a1 := o.h1
  have a2 := o.h2
  have a3 := o.m1
  have a4 := o.m2
  have g1 : -100000 * c.Hours ≤ r.Day * c.Hours := Int.mul_le_mul_of_nonneg_right h1 (by omega)
  have g2 : r.Day * c.Hours ≤ 100000 * c.Hours := Int.mul_le_mul_of_nonneg_right h2 (by omega)
  have g3 : -2400000 * c.Minutes ≤ (r.Day * c.Hours + r.Hour) * c.Minutes := Int.mul_le_mul_of_nonneg_right (by omega) (by omega)
  have g4 : (r.Day * c.Hours + r.Hour) * c.Minutes ≤ 2400100 * c.Minutes := Int.mul_le_mul_of_nonneg_right (by omega) (by omega)
  omega
theorem w_movedR (hE : E.env.fn = G) : Ok E 70 (s3 movedF) := by
  refine ok3 fun c r n a hr => ?_
  unfold movedF at hr
  split at hr
  · rename_i hc
    cases hr
    obtain ⟨ho, hrd, n1, n2⟩ := hc
    have o := okC_ok ho
    have a1 := o.h1
    have a2 := o.h2
    have a3 := o.m1
    have a4 := o.m2
    obtain ⟨_, g1, g2, g3, g4⟩ := thru_ok o hrd
    obtain ⟨h1, h2, h3, h4, h5, h6⟩ := hrd
    have w1 : IntKind.i64.wrap (r.Day * c.Hours) = r.Day * c.Hours := wrap64 (by omega) (by omega)
    have w2 : IntKind.i64.wrap (r.Day * c.Hours + r.Hour) = r.Day * c.Hours + r.Hour := wrap64 (by omega) (by omega)
    have w3 : IntKind.i64.wrap ((r.Day * c.Hours + r.Hour) * c.Minutes) = (r.Day * c.Hours + r.Hour) * c.Minutes := wrap64 (by omega) (by omega)
    have w4 : IntKind.i64.wrap ((r.Day * c.Hours + r.Hour) * c.Minutes + r.Minute) = thruR c r := wrap64 (by omega) (by omega)
    have ht : -200000000 ≤ thruR c r ∧ thruR c r ≤ 200000000 := by unfold thruR; omega
    have w5 : IntKind.i64.wrap (thruR c r + n) = thruR c r + n := wrap64 (by omega) (by omega)
    have q := div_bounds (thruR c r + n) c.Minutes (by omega) (by omega) (by omega)
    have f1 : floorF (thruR c r + n) c.Minutes = some ((thruR c r + n) / c.Minutes) := if_pos ⟨by omega, by omega, by omega, by omega⟩
    have f2 : floorF ((thruR c r + n) / c.Minutes) c.Hours = some ((thruR c r + n) / c.Minutes / c.Hours) := if_pos ⟨by omega, by omega, q.1, q.2⟩
    have f3 : restF ((thruR c r + n) / c.Minutes) c.Hours = some ((thruR c r + n) / c.Minutes % c.Hours) := if_pos ⟨by omega, by omega⟩
    have f4 : restF (thruR c r + n) c.Minutes = some ((thruR c r + n) % c.Minutes) := if_pos ⟨by omega, by omega⟩
    refine VP.run (A := F70) ((goodV_cons (w_Floor hE) (goodV_cons (w_Rest hE) goodV_nil))) [] (by rw [hE]; rfl) (by simp [F70]) ?_; unfold F70; simp (implicitDefEqProofs := false) [enc_list, w1, w2, w3, w4, w5, f1, f2, f3, f4, spliceV, movedR, ofThru]
  · cases hr
def prop2 (c : Cal) (r : Reading) : Bool := properR c r && wi r.Day (-2000) 2000
def properF (c : Cal) (r : Reading) : Option Bool := if okC c = true then some (prop2 c r) else none
theorem w_proper (hE : E.env.fn = G) : Ok E 89 (s2 properF) := by
  refine ok2 fun c r a hr => ?_
  unfold properF at hr
  split at hr
  · rename_i ho
    cases hr
    have o := okC_ok ho
    have h1 := o.h1
    have h2 := o.h2
    have m1 := o.m1
    have m2 := o.m2
    have w2 : IntKind.i64.wrap (c.Hours - 1) = c.Hours - 1 := wrap64 (by omega) (by omega)
    have w3 : IntKind.i64.wrap (c.Minutes - 1) = c.Minutes - 1 := wrap64 (by omega) (by omega)
    have good := goodV_cons (w_Lies hE) goodV_nil
    unfold prop2 properR
    cases hh : wi r.Hour 0 (c.Hours - 1)
    · refine VP.run (A := F89) (good) [] (by rw [hE]; rfl) (by simp [F89]) ?_; unfold F89; simp (implicitDefEqProofs := false) [enc_list, w2, w3, hh]
    · cases hm : wi r.Minute 0 (c.Minutes - 1)
      · refine VP.run (A := F89) (good) [] (by rw [hE]; rfl) (by simp [F89]) ?_; unfold F89; simp (implicitDefEqProofs := false) [enc_list, w2, w3, hh, hm]
      · refine VP.run (A := F89) (good) [] (by rw [hE]; rfl) (by simp [F89]) ?_; unfold F89; simp (implicitDefEqProofs := false) [enc_list, w2, w3, hh, hm]
  · cases hr
def limT {α : Type} (c : Cal) (x : α) : Option α := lim c x
theorem w_LocalR (hE : E.env.fn = G) : Ok E 32 (s3 fun c t k => lim c (LocalR c t k)) := by
  refine ok3 fun c t k r hr => ?_
  unfold lim at hr
  split at hr
  · rename_i hL
    cases hr
    have good := goodV_cons (w_CheckTownR hE) (goodV_cons (w_isTick hE) (goodV_cons (w_reading hE) (goodV_cons (w_aheadR hE) (goodV_cons (w_movedR hE) goodV_nil))))
    have e : CheckF c t = some (CheckTownR c t) := if_pos hL
    by_cases h0 : CheckTownR c t = 0
    · obtain ⟨ho, hto⟩ := checkTown_zero h0
      have o := okC_ok ho
      have ot := okT_ok hto
      have w1 : isTickF c k = some (wi k 0 (allR c - 1)) := if_pos ho
      cases hd : wi k 0 (allR c - 1)
      · refine VP.run (A := F32) (good) [] (by rw [hE]; rfl) (by simp [F32]) ?_; unfold F32; simp (implicitDefEqProofs := false) [enc_list, e, h0, LocalR, w1, hd, zeroRd, spliceV]
      · obtain ⟨g1, g2⟩ := (wi_iff _ _ _).1 hd
        have w2 : readF c k = some (readR c k) := if_pos ⟨ho, by omega, by omega⟩
        have hb := ot.ab k
        have hv := (read_valid o g1 (by omega)).1
        have hrd : rdOk (readR c k) := by
          simp only [validR, Bool.and_eq_true, wi_iff] at hv
          have a1 := o.h2
          have a2 := o.m2
          have a3 := o.d2
          unfold rdOk; omega
        have w3 : movedF c (readR c k) (aheadL t.Ahead t.Changes k) = some (localR c t k) := if_pos ⟨ho, hrd, by omega, by omega⟩
        refine VP.run (A := F32) (good) [] (by rw [hE]; rfl) (by simp [F32]) ?_; unfold F32; simp (implicitDefEqProofs := false) [enc_list, e, h0, LocalR, w1, hd, w2, w3, spliceV]
    · refine VP.run (A := F32) (good) [] (by rw [hE]; rfl) (by simp [F32]) ?_; unfold F32; simp (implicitDefEqProofs := false) [enc_list, e, h0, LocalR, zeroRd, spliceV]
  · cases hr
end Go.RS.DC

/- Walks: the reference (6): the next tick; all ticks of a reading. -/
namespace Go.RS.DC
open Go Go.RS
open Go.RS.Enc (enc dec)
variable {E : VEnv}
theorem w_NextR (hE : E.env.fn = G) : Ok E 30 (s3 fun c t each => lim c (NextR c t each)) := by
  refine ok3 fun c t each r hr => ?_
  unfold lim at hr
  split at hr
  · rename_i hL
    cases hr
    have good := goodV_cons (w_Check hE) (goodV_cons (w_isTick hE) (goodV_cons (w_reading hE) (goodV_cons (w_Lies hE) goodV_nil)))
    cases ho : okC c
    · refine VP.run (A := F30) (good) [] (by rw [hE]; rfl) (by simp [F30]) ?_; unfold F30; simp (implicitDefEqProofs := false) [enc_list, checkF_no hL ho, NextR, ho]
    · have o := okC_ok ho
      have ab := allR_b o
      have w2 : ∀ x, isTickF c x = some (wi x 0 (allR c - 1)) := fun x => if_pos ho
      cases h1 : wi t 0 (allR c - 1)
      · refine VP.run (A := F30) (good) [] (by rw [hE]; rfl) (by simp [F30]) ?_; unfold F30; simp (implicitDefEqProofs := false) [enc_list, checkF_ok hL ho, NextR, ho, w2, h1]
      · cases h2 : wi each 1 60
        · refine VP.run (A := F30) (good) [] (by rw [hE]; rfl) (by simp [F30]) ?_; unfold F30; simp (implicitDefEqProofs := false) [enc_list, checkF_ok hL ho, NextR, ho, w2, h1, h2]
        · obtain ⟨t0, t1⟩ := (wi_iff _ _ _).1 h1
          obtain ⟨e0, e1⟩ := (wi_iff _ _ _).1 h2
          have hN : NextR c t each = nextL c each (allR c - t).toNat t := by unfold NextR; rw [ho, h1, h2]; rfl
          generalize hT : nextL c each (allR c - t).toNat t = T at hN
          rw [hN]
          obtain ⟨N, hNN⟩ : ∃ N : Nat, (allR c - t).toNat = N := ⟨_, rfl⟩
          have hNt : t + (N : Int) = allR c := by omega
          rw [hNN] at hT
          refine VP.run (A := F30) (good) [] (by rw [hE]; rfl) (by simp [F30]) ?_; unfold F30; simp (implicitDefEqProofs := false) [enc_list, checkF_ok hL ho, ho, w2, h1, h2]
          refine VW.loop_to 0 [] [] (T = (0, 4)) ?_ (fun hp f m hc => ?_)
          · obtain ⟨Inv, hI⟩ : ∃ Inv : Nat → List (Nat × PV) → VM → Prop, ∀ k f m, Inv k f m ↔ (f = [(2, .int .i64 each), (3, .ptr 0 5 0), (9, .int .i64 (t + k))] ∧ m = [clc c] ∧ T = nextL c each (N - k) (t + k)) := ⟨_, fun _ _ _ => Iff.rfl⟩
            refine VW.loop_cut Inv N ?_ ?_ ?_
            · exact ⟨_, _, (hI _ _ _).2 ⟨rfl, rfl, by simpa using hT.symm⟩, ⟨1, [], by simp [enc_list], by simp, by simp, by simp (implicitDefEqProofs := false) [enc_list], by simp (implicitDefEqProofs := false) [enc_list]⟩⟩
            · intro k f m hk hi
              obtain ⟨rfl, rfl, hs⟩ := (hI _ _ _).1 hi
              rw [show N - k = N - (k + 1) + 1 by omega, nextL] at hs
              have w1 : IntKind.i64.wrap (t + k + 1) = t + ((k : Nat) + 1) := by rw [Int.add_assoc]; exact wrap64 (by omega) (by omega)
              have h3 : wi (t + k) 0 (allR c - 1) = true := (wi_iff _ _ _).2 (by omega)
              have w3 : readF c (t + k) = some (readR c (t + k)) := if_pos ⟨ho, by omega, by omega⟩
              have hv := (read_valid o (t := t + k) (by omega) (by omega)).1
              simp only [validR, Bool.and_eq_true, wi_iff] at hv
              have h4 : (readR c (t + k)).Second.tmod each = (readR c (t + k)).Second % each := Int.tmod_eq_emod_of_nonneg hv.2.1
              have h5 := Int.emod_nonneg (readR c (t + k)).Second (show each ≠ 0 by omega)
              have h6 := Int.emod_lt_of_pos (readR c (t + k)).Second (show 0 < each by omega)
              have h7 : each ≠ 0 := by omega
              have w4 : IntKind.i64.wrap ((readR c (t + k)).Second % each) = (readR c (t + k)).Second % each := wrap64 (by omega) (by omega)
              by_cases hz : (readR c (t + k)).Second % each = 0
              · rw [if_pos hz] at hs
                refine VW.run good [] ?_; simp (implicitDefEqProofs := false) [enc_list, w1, w2, h3, w3, h4, h7, w4, hz, hs]
              · rw [if_neg hz] at hs
                refine VW.run good [] ?_; simp (implicitDefEqProofs := false) [enc_list, w1, w2, h3, w3, h4, h7, w4, hz]
                exact ⟨_, _, (hI _ _ _).2 ⟨rfl, rfl, hs.trans (by rw [show t + ((k + 1 : Nat) : Int) = t + k + 1 by omega])⟩, ⟨1, [], by simp [enc_list], by simp, by simp, by simp (implicitDefEqProofs := false) [enc_list], by simp (implicitDefEqProofs := false) [enc_list]⟩⟩
            · intro f m hi
              obtain ⟨rfl, rfl, hs⟩ := (hI _ _ _).1 hi
              rw [Nat.sub_self, nextL] at hs
              have h3 : wi (t + (N : Int)) 0 (allR c - 1) = false := by
                rw [Bool.eq_false_iff]; intro h; have := (wi_iff _ _ _).1 h; omega
              refine VW.run good [] ?_; simp (implicitDefEqProofs := false) [enc_list, w2, h3]
              exact ⟨hs, ⟨0, [], by simp [enc_list], by simp, by simp, by simp (implicitDefEqProofs := false) [enc_list], by simp (implicitDefEqProofs := false) [enc_list]⟩⟩
          · simp (implicitDefEqProofs := false); refine .ofCut hc (VW.run good [] ?_); simp (implicitDefEqProofs := false) [enc_list, hp]
  · cases hr
/-! ### All ticks of a local reading -/
def ticksF (c : Cal) (t : Town) (r : Reading) : Option (List Int) := if okC c = true ∧ okT c t = true then some (ticksR c t r) else none
def fromK (t : Town) (k : Nat) : Int := if k = 0 then 0 else ((t.Changes[k - 1]?).map (·.Tick)).getD 0
def byK (t : Town) (k : Nat) : Int := if k = 0 then t.Ahead else ((t.Changes[k - 1]?).map (·.Ahead)).getD 0
def restK (c : Cal) (t : Town) (r : Reading) (k : Nat) : List Int := if k ≤ t.Changes.length then ticksL c r (fromK t k) (byK t k) (t.Changes.drop k) else []
def untilK (c : Cal) (t : Town) (k : Nat) : Int := ((t.Changes[k]?).map (·.Tick)).getD (allR c)
theorem restK_step (c : Cal) (t : Town) (r : Reading) (k : Nat) (hk : k ≤ t.Changes.length) : restK c t r k = oneL c r (fromK t k) (byK t k) (untilK c t k) ++ restK c t r (k + 1) := by
  unfold restK untilK
  rw [if_pos hk]
  by_cases h : k < t.Changes.length
  · rw [List.drop_eq_getElem_cons h, ticksL, if_pos (by omega)]
    simp [fromK, byK, h]
  · rw [List.drop_eq_nil_of_le (by omega), ticksL, if_neg (by omega)]
    simp [List.getElem?_eq_none (show t.Changes.length ≤ k by omega)]
theorem chg_all : ∀ (l : List Change) (all last : Int), chgOk all last l = true → 0 ≤ last → ∀ x ∈ l, 0 ≤ x.Tick ∧ x.Tick < all ∧ -1440 ≤ x.Ahead ∧ x.Ahead ≤ 1440
  | [], _, _, _, _, x, hx => by cases hx
  | y :: l, all, last, h, h0, x, hx => by
    simp only [chgOk, Bool.and_eq_true, wi_iff] at h
    rcases List.mem_cons.1 hx with rfl | hx
    · omega
    · exact chg_all l all y.Tick h.2 (by omega) x hx
end Go.RS.DC

/- Walks: the reference (7): all ticks of a local reading. -/
namespace Go.RS.DC
open Go Go.RS
open Go.RS.Enc (enc dec)
variable {E : VEnv}
abbrev twc (t : Town) : VObj := .cells [enc t.Ahead, enc t.Changes]
abbrev rdc (r : Reading) : VObj := .cells [enc r.Day, enc r.Hour, enc r.Minute, enc r.Second]
theorem get0_Change {l : List Change} (h : 0 < l.length) : encL l = [enc l[0].Tick, enc l[0].Ahead] ++ encL (l.drop 1) := by
  have := get_Change l 0 h
  simpa using this
theorem fits8 {n : Nat} (h : n ≤ 100000) : fits n 8 = true := by simp [fits]; omega
set_option maxHeartbeats 1600000 in
set_option maxRecDepth 20000 in
theorem w_ticksR (hE : E.env.fn = G) : Ok E 73 (s3 ticksF) := by
  refine ok3 fun c t r a hr => ?_
  unfold ticksF at hr
  split at hr
  · rename_i hc
    cases hr
    obtain ⟨ho, hto⟩ := hc
    have o := okC_ok ho
    have ot := okT_ok hto
    have ab := allR_b o
    have hln := ot.ln
    have a1 := ot.a1
    have a2 := ot.a2
    have hall := chg_all t.Changes (allR c) 0 ot.ch (Int.le_refl 0)
    have good := goodV_cons (w_proper hE) (goodV_cons (w_begins hE) (goodV_cons (w_movedR hE) (goodV_cons (w_tickOf hE) goodV_nil)))
    have w2 : properF c r = some (prop2 c r) := if_pos ho
    have w3 : ∀ x, tickOfF c x = some (tickF c x) := fun x => if_pos ho
    have wz : IntKind.i64.wrap 0 = 0 := by decide
    have hm1 : (-1 : Int) < t.Changes.length := by omega
    generalize hT : ticksR c t r = T
    refine VP.run (A := F73) (good) [] (by rw [hE]; rfl) (by simp [F73]) ?_; unfold F73; simp (implicitDefEqProofs := false) [enc_list]
    refine VW.declare 7 1 (by simp) ?_
    refine VW.loop_to 0 [(7, sl1 3 T)] [clc c, twc t, rdc r, .vec (encL T)] (True) ?_ (fun hp f m hc => ?_)
    · cases hp : prop2 c r
      · have hn : T = [] := by rw [← hT]; unfold ticksR; rw [show (properR c r && wi r.Day (-2000) 2000) = false from hp]; rfl
        subst hn
        obtain ⟨Inv, hI⟩ : ∃ Inv : Nat → List (Nat × PV) → VM → Prop, ∀ k f m, Inv k f m ↔ (f = [(3, .ptr 0 5 0), (4, .ptr 1 2 0), (5, .ptr 2 4 0), (7, sl1 3 []), (8, .int .i64 (-1))] ∧ m = [clc c, twc t, rdc r, .vec (encL ([] : List Int))]) := ⟨_, fun _ _ _ => Iff.rfl⟩
        refine VW.loop_cut Inv 0 ?_ ?_ ?_
        · exact ⟨_, _, (hI _ _ _).2 ⟨rfl, rfl⟩, ⟨4, [], by simp [enc_list], by simp, by simp, by simp (implicitDefEqProofs := false) [enc_list], by simp (implicitDefEqProofs := false) [enc_list]⟩⟩
        · intro k f m hk hi
          omega
        · intro f m hi
          obtain ⟨rfl, rfl⟩ := (hI _ _ _).1 hi
          refine VW.run good [] ?_; simp (implicitDefEqProofs := false) [enc_list, hp, w2, hm1]
          exact ⟨4, [], by simp [enc_list], by simp, by simp, by simp (implicitDefEqProofs := false) [enc_list], by simp (implicitDefEqProofs := false) [enc_list]⟩
      · have hn : T = restK c t r 0 := by rw [← hT]; unfold ticksR; rw [show (properR c r && wi r.Day (-2000) 2000) = true from hp]; rfl
        have hrd : rdOk r := by
          simp only [prop2, properR, Bool.and_eq_true, wi_iff] at hp
          have := o.h2
          have := o.m2
          unfold rdOk; omega
        obtain ⟨Inv, hI⟩ : ∃ Inv : Nat → List (Nat × PV) → VM → Prop, ∀ k f m, Inv k f m ↔ (∃ out : List Int, f = [(3, .ptr 0 5 0), (4, .ptr 1 2 0), (5, .ptr 2 4 0), (7, sl1 3 out), (8, .int .i64 ((k : Int) - 1))] ∧ m = [clc c, twc t, rdc r, .vec (encL out)] ∧ out.length ≤ k ∧ T = out ++ restK c t r k) := ⟨_, fun _ _ _ => Iff.rfl⟩
        refine VW.loop_cut Inv (t.Changes.length + 1) ?_ ?_ ?_
        · exact ⟨_, _, (hI _ _ _).2 ⟨[], rfl, rfl, by simp, hn⟩, ⟨4, [], by simp [enc_list], by simp, by simp, by simp (implicitDefEqProofs := false) [enc_list], by simp (implicitDefEqProofs := false) [enc_list]⟩⟩
        · intro k f m hk hi
          obtain ⟨out, rfl, rfl, hl, hs⟩ := (hI _ _ _).1 hi
          have hf : fits (out.length + 1) 8 = true := fits8 (by omega)
          rw [restK_step c t r k (by omega)] at hs
          have hX : ∃ X, X = tickF c (movedR c r (-byK t k)) ∧ (oneL c r (fromK t k) (byK t k) (untilK c t k) = if fromK t k ≤ X ∧ X < untilK c t k then [X] else []) := ⟨_, rfl, rfl⟩
          obtain ⟨X, hX, hone⟩ := hX
          rw [hone] at hs
          rcases k with _ | j
          · have w4 : movedF c r (-t.Ahead) = some (movedR c r (-t.Ahead)) := if_pos ⟨ho, hrd, by omega, by omega⟩
            have w5 : IntKind.i64.wrap (-t.Ahead) = -t.Ahead := wrap64 (by omega) (by omega)
            have hX : tickF c (movedR c r (-t.Ahead)) = X := hX.symm
            have e1 : fromK t 0 = 0 := rfl
            by_cases h1 : 0 < t.Changes.length
            · have e2 : untilK c t 0 = t.Changes[0].Tick := by simp [untilK, h1]
              rw [e1, e2] at hs
              by_cases ha : 0 ≤ X
              · by_cases hb : X < t.Changes[0].Tick
                · rw [if_pos ⟨ha, hb⟩] at hs
                  refine VW.run good [] ?_; simp (implicitDefEqProofs := false) [enc_list, hp, w2, w3, w4, w5, hm1, wz, h1, get0_Change h1, days_begins ho, hX, ha, hb, hf, spliceV]
                  have e9 : (out ++ [X]).length = out.length + 1 := by simp
                  exact ⟨_, _, (hI _ _ _).2 ⟨out ++ [X], rfl, rfl, by rw [e9]; omega, by rw [hs]; simp⟩, ⟨4, [], by simp [enc_list,  e9], by simp, by simp, by simp (implicitDefEqProofs := false) [enc_list,  e9], by simp (implicitDefEqProofs := false) [enc_list,  e9]⟩⟩
                · rw [if_neg (fun h => hb h.2)] at hs
                  refine VW.run good [] ?_; simp (implicitDefEqProofs := false) [enc_list, hp, w2, w3, w4, w5, hm1, wz, h1, get0_Change h1, days_begins ho, hX, ha, hb, hf, spliceV]
                  exact ⟨_, _, (hI _ _ _).2 ⟨out, rfl, rfl, by omega, by rw [hs]; simp⟩, ⟨4, [], by simp [enc_list], by simp, by simp, by simp (implicitDefEqProofs := false) [enc_list], by simp (implicitDefEqProofs := false) [enc_list]⟩⟩
              · rw [if_neg (fun h => ha h.1)] at hs
                refine VW.run good [] ?_; simp (implicitDefEqProofs := false) [enc_list, hp, w2, w3, w4, w5, hm1, wz, h1, get0_Change h1, days_begins ho, hX, ha, hf, spliceV]
                exact ⟨_, _, (hI _ _ _).2 ⟨out, rfl, rfl, by omega, by rw [hs]; simp⟩, ⟨4, [], by simp [enc_list], by simp, by simp, by simp (implicitDefEqProofs := false) [enc_list], by simp (implicitDefEqProofs := false) [enc_list]⟩⟩
            · have e2 : untilK c t 0 = allR c := by simp [untilK, List.getElem?_eq_none (show t.Changes.length ≤ 0 by omega)]
              rw [e1, e2] at hs
              by_cases ha : 0 ≤ X
              · by_cases hb : X < allR c
                · rw [if_pos ⟨ha, hb⟩] at hs
                  refine VW.run good [] ?_; simp (implicitDefEqProofs := false) [enc_list, hp, w2, w3, w4, w5, hm1, wz, h1, days_begins ho, hX, ha, hb, hf, spliceV]
                  have e9 : (out ++ [X]).length = out.length + 1 := by simp
                  exact ⟨_, _, (hI _ _ _).2 ⟨out ++ [X], rfl, rfl, by rw [e9]; omega, by rw [hs]; simp⟩, ⟨4, [], by simp [enc_list,  e9], by simp, by simp, by simp (implicitDefEqProofs := false) [enc_list,  e9], by simp (implicitDefEqProofs := false) [enc_list,  e9]⟩⟩
                · rw [if_neg (fun h => hb h.2)] at hs
                  refine VW.run good [] ?_; simp (implicitDefEqProofs := false) [enc_list, hp, w2, w3, w4, w5, hm1, wz, h1, days_begins ho, hX, ha, hb, hf, spliceV]
                  exact ⟨_, _, (hI _ _ _).2 ⟨out, rfl, rfl, by omega, by rw [hs]; simp⟩, ⟨4, [], by simp [enc_list], by simp, by simp, by simp (implicitDefEqProofs := false) [enc_list], by simp (implicitDefEqProofs := false) [enc_list]⟩⟩
              · rw [if_neg (fun h => ha h.1)] at hs
                refine VW.run good [] ?_; simp (implicitDefEqProofs := false) [enc_list, hp, w2, w3, w4, w5, hm1, wz, h1, days_begins ho, hX, ha, hf, spliceV]
                exact ⟨_, _, (hI _ _ _).2 ⟨out, rfl, rfl, by omega, by rw [hs]; simp⟩, ⟨4, [], by simp [enc_list], by simp, by simp, by simp (implicitDefEqProofs := false) [enc_list], by simp (implicitDefEqProofs := false) [enc_list]⟩⟩
          · have hj : j < t.Changes.length := by omega
            obtain ⟨b1, b2, b3, b4⟩ := hall _ (List.getElem_mem hj)
            have e1 : fromK t (j + 1) = t.Changes[j].Tick := by simp [fromK, hj]
            have e3 : byK t (j + 1) = t.Changes[j].Ahead := by simp [byK, hj]
            rw [e3] at hX
            have hX : tickF c (movedR c r (-t.Changes[j].Ahead)) = X := hX.symm
            have w4 : movedF c r (-t.Changes[j].Ahead) = some (movedR c r (-t.Changes[j].Ahead)) := if_pos ⟨ho, hrd, by omega, by omega⟩
            have w5 : IntKind.i64.wrap (-t.Changes[j].Ahead) = -t.Changes[j].Ahead := wrap64 (by omega) (by omega)
            have w6 : ((j + 1 : Nat) : Int) - 1 = j := by omega
            have w7 : IntKind.i64.wrap ((j : Int) + 1) = ((j + 1 : Nat) : Int) := by rw [wrap64 (by omega) (by omega)]; rfl
            have hj0 : ((0 : Int) ≤ (j : Int) + 1) = True := by simp; omega
            rw [w6]
            by_cases h1 : j + 1 < t.Changes.length
            · have e2 : untilK c t (j + 1) = t.Changes[j + 1].Tick := by simp [untilK, h1]
              have h1' : ((j : Int) + 1 < t.Changes.length) = True := by simp; omega
              rw [e1, e2] at hs
              by_cases ha : t.Changes[j].Tick ≤ X
              · by_cases hb : X < t.Changes[j + 1].Tick
                · rw [if_pos ⟨ha, hb⟩] at hs
                  refine VW.run good [] ?_; simp (implicitDefEqProofs := false) [enc_list, hp, w2, w3, w4, w5, w7, hj, h1, h1', hj0, get_Change t.Changes j hj, get_Change t.Changes (j + 1) h1, days_begins ho, hX, ha, hb, hf, spliceV]
                  have e9 : (out ++ [X]).length = out.length + 1 := by simp
                  exact ⟨_, _, (hI _ _ _).2 ⟨out ++ [X], rfl, rfl, by rw [e9]; omega, by rw [hs]; simp⟩, ⟨4, [], by simp [enc_list,  e9], by simp, by simp, by simp (implicitDefEqProofs := false) [enc_list,  e9], by simp (implicitDefEqProofs := false) [enc_list,  e9]⟩⟩
                · rw [if_neg (fun h => hb h.2)] at hs
                  refine VW.run good [] ?_; simp (implicitDefEqProofs := false) [enc_list, hp, w2, w3, w4, w5, w7, hj, h1, h1', hj0, get_Change t.Changes j hj, get_Change t.Changes (j + 1) h1, days_begins ho, hX, ha, hb, hf, spliceV]
                  exact ⟨_, _, (hI _ _ _).2 ⟨out, rfl, rfl, by omega, by rw [hs]; simp⟩, ⟨4, [], by simp [enc_list], by simp, by simp, by simp (implicitDefEqProofs := false) [enc_list], by simp (implicitDefEqProofs := false) [enc_list]⟩⟩
              · rw [if_neg (fun h => ha h.1)] at hs
                refine VW.run good [] ?_; simp (implicitDefEqProofs := false) [enc_list, hp, w2, w3, w4, w5, w7, hj, h1, h1', hj0, get_Change t.Changes j hj, get_Change t.Changes (j + 1) h1, days_begins ho, hX, ha, hf, spliceV]
                exact ⟨_, _, (hI _ _ _).2 ⟨out, rfl, rfl, by omega, by rw [hs]; simp⟩, ⟨4, [], by simp [enc_list], by simp, by simp, by simp (implicitDefEqProofs := false) [enc_list], by simp (implicitDefEqProofs := false) [enc_list]⟩⟩
            · have e2 : untilK c t (j + 1) = allR c := by simp [untilK, List.getElem?_eq_none (show t.Changes.length ≤ j + 1 by omega)]
              have h1' : ((j : Int) + 1 < t.Changes.length) = False := by simp; omega
              rw [e1, e2] at hs
              by_cases ha : t.Changes[j].Tick ≤ X
              · by_cases hb : X < allR c
                · rw [if_pos ⟨ha, hb⟩] at hs
                  refine VW.run good [] ?_; simp (implicitDefEqProofs := false) [enc_list, hp, w2, w3, w4, w5, w7, hj, h1, h1', get_Change t.Changes j hj, days_begins ho, hX, ha, hb, hf, spliceV]
                  have e9 : (out ++ [X]).length = out.length + 1 := by simp
                  exact ⟨_, _, (hI _ _ _).2 ⟨out ++ [X], rfl, rfl, by rw [e9]; omega, by rw [hs]; simp⟩, ⟨4, [], by simp [enc_list,  e9], by simp, by simp, by simp (implicitDefEqProofs := false) [enc_list,  e9], by simp (implicitDefEqProofs := false) [enc_list,  e9]⟩⟩
                · rw [if_neg (fun h => hb h.2)] at hs
                  refine VW.run good [] ?_; simp (implicitDefEqProofs := false) [enc_list, hp, w2, w3, w4, w5, w7, hj, h1, h1', get_Change t.Changes j hj, days_begins ho, hX, ha, hb, hf, spliceV]
                  exact ⟨_, _, (hI _ _ _).2 ⟨out, rfl, rfl, by omega, by rw [hs]; simp⟩, ⟨4, [], by simp [enc_list], by simp, by simp, by simp (implicitDefEqProofs := false) [enc_list], by simp (implicitDefEqProofs := false) [enc_list]⟩⟩
              · rw [if_neg (fun h => ha h.1)] at hs
                refine VW.run good [] ?_; simp (implicitDefEqProofs := false) [enc_list, hp, w2, w3, w4, w5, w7, hj, h1, h1', get_Change t.Changes j hj, days_begins ho, hX, ha, hf, spliceV]
                exact ⟨_, _, (hI _ _ _).2 ⟨out, rfl, rfl, by omega, by rw [hs]; simp⟩, ⟨4, [], by simp [enc_list], by simp, by simp, by simp (implicitDefEqProofs := false) [enc_list], by simp (implicitDefEqProofs := false) [enc_list]⟩⟩
        · intro f m hi
          obtain ⟨out, rfl, rfl, hl, hs⟩ := (hI _ _ _).1 hi
          have hz : restK c t r (t.Changes.length + 1) = [] := by unfold restK; rw [if_neg (by omega)]
          rw [hz, List.append_nil] at hs
          subst hs
          have w1 : ((t.Changes.length + 1 : Nat) : Int) - 1 = t.Changes.length := by omega
          refine VW.run good [] ?_; simp (implicitDefEqProofs := false) [enc_list, w1]
          exact ⟨4, [], by simp [enc_list], by simp, by simp, by simp (implicitDefEqProofs := false) [enc_list], by simp (implicitDefEqProofs := false) [enc_list]⟩
    · simp (implicitDefEqProofs := false); refine .ofCut hc (VW.run good [] ?_); simp (implicitDefEqProofs := false) [enc_list]
  · cases hr
end Go.RS.DC

/- Walks: the reference (8): ticks and what comes twice. -/
namespace Go.RS.DC
open Go Go.RS
open Go.RS.Enc (enc dec)
variable {E : VEnv}
theorem w_TicksR (hE : E.env.fn = G) : Ok E 36 (s3 fun c t r => lim c (TicksR c t r)) := by
  refine ok3 fun c t r a hr => ?_
  unfold lim at hr
  split at hr
  · rename_i hL
    cases hr
    have good := goodV_cons (w_CheckTownR hE) (goodV_cons (w_ticksR hE) goodV_nil)
    have e : CheckF c t = some (CheckTownR c t) := if_pos hL
    by_cases h0 : CheckTownR c t = 0
    · have w : ticksF c t r = some (ticksR c t r) := if_pos (checkTown_zero h0)
      refine VP.run (A := F36) (good) [] (by rw [hE]; rfl) (by simp [F36]) ?_; unfold F36; simp (implicitDefEqProofs := false) [enc_list, e, h0, TicksR, w]
    · refine VP.run (A := F36) (good) [] (by rw [hE]; rfl) (by simp [F36]) ?_; unfold F36; simp (implicitDefEqProofs := false) [enc_list, e, h0, TicksR]
  · cases hr
theorem lo_rdOk {c : Cal} (o : CalOk c) {k : Int} (h0 : 0 ≤ k) (h1 : k < allR c) : rdOk (readR c k) := by
  have hv := (read_valid o h0 h1).1
  simp only [validR, Bool.and_eq_true, wi_iff] at hv
  have := o.h2
  have := o.m2
  have := o.d2
  unfold rdOk; omega
theorem twN_none {c : Cal} {t : Town} (o : CalOk c) (h : t.Changes = []) (ot : TownOk c t) : ∀ n : Nat, (n : Int) ≤ allR c → twN c t n = 0
  | 0, _ => rfl
  | n + 1, hn => by
    rw [twN, twN_none o h ot n (by omega)]
    have : twiceB c t n = false := by
      rw [Bool.eq_false_iff]
      intro hb
      obtain ⟨j, j0, j1, e⟩ := (twiceB_iff o ot (show (n : Int) < allR c by omega)).1 hb
      have hj : movedR c (readR c j) t.Ahead = movedR c (readR c n) t.Ahead := by
        have := e
        unfold localR at this
        rw [h] at this
        exact this
      have p1 := read_proper o (t := (n : Int)) (by omega) (by omega)
      have p2 := read_proper o (t := j) j0 (by omega)
      have t1 : thruR c (readR c j) = thruR c (readR c n) := by
        have a := congrArg (thruR c) hj
        unfold movedR at a
        rw [(thru_of o _ _).1, (thru_of o _ _).1] at a
        omega
      have s1 : (readR c j).Second = (readR c n).Second := show (movedR c (readR c j) t.Ahead).Second = (movedR c (readR c n) t.Ahead).Second by rw [hj]
      have hr : readR c j = readR c n := by rw [← ofThru_thru o p2, ← ofThru_thru o p1, t1, s1]
      have v1 := (read_valid o (t := (n : Int)) (by omega) (by omega)).2.1
      have v2 := (read_valid o (t := j) j0 (by omega)).2.1
      rw [hr] at v2
      omega
    rw [this]; rfl
theorem w_TwiceR (hE : E.env.fn = G) : Ok E 39 (s2 fun c t => lim c (TwiceR c t)) := by
  refine ok2 fun c t a hr => ?_
  unfold lim at hr
  split at hr
  · rename_i hL
    cases hr
    have good := goodV_cons (w_CheckTownR hE) (goodV_cons (w_begins hE) (goodV_cons (w_reading hE) (goodV_cons (w_aheadR hE) (goodV_cons (w_movedR hE) (goodV_cons (w_ticksR hE) goodV_nil)))))
    have e : CheckF c t = some (CheckTownR c t) := if_pos hL
    by_cases h0 : CheckTownR c t = 0
    · obtain ⟨ho, hto⟩ := checkTown_zero h0
      have o := okC_ok ho
      have ot := okT_ok hto
      have ab := allR_b o
      obtain ⟨N, hN⟩ : ∃ N : Nat, (N : Int) = allR c := ⟨(allR c).toNat, by omega⟩
      have hT : TwiceR c t = (twN c t N, 0) := by unfold TwiceR; rw [if_pos h0, ← hN, Int.toNat_natCast]
      rw [hT]
      by_cases hch : t.Changes.length = 0
      · have hz := twN_none o (List.eq_nil_of_length_eq_zero hch) ot N (by omega)
        rw [hz]
        refine VP.run (A := F39) (good) [] (by rw [hE]; rfl) (by simp [F39]) ?_; unfold F39; simp (implicitDefEqProofs := false) [enc_list, e, h0, days_begins ho]
        refine VW.loop_to 0 [(7, .int .i64 0)] [] (True) ?_ (fun hp f m hc => ?_)
        · obtain ⟨Inv, hI⟩ : ∃ Inv : Nat → List (Nat × PV) → VM → Prop, ∀ k f m, Inv k f m ↔ (f = [(2, .ptr 0 5 0), (3, .ptr 1 2 0), (7, .int .i64 0), (8, .int .i64 (allR c)), (9, .int .i64 0)] ∧ m = [clc c, twc t]) := ⟨_, fun _ _ _ => Iff.rfl⟩
          refine VW.loop_cut Inv 0 ?_ ?_ ?_
          · exact ⟨_, _, (hI _ _ _).2 ⟨rfl, rfl⟩, ⟨2, [], by simp [enc_list], by simp, by simp, by simp (implicitDefEqProofs := false) [enc_list], by simp (implicitDefEqProofs := false) [enc_list]⟩⟩
          · intro k f m hk hi
            omega
          · intro f m hi
            obtain ⟨rfl, rfl⟩ := (hI _ _ _).1 hi
            have hp : (0 : Int) < allR c := by omega
            refine VW.run good [] ?_; simp (implicitDefEqProofs := false) [enc_list, hp, hch]
            exact ⟨0, [], by simp [enc_list], by simp, by simp, by simp (implicitDefEqProofs := false) [enc_list], by simp (implicitDefEqProofs := false) [enc_list]⟩
        · simp (implicitDefEqProofs := false); refine .ofCut hc (VW.run good [] ?_); simp (implicitDefEqProofs := false) [enc_list]
      · have hpos : 0 < t.Changes.length := by omega
        refine VP.run (A := F39) (good) [] (by rw [hE]; rfl) (by simp [F39]) ?_; unfold F39; simp (implicitDefEqProofs := false) [enc_list, e, h0, days_begins ho]
        refine VW.loop_to 0 [(7, .int .i64 (twN c t N))] [] (True) ?_ (fun hp f m hc => ?_)
        · obtain ⟨Inv, hI⟩ : ∃ Inv : Nat → List (Nat × PV) → VM → Prop, ∀ k f m, Inv k f m ↔ (f = [(2, .ptr 0 5 0), (3, .ptr 1 2 0), (7, .int .i64 (twN c t k)), (8, .int .i64 (allR c)), (9, .int .i64 k)] ∧ m = [clc c, twc t]) := ⟨_, fun _ _ _ => Iff.rfl⟩
          refine VW.loop_cut Inv N ?_ ?_ ?_
          · exact ⟨_, _, (hI _ _ _).2 ⟨rfl, rfl⟩, ⟨2, [], by simp [enc_list,  twN], by simp, by simp, by simp (implicitDefEqProofs := false) [enc_list,  twN], by simp (implicitDefEqProofs := false) [enc_list,  twN]⟩⟩
          · intro k f m hk hi
            obtain ⟨rfl, rfl⟩ := (hI _ _ _).1 hi
            have hk2 : (k : Int) < allR c := by omega
            have hb := ot.ab k
            have tb := twN_b c t k
            have w1 : IntKind.i64.wrap ((k : Int) + 1) = k + 1 := wrap64 (by omega) (by omega)
            have w2 : readF c k = some (readR c k) := if_pos ⟨ho, by omega, hk2⟩
            have w3 : movedF c (readR c k) (aheadL t.Ahead t.Changes k) = some (localR c t k) := if_pos ⟨ho, lo_rdOk o (by omega) hk2, by omega, by omega⟩
            have w4 : ticksF c t (localR c t k) = some (ticksR c t (localR c t k)) := if_pos ⟨ho, hto⟩
            have w5 : IntKind.i64.wrap (twN c t k + 1) = twN c t k + 1 := wrap64 (by omega) (by omega)
            have hst : twN c t (k + 1) = twN c t k + if twiceB c t k = true then 1 else 0 := rfl
            unfold twiceB at hst
            generalize hl : ticksR c t (localR c t k) = L at *
            rcases L with _ | ⟨x, L⟩
            · simp only [Bool.false_eq_true, if_false, Int.add_zero] at hst
              refine VW.run good [] ?_; simp (implicitDefEqProofs := false) [enc_list, hk2, hpos, w1, w2, w3, w4]
              exact ⟨_, _, (hI _ _ _).2 ⟨rfl, rfl⟩, ⟨2, [], by simp [enc_list,  hst], by simp, by simp, by simp (implicitDefEqProofs := false) [enc_list,  hst], by simp (implicitDefEqProofs := false) [enc_list,  hst]⟩⟩
            · have hx : encL (x :: L) = .int .i64 x :: encL L := rfl
              by_cases hlt : x < k
              · simp only [hlt, decide_true, if_true] at hst
                refine VW.run good [] ?_; simp (implicitDefEqProofs := false) [enc_list, hk2, hpos, w1, w2, w3, w4, w5, hx, hlt]
                exact ⟨_, _, (hI _ _ _).2 ⟨rfl, rfl⟩, ⟨2, [], by simp [enc_list,  hst], by simp, by simp, by simp (implicitDefEqProofs := false) [enc_list,  hst], by simp (implicitDefEqProofs := false) [enc_list,  hst]⟩⟩
              · simp only [hlt, decide_false, Bool.false_eq_true, if_false, Int.add_zero] at hst
                refine VW.run good [] ?_; simp (implicitDefEqProofs := false) [enc_list, hk2, hpos, w1, w2, w3, w4, w5, hx, hlt]
                exact ⟨_, _, (hI _ _ _).2 ⟨rfl, rfl⟩, ⟨2, [], by simp [enc_list,  hst], by simp, by simp, by simp (implicitDefEqProofs := false) [enc_list,  hst], by simp (implicitDefEqProofs := false) [enc_list,  hst]⟩⟩
          · intro f m hi
            obtain ⟨rfl, rfl⟩ := (hI _ _ _).1 hi
            rw [← hN]
            refine VW.run good [] ?_; simp (implicitDefEqProofs := false) [enc_list]
            exact ⟨0, [], by simp [enc_list], by simp, by simp, by simp (implicitDefEqProofs := false) [enc_list], by simp (implicitDefEqProofs := false) [enc_list]⟩
        · simp (implicitDefEqProofs := false); refine .ofCut hc (VW.run good [] ?_); simp (implicitDefEqProofs := false) [enc_list]
    · refine VP.run (A := F39) (good) [] (by rw [hE]; rfl) (by simp [F39]) ?_; unfold F39; simp (implicitDefEqProofs := false) [enc_list, e, h0, TwiceR]
  · cases hr
end Go.RS.DC

