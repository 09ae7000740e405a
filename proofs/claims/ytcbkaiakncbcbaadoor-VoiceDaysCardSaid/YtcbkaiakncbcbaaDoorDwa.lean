/- Walks: what the reference and the statements share. -/
import Derived.Test.YtcbkaiakncbcbaaDoorDpa
import Derived.Test.YtcbkaiakncbcbaaDoorDC
set_option linter.all false
namespace Go.RS.DC
open Go Go.RS
open Go.RS.Enc (enc dec)
@[simp] theorem t_eq (n : Nat) : t n = Opd.t n := rfl
variable {E : VEnv}
theorem w_within (hE : E.env.fn = G) : Ok E 83 (s3 fun n a b => some (wi n a b)) := by
  refine ok3 fun n a b r hr => ?_
  cases hr
  refine VP.run (A := F83) (goodV_nil) [] (by rw [hE]; rfl) (by simp [F83]) ?_; unfold F83; simp (implicitDefEqProofs := false) [enc_list]
  by_cases h : a ≤ n <;> simp (implicitDefEqProofs := false) [enc_list, h, wi]
theorem w_Lies (hE : E.env.fn = G) : Ok E 52 (s3 fun n a b => some (wi n a b)) := by
  refine ok3 fun n a b r hr => ?_
  cases hr
  refine VP.run (A := F52) (goodV_nil) [] (by rw [hE]; rfl) (by simp [F52]) ?_; unfold F52; simp (implicitDefEqProofs := false) [enc_list]
  by_cases h : a ≤ n <;> simp (implicitDefEqProofs := false) [enc_list, h, wi]
def restF (n b : Int) : Option Int := if 0 < b ∧ b < 9223372036854775808 then some (n % b) else none
theorem w_Rest (hE : E.env.fn = G) : Ok E 36 (s2 restF) := by
  refine ok2 fun n b r hr => ?_
  unfold restF at hr
  split at hr
  · rename_i hb
    cases hr
    refine VP.run (A := F36) (goodV_nil) [] (by rw [hE]; rfl) (by simp [F36]) ?_; unfold F36; simp (implicitDefEqProofs := false) [enc_list]
    have h0 : b ≠ 0 := by omega
    simp (implicitDefEqProofs := false) [enc_list, h0]
    have h1 := Int.emod_nonneg n h0
    have h2 := Int.emod_lt_of_pos n hb.1
    have h3 : n.tmod b = if 0 ≤ n ∨ b ∣ n then n % b else n % b - b := by
      rw [Int.tmod_eq_emod]
      split
      · simp
      · omega
    by_cases h4 : 0 ≤ n ∨ b ∣ n
    · rw [if_pos h4] at h3
      have h5 : ¬ n % b < 0 := by omega
      simp (implicitDefEqProofs := false) [enc_list, h3, h5]
    · rw [if_neg h4] at h3
      have h5 : n % b - b < 0 := by omega
      have h6 : IntKind.i64.wrap (n % b) = n % b := wrap64 (by omega) (by omega)
      simp (implicitDefEqProofs := false) [enc_list, h3, h5, h6]
  · cases hr
theorem w_To (hE : E.env.fn = G) : Ok E 45 (s2 fun a b => some (Span.mk a b)) := by
  refine ok2 fun a b r hr => ?_
  cases hr
  refine VP.run (A := F45) (goodV_nil) [] (by rw [hE]; rfl) (by simp [F45]) ?_; unfold F45; simp (implicitDefEqProofs := false) [enc_list]
  simp (implicitDefEqProofs := false) [enc_list, spliceV]
end Go.RS.DC

/- Walks: lists. -/
namespace Go.RS.DC
open Go Go.RS
open Go.RS.Enc (enc dec)
variable {E : VEnv}
def firstF : List Int → List Int → Nat
  | x :: a, y :: b => if x = y then firstF a b + 1 else 0
  | _, _ => 0
theorem firstF_eq : ∀ {a b : List Int}, a.length = b.length → (firstF a b = a.length ↔ a = b)
  | [], [], _ => by simp [firstF]
  | x :: a, y :: b, h => by
    have ih := firstF_eq (a := a) (b := b) (by simpa using h)
    unfold firstF
    by_cases hx : x = y
    · simp [hx, ih]
    · simp [hx]
theorem w_First (hE : E.env.fn = G) : Ok E 53 (s2 fun (a b : List Int) => some (firstF a b : Int)) := by
  refine ok2 fun a b r hr => ?_
  cases hr
  refine VP.bound fun hb => ?_
  simp [enc_list] at hb
  refine VP.run (A := F53) (goodV_nil) [] (by rw [hE]; rfl) (by simp [F53]) ?_; unfold F53; simp (implicitDefEqProofs := false) [enc_list]
  refine VW.loop_to 0 [(5, .int .i64 (firstF a b))] [] (True) ?_ (fun hp f m hc => ?_)
  · obtain ⟨Inv, hI⟩ : ∃ Inv : Nat → List (Nat × PV) → VM → Prop, ∀ k f m, Inv k f m ↔ (f = [(0, enc a), (1, enc b), (5, .int .i64 k)] ∧ m = [] ∧ k + firstF (a.drop k) (b.drop k) = firstF a b) := ⟨_, fun _ _ _ => Iff.rfl⟩
    refine VW.loop_cut Inv a.length ?_ ?_ ?_
    · exact ⟨_, _, (hI _ _ _).2 ⟨rfl, rfl, by simp⟩, ⟨0, [], by simp [enc_list], by simp, by simp, by simp (implicitDefEqProofs := false) [enc_list], by simp (implicitDefEqProofs := false) [enc_list]⟩⟩
    · intro k f m hk hi
      obtain ⟨rfl, rfl, hs⟩ := (hI _ _ _).1 hi
      refine VW.run goodV_nil [] ?_
      have w1 : IntKind.i64.wrap ((k : Int) + 1) = k + 1 := wrap64 (by omega) (by omega)
      by_cases hkb : k < b.length
      · rw [List.drop_eq_getElem_cons hk, List.drop_eq_getElem_cons hkb] at hs
        by_cases he : a[k] = b[k]
        · simp (implicitDefEqProofs := false) [enc_list, hk, hkb, get_Int a k hk, get_Int b k hkb, he, w1]
          simp [firstF, he] at hs
          exact ⟨_, _, (hI _ _ _).2 ⟨rfl, rfl, by omega⟩, ⟨0, [], by simp [enc_list], by simp, by simp, by simp (implicitDefEqProofs := false) [enc_list], by simp (implicitDefEqProofs := false) [enc_list]⟩⟩
        · simp [firstF, he] at hs
          simp (implicitDefEqProofs := false) [enc_list, hk, hkb, get_Int a k hk, get_Int b k hkb, he, w1]
          exact ⟨0, [], by simp [enc_list,  hs], by simp, by simp, by simp (implicitDefEqProofs := false) [enc_list,  hs], by simp (implicitDefEqProofs := false) [enc_list,  hs]⟩
      · rw [List.drop_eq_nil_of_le (show b.length ≤ k by omega)] at hs
        have : firstF (a.drop k) [] = 0 := by cases a.drop k <;> rfl
        rw [this] at hs
        simp (implicitDefEqProofs := false) [enc_list, hk, hkb]
        exact ⟨0, [], by simp [enc_list,  ← hs], by simp, by simp, by simp (implicitDefEqProofs := false) [enc_list,  ← hs], by simp (implicitDefEqProofs := false) [enc_list,  ← hs]⟩
    · intro f m hi
      obtain ⟨rfl, rfl, hs⟩ := (hI _ _ _).1 hi
      refine VW.run goodV_nil [] ?_
      simp [firstF] at hs
      simp (implicitDefEqProofs := false) [enc_list]
      exact ⟨0, [], by simp [enc_list,  ← hs], by simp, by simp, by simp (implicitDefEqProofs := false) [enc_list,  ← hs], by simp (implicitDefEqProofs := false) [enc_list,  ← hs]⟩
  · simp (implicitDefEqProofs := false); refine .ofCut hc (VW.run goodV_nil [] ?_); simp (implicitDefEqProofs := false) [enc_list]
theorem w_Alike (hE : E.env.fn = G) : Ok E 16 (s2 fun (a b : List Int) => some (decide (a = b))) := by
  refine ok2 fun a b r hr => ?_
  cases hr
  refine VP.run (A := F16) ((goodV_cons (w_First hE) goodV_nil)) [] (by rw [hE]; rfl) (by simp [F16]) ?_; unfold F16; simp (implicitDefEqProofs := false) [enc_list]
  by_cases h : a.length = b.length
  · have := firstF_eq h
    simp (implicitDefEqProofs := false) [enc_list, h]
    rw [← h, this]
  · have : a ≠ b := fun e => h (by rw [e])
    simp (implicitDefEqProofs := false) [enc_list, h, this]
def climbsR (below : Int) : Int → List Int → Bool
  | _, [] => true
  | least, x :: l => wi x least (IntKind.i64.wrap (below - 1)) && climbsR below (IntKind.i64.wrap (x + 1)) l
theorem w_Climbs (hE : E.env.fn = G) : Ok E 39 (s2 fun l n => some (climbsR n 0 l)) := by
  refine ok2 fun l n r hr => ?_
  cases hr
  refine VP.bound fun hb => ?_
  simp [enc_list] at hb
  have good := goodV_cons (w_Lies hE) goodV_nil
  generalize hT : climbsR n 0 l = T
  refine VP.run (A := F39) (good) [] (by rw [hE]; rfl) (by simp [F39]) ?_; unfold F39; simp (implicitDefEqProofs := false) [enc_list]
  refine VW.loop_to 0 [] [] (T = true) ?_ (fun hp f m hc => ?_)
  · obtain ⟨Inv, hI⟩ : ∃ Inv : Nat → List (Nat × PV) → VM → Prop, ∀ k f m, Inv k f m ↔ (∃ a : Int, f = [(0, enc l), (1, .int .i64 n), (5, .int .i64 a), (7, enc l), (8, .int .i64 l.length), (9, .int .i64 k)] ∧ m = [] ∧ T = climbsR n a (l.drop k)) := ⟨_, fun _ _ _ => Iff.rfl⟩
    refine VW.loop_cut Inv l.length ?_ ?_ ?_
    · exact ⟨_, _, (hI _ _ _).2 ⟨0, rfl, rfl, hT.symm⟩, ⟨0, [], by simp [enc_list], by simp, by simp, by simp (implicitDefEqProofs := false) [enc_list], by simp (implicitDefEqProofs := false) [enc_list]⟩⟩
    · intro k f m hk hi
      obtain ⟨a, rfl, rfl, hs⟩ := (hI _ _ _).1 hi
      have w1 : IntKind.i64.wrap ((k : Int) + 1) = k + 1 := wrap64 (by omega) (by omega)
      rw [List.drop_eq_getElem_cons hk, climbsR] at hs
      by_cases hw : wi l[k] a (IntKind.i64.wrap (n - 1)) = true
      · rw [hw, Bool.true_and] at hs
        refine VW.run good [] ?_; simp (implicitDefEqProofs := false) [enc_list, hk, get_Int l k hk, w1, hw]
        exact ⟨_, _, (hI _ _ _).2 ⟨_, rfl, rfl, hs⟩, ⟨0, [], by simp [enc_list], by simp, by simp, by simp (implicitDefEqProofs := false) [enc_list], by simp (implicitDefEqProofs := false) [enc_list]⟩⟩
      · have hw : wi l[k] a (IntKind.i64.wrap (n - 1)) = false := by simpa using hw
        rw [hw, Bool.false_and] at hs
        refine VW.run good [] ?_; simp (implicitDefEqProofs := false) [enc_list, hk, get_Int l k hk, w1, hw, hs]
    · intro f m hi
      obtain ⟨a, rfl, rfl, hs⟩ := (hI _ _ _).1 hi
      rw [List.drop_length, climbsR] at hs
      refine VW.run good [] ?_; simp (implicitDefEqProofs := false) [enc_list]
      exact ⟨hs, ⟨0, [], by simp [enc_list], by simp, by simp, by simp (implicitDefEqProofs := false) [enc_list], by simp (implicitDefEqProofs := false) [enc_list]⟩⟩
  · simp (implicitDefEqProofs := false); refine .ofCut hc (VW.run good [] ?_); simp (implicitDefEqProofs := false) [enc_list, hp]
end Go.RS.DC

/- Walks: the reference (1): lengths of days. -/
namespace Go.RS.DC
open Go Go.RS
open Go.RS.Enc (enc dec)
variable {E : VEnv}
abbrev clc (c : Cal) : VObj := .cells [enc c.Hours, enc c.Minutes, enc c.Seconds, enc c.Days, enc c.Decrees]
def secsF (c : Cal) (d m : Int) : Option Int := if okC c = true then some (secsR c d m) else none
def addR (l : List Decree) (d : Int) (last : Bool) : Int := if last then moreR l d else 0
theorem addR_cons (x : Decree) (l : List Decree) (d : Int) (last : Bool) : addR (x :: l) d last = (if x.Day = d ∧ last = true then (if x.Plus then 1 else -1) else 0) + addR l d last := by
  cases last <;> simp [addR, moreR]
theorem w_seconds (hE : E.env.fn = G) : Ok E 121 (s3 secsF) := by
  refine ok3 fun c d m r hr => ?_
  unfold secsF at hr
  split at hr
  · rename_i hc
    cases hr
    have o := okC_ok hc
    have s1 := o.s1
    have s2 := o.s2
    have dl := o.dl
    have hm1 := o.hm1
    have hm2 := o.hm2
    have w0 : IntKind.i64.wrap (c.Hours * c.Minutes) = c.Hours * c.Minutes := wrap64 (by omega) (by omega)
    have w1 : IntKind.i64.wrap (c.Hours * c.Minutes - 1) = c.Hours * c.Minutes - 1 := wrap64 (by omega) (by omega)
    have hT : secsR c d m = c.Seconds + addR c.Decrees d (decide (m = c.Hours * c.Minutes - 1)) := by unfold secsR addR; simp
    obtain ⟨last, hl⟩ : ∃ last : Bool, last = decide (m = c.Hours * c.Minutes - 1) := ⟨_, rfl⟩
    rw [← hl] at hT
    refine VP.run (A := F121) (goodV_nil) [] (by rw [hE]; rfl) (by simp [F121]) ?_; unfold F121; simp (implicitDefEqProofs := false) [enc_list]
    refine VW.loop_to 0 [(7, .int .i64 (secsR c d m))] [clc c] (True) ?_ (fun hp f m hc => ?_)
    · obtain ⟨Inv, hI⟩ : ∃ Inv : Nat → List (Nat × PV) → VM → Prop, ∀ k f M, Inv k f M ↔ (∃ s : Int, f = [(1, .int .i64 d), (2, .int .i64 m), (3, .ptr 0 5 0), (7, .int .i64 s), (8, .int .i64 k)] ∧ M = [clc c] ∧ secsR c d m = s + addR (c.Decrees.drop k) d last ∧ -k ≤ s - c.Seconds ∧ s - c.Seconds ≤ k) := ⟨_, fun _ _ _ => Iff.rfl⟩
      refine VW.loop_cut Inv c.Decrees.length ?_ ?_ ?_
      · exact ⟨_, _, (hI _ _ _).2 ⟨c.Seconds, rfl, rfl, hT, by omega, by omega⟩, ⟨1, [], by simp [enc_list], by simp, by simp, by simp (implicitDefEqProofs := false) [enc_list], by simp (implicitDefEqProofs := false) [enc_list]⟩⟩
      · intro k f M hk hi
        obtain ⟨s, rfl, rfl, hs, b1, b2⟩ := (hI _ _ _).1 hi
        have w2 : IntKind.i64.wrap ((k : Int) + 1) = k + 1 := wrap64 (by omega) (by omega)
        have w3 : IntKind.i64.wrap (s - 1) = s - 1 := wrap64 (by omega) (by omega)
        have w4 : IntKind.i64.wrap (s - 1 + 2) = s - 1 + 2 := wrap64 (by omega) (by omega)
        rw [List.drop_eq_getElem_cons hk, addR_cons] at hs
        generalize hx : c.Decrees[k] = x at hs
        refine VW.run goodV_nil [] ?_; simp (implicitDefEqProofs := false) [enc_list, hk, get_Decree c.Decrees k hk, hx, w0, w1]
        by_cases h1 : x.Day = d
        · by_cases h2 : m = c.Hours * c.Minutes - 1
          · by_cases h3 : x.Plus = true
            · simp (implicitDefEqProofs := false) [enc_list, h1, h2, h3, hk, get_Decree c.Decrees k hk, hx, w0, w1, w2, w3, w4]
              (have e : last = true := by rw [hl]; simp [h2]
               simp only [h1, h3, e, and_self, if_true] at hs
               exact ⟨_, _, (hI _ _ _).2 ⟨s - 1 + 2, rfl, rfl, by rw [hs, e]; omega, by omega, by omega⟩, ⟨1, [], by simp [enc_list,  h2], by simp, by simp, by simp (implicitDefEqProofs := false) [enc_list,  h2], by simp (implicitDefEqProofs := false) [enc_list,  h2]⟩⟩)
            · simp (implicitDefEqProofs := false) [enc_list, h1, h2, h3, hk, get_Decree c.Decrees k hk, hx, w0, w1, w2, w3, w4]
              (have e : last = true := by rw [hl]; simp [h2]
               simp only [h1, h3, e, and_self, if_true, if_false, Bool.false_eq_true] at hs
               exact ⟨_, _, (hI _ _ _).2 ⟨s - 1, rfl, rfl, by rw [hs, e]; omega, by omega, by omega⟩, ⟨1, [], by simp [enc_list,  h2], by simp, by simp, by simp (implicitDefEqProofs := false) [enc_list,  h2], by simp (implicitDefEqProofs := false) [enc_list,  h2]⟩⟩)
          · simp (implicitDefEqProofs := false) [enc_list, h1, h2, hk, get_Decree c.Decrees k hk, hx, w0, w1, w2, w3, w4]
            (have e : last = false := by rw [hl]; simp [h2]
             simp only [e, and_false, if_false, Bool.false_eq_true] at hs
             exact ⟨_, _, (hI _ _ _).2 ⟨s, rfl, rfl, by rw [hs, e]; omega, by omega, by omega⟩, ⟨1, [], by simp [enc_list], by simp, by simp, by simp (implicitDefEqProofs := false) [enc_list], by simp (implicitDefEqProofs := false) [enc_list]⟩⟩)
        · simp (implicitDefEqProofs := false) [enc_list, h1, hk, get_Decree c.Decrees k hk, hx, w0, w1, w2, w3, w4]
          (simp only [h1, false_and, if_false] at hs
           exact ⟨_, _, (hI _ _ _).2 ⟨s, rfl, rfl, by rw [hs]; omega, by omega, by omega⟩, ⟨1, [], by simp [enc_list], by simp, by simp, by simp (implicitDefEqProofs := false) [enc_list], by simp (implicitDefEqProofs := false) [enc_list]⟩⟩)
      · intro f M hi
        obtain ⟨s, rfl, rfl, hs, b1, b2⟩ := (hI _ _ _).1 hi
        have he : secsR c d m = s := by rw [hs, List.drop_length]; cases last <;> simp [addR, moreR]
        refine VW.run goodV_nil [] ?_; simp (implicitDefEqProofs := false) [enc_list]
        exact ⟨1, [], by simp [enc_list,  he], by simp, by simp, by simp (implicitDefEqProofs := false) [enc_list,  he], by simp (implicitDefEqProofs := false) [enc_list,  he]⟩
    · simp (implicitDefEqProofs := false); refine .ofCut hc (VW.run goodV_nil [] ?_); simp (implicitDefEqProofs := false) [enc_list]
  · cases hr
def lengthF (c : Cal) (d : Int) : Option Int := if okC c = true then some (lenR c d) else none
theorem secs_len (c : Cal) (d : Int) : (c.Hours * c.Minutes - 1) * c.Seconds + secsR c d (c.Hours * c.Minutes - 1) = lenR c d := by
  unfold lenR secsR
  rw [if_pos rfl, Int.sub_mul]; omega
theorem w_length (hE : E.env.fn = G) : Ok E 119 (s2 lengthF) := by
  refine ok2 fun c d r hr => ?_
  unfold lengthF at hr
  split at hr
  · rename_i hc
    cases hr
    have o := okC_ok hc
    have hm1 := o.hm1
    have hm2 := o.hm2
    have w2 := o.w2
    have lb := o.lb d
    have mb := o.mb d
    have s2 := o.s2
    have hb1 : (c.Hours * c.Minutes - 1) * c.Seconds ≤ 86400 := by have := o.w1; have := o.w3; have := o.s1; omega
    have v0 : IntKind.i64.wrap (c.Hours * c.Minutes) = c.Hours * c.Minutes := wrap64 (by omega) (by omega)
    have v1 : IntKind.i64.wrap (c.Hours * c.Minutes - 1) = c.Hours * c.Minutes - 1 := wrap64 (by omega) (by omega)
    have v2 : IntKind.i64.wrap ((c.Hours * c.Minutes - 1) * c.Seconds) = (c.Hours * c.Minutes - 1) * c.Seconds := wrap64 (by omega) (by omega)
    have v3 : IntKind.i64.wrap ((c.Hours * c.Minutes - 1) * c.Seconds + secsR c d (c.Hours * c.Minutes - 1)) = lenR c d := by
      rw [secs_len]; exact wrap64 (by omega) (by omega)
    have v4 : secsF c d (c.Hours * c.Minutes - 1) = some (secsR c d (c.Hours * c.Minutes - 1)) := if_pos hc
    refine VP.run (A := F119) ((goodV_cons (w_seconds hE) goodV_nil)) [] (by rw [hE]; rfl) (by simp [F119]) ?_; unfold F119; simp (implicitDefEqProofs := false) [enc_list]
    simp (implicitDefEqProofs := false) [enc_list, v0, v1, v2, v3, v4]
  · cases hr
def beginsF (c : Cal) (n : Int) : Option Int := if okC c = true ∧ 0 ≤ n ∧ n ≤ 1000 then some (begR c n.toNat) else none
theorem w_begins (hE : E.env.fn = G) : Ok E 115 (s2 beginsF) := by
  refine ok2 fun c n r hr => ?_
  unfold beginsF at hr
  split at hr
  · rename_i hc
    cases hr
    obtain ⟨hc, n0, n1⟩ := hc
    obtain ⟨n, rfl⟩ : ∃ d : Nat, n = d := ⟨n.toNat, by omega⟩
    rw [Int.toNat_natCast]
    have o := okC_ok hc
    have good := goodV_cons (w_length hE) goodV_nil
    refine VP.run (A := F115) (good) [] (by rw [hE]; rfl) (by simp [F115]) ?_; unfold F115; simp (implicitDefEqProofs := false) [enc_list]
    refine VW.loop_to 0 [(5, .int .i64 (begR c n))] [clc c] (True) ?_ (fun hp f m hc => ?_)
    · obtain ⟨Inv, hI⟩ : ∃ Inv : Nat → List (Nat × PV) → VM → Prop, ∀ k f M, Inv k f M ↔ (f = [(1, .int .i64 n), (2, .ptr 0 5 0), (5, .int .i64 (begR c k)), (6, .int .i64 k)] ∧ M = [clc c]) := ⟨_, fun _ _ _ => Iff.rfl⟩
      refine VW.loop_cut Inv n ?_ ?_ ?_
      · exact ⟨_, _, (hI _ _ _).2 ⟨rfl, rfl⟩, ⟨1, [], by simp [enc_list,  begR], by simp, by simp, by simp (implicitDefEqProofs := false) [enc_list,  begR], by simp (implicitDefEqProofs := false) [enc_list,  begR]⟩⟩
      · intro k f M hk hi
        obtain ⟨rfl, rfl⟩ := (hI _ _ _).1 hi
        have hb := begR_b o (k + 1)
        have w2 : IntKind.i64.wrap ((k : Int) + 1) = k + 1 := wrap64 (by omega) (by omega)
        have w3 : IntKind.i64.wrap (begR c k + lenR c k) = begR c (k + 1) := by rw [begR] at hb ⊢; exact wrap64 (by omega) (by omega)
        have w4 : lengthF c k = some (lenR c k) := if_pos hc
        refine VW.run good [] ?_; simp (implicitDefEqProofs := false) [enc_list, hk, w2, w3, w4]
        exact ⟨_, _, (hI _ _ _).2 ⟨rfl, rfl⟩, ⟨1, [], by simp [enc_list], by simp, by simp, by simp (implicitDefEqProofs := false) [enc_list], by simp (implicitDefEqProofs := false) [enc_list]⟩⟩
      · intro f M hi
        obtain ⟨rfl, rfl⟩ := (hI _ _ _).1 hi
        refine VW.run good [] ?_; simp (implicitDefEqProofs := false) [enc_list]
        exact ⟨1, [], by simp [enc_list], by simp, by simp, by simp (implicitDefEqProofs := false) [enc_list], by simp (implicitDefEqProofs := false) [enc_list]⟩
    · simp (implicitDefEqProofs := false); refine .ofCut hc (VW.run good [] ?_); simp (implicitDefEqProofs := false) [enc_list]
  · cases hr
def isTickF (c : Cal) (t : Int) : Option Bool := if okC c = true then some (wi t 0 (allR c - 1)) else none
theorem days_begins {c : Cal} (hc : okC c = true) : beginsF c c.Days = some (allR c) := by
  have o := okC_ok hc
  have d1 := o.d1
  have d2 := o.d2
  exact if_pos ⟨hc, by omega, by omega⟩
theorem w_isTick (hE : E.env.fn = G) : Ok E 98 (s2 isTickF) := by
  refine ok2 fun c t r hr => ?_
  unfold isTickF at hr
  split at hr
  · rename_i hc
    cases hr
    have o := okC_ok hc
    have ab := allR_b o
    have w1 : IntKind.i64.wrap (allR c - 1) = allR c - 1 := wrap64 (by omega) (by omega)
    refine VP.run (A := F98) ((goodV_cons (w_begins hE) (goodV_cons (w_Lies hE) goodV_nil))) [] (by rw [hE]; rfl) (by simp [F98]) ?_; unfold F98; simp (implicitDefEqProofs := false) [enc_list]
    simp (implicitDefEqProofs := false) [enc_list, days_begins hc, w1]
  · cases hr
end Go.RS.DC

/- Walks: the reference (2): readings and ticks. -/
namespace Go.RS.DC
open Go Go.RS
open Go.RS.Enc (enc dec)
variable {E : VEnv}
def readF (c : Cal) (t : Int) : Option Reading := if okC c = true ∧ 0 ≤ t ∧ t < allR c then some (readR c t) else none
theorem w_reading (hE : E.env.fn = G) : Ok E 99 (s2 readF) := by
  refine ok2 fun c t r hr => ?_
  unfold readF at hr
  split at hr
  · rename_i hc
    cases hr
    obtain ⟨ho, t0, t1⟩ := hc
    have o := okC_ok ho
    obtain ⟨d1, d2, d3⟩ := dayR_spec o t0 t1
    have dd := o.d2
    have ab := allR_b o
    have m1 := o.m1
    have m2 := o.m2
    have s1 := o.s1
    have hm1 := o.hm1
    have hm2 := o.hm2
    have hl0 : 0 ≤ leftR c t := by unfold leftR; omega
    have hl1 : leftR c t < lenR c (dayR c t) := by unfold leftR; rw [begR] at d3; omega
    obtain ⟨g1, g2, g3, g4⟩ := min_split o hl0 hl1
    have lb := o.lb (dayR c t)
    have e1 := Int.mul_ediv_add_emod (leftR c t) c.Seconds
    have q1 : 0 ≤ leftR c t / c.Seconds := Int.ediv_nonneg hl0 (by omega)
    have q2 : leftR c t / c.Seconds ≤ leftR c t := Int.ediv_le_self _ hl0
    have q3 : (leftR c t).tdiv c.Seconds = leftR c t / c.Seconds := Int.tdiv_eq_ediv_of_nonneg hl0
    have q4 : 0 ≤ minR c (leftR c t) / c.Minutes := Int.ediv_nonneg g1 (by omega)
    have q5 : minR c (leftR c t) / c.Minutes ≤ minR c (leftR c t) := Int.ediv_le_self _ g1
    have q6 := Int.emod_nonneg (minR c (leftR c t)) (show c.Minutes ≠ 0 by omega)
    have q7 := Int.emod_lt_of_pos (minR c (leftR c t)) (show 0 < c.Minutes by omega)
    have q8 : (minR c (leftR c t)).tdiv c.Minutes = minR c (leftR c t) / c.Minutes := Int.tdiv_eq_ediv_of_nonneg g1
    have q9 : (minR c (leftR c t)).tmod c.Minutes = minR c (leftR c t) % c.Minutes := Int.tmod_eq_emod_of_nonneg g1
    have w0 : IntKind.i64.wrap (c.Hours * c.Minutes) = c.Hours * c.Minutes := wrap64 (by omega) (by omega)
    have w1 : IntKind.i64.wrap (c.Hours * c.Minutes - 1) = c.Hours * c.Minutes - 1 := wrap64 (by omega) (by omega)
    have w5 : IntKind.i64.wrap (leftR c t / c.Seconds) = leftR c t / c.Seconds := wrap64 (by omega) (by omega)
    have p0 : 0 ≤ minR c (leftR c t) * c.Seconds := Int.mul_nonneg g1 (by omega)
    have n1 : c.Minutes ≠ 0 := by omega
    have n2 : c.Seconds ≠ 0 := by omega
    have w6 : IntKind.i64.wrap (minR c (leftR c t) / c.Minutes) = minR c (leftR c t) / c.Minutes := wrap64 (by omega) (by omega)
    have w7 : IntKind.i64.wrap (minR c (leftR c t) % c.Minutes) = minR c (leftR c t) % c.Minutes := wrap64 (by omega) (by omega)
    have w8 : IntKind.i64.wrap (minR c (leftR c t) * c.Seconds) = minR c (leftR c t) * c.Seconds := wrap64 (by omega) (by omega)
    have w9 : IntKind.i64.wrap (leftR c t - minR c (leftR c t) * c.Seconds) = leftR c t - minR c (leftR c t) * c.Seconds := wrap64 (by omega) (by omega)
    have bg := begR_b o (dayR c t)
    have w10 : IntKind.i64.wrap (t - begR c (dayR c t)) = leftR c t := wrap64 (by omega) (by omega)
    have hmin : (if c.Hours * c.Minutes - 1 < leftR c t / c.Seconds then c.Hours * c.Minutes - 1 else leftR c t / c.Seconds) = minR c (leftR c t) := by
      unfold minR
      by_cases h : leftR c t / c.Seconds < c.Hours * c.Minutes - 1
      · rw [if_pos h, if_neg (by omega)]
      · rw [if_neg h]; split <;> omega
    have good := goodV_cons (w_begins hE) goodV_nil
    refine VP.run (A := F99) (good) [] (by rw [hE]; rfl) (by simp [F99]) ?_; unfold F99; simp (implicitDefEqProofs := false) [enc_list]
    refine VW.loop_to 0 [(1, .int .i64 t), (2, .ptr 0 5 0), (4, .ptr 1 4 0), (5, .int .i64 (dayR c t))] [clc c, .cells [.int .i64 0, .int .i64 0, .int .i64 0, .int .i64 0]] (True) ?_ (fun hp f m hc => ?_)
    · obtain ⟨Inv, hI⟩ : ∃ Inv : Nat → List (Nat × PV) → VM → Prop, ∀ k f M, Inv k f M ↔ (f = [(1, .int .i64 t), (2, .ptr 0 5 0), (4, .ptr 1 4 0), (5, .int .i64 k)] ∧ M = [clc c, .cells [.int .i64 0, .int .i64 0, .int .i64 0, .int .i64 0]]) := ⟨_, fun _ _ _ => Iff.rfl⟩
      refine VW.loop_cut Inv (dayR c t) ?_ ?_ ?_
      · exact ⟨_, _, (hI _ _ _).2 ⟨rfl, rfl⟩, ⟨2, [], by simp [enc_list], by simp, by simp, by simp (implicitDefEqProofs := false) [enc_list], by simp (implicitDefEqProofs := false) [enc_list]⟩⟩
      · intro k f M hk hi
        obtain ⟨rfl, rfl⟩ := (hI _ _ _).1 hi
        have w2 : IntKind.i64.wrap ((k : Int) + 1) = k + 1 := wrap64 (by omega) (by omega)
        have w4 : beginsF c ((k : Int) + 1) = some (begR c (k + 1)) := if_pos ⟨ho, by omega, by omega⟩
        have hle : begR c (k + 1) ≤ t := by have := begR_mono o (show k + 1 ≤ dayR c t by omega); omega
        refine VW.run good [] ?_; simp (implicitDefEqProofs := false) [enc_list, w2, w4, hle]
        exact ⟨_, _, (hI _ _ _).2 ⟨rfl, rfl⟩, ⟨2, [], by simp [enc_list], by simp, by simp, by simp (implicitDefEqProofs := false) [enc_list], by simp (implicitDefEqProofs := false) [enc_list]⟩⟩
      · intro f M hi
        obtain ⟨rfl, rfl⟩ := (hI _ _ _).1 hi
        have w2 : IntKind.i64.wrap ((dayR c t : Int) + 1) = dayR c t + 1 := wrap64 (by omega) (by omega)
        have w4 : beginsF c ((dayR c t : Int) + 1) = some (begR c (dayR c t + 1)) := if_pos ⟨ho, by omega, by omega⟩
        have hle : ¬ begR c (dayR c t + 1) ≤ t := by omega
        refine VW.run good [] ?_; simp (implicitDefEqProofs := false) [enc_list, w2, w4, hle]
        exact ⟨2, [], by simp [enc_list], by simp, by simp, by simp (implicitDefEqProofs := false) [enc_list], by simp (implicitDefEqProofs := false) [enc_list]⟩
    · have w4 : beginsF c (dayR c t : Int) = some (begR c (dayR c t)) := if_pos ⟨ho, by omega, by omega⟩
      simp (implicitDefEqProofs := false); refine .ofCut hc (VW.run good [] ?_); simp (implicitDefEqProofs := false) [enc_list, w0, w1, w4, w5, w6, w7, w8, w9, w10, n1, n2, q3, q8, q9, hmin, spliceV, readR]
  · cases hr
end Go.RS.DC

/- Walks: the reference (3): what is told. -/
namespace Go.RS.DC
open Go Go.RS
open Go.RS.Enc (enc dec)
variable {E : VEnv}
theorem fits8L {n : Nat} (h : n ≤ 8796093021952) : fits n 8 = true := by simp [fits]; omega
abbrev sl1 (t : Nat) (out : List Int) : PV := .sl t out.length 0 out.length (openCap + 1) 1
theorem climbs_eq (n : Int) (h1 : 1 ≤ n) (h2 : n ≤ 10) : ∀ (l : List Decree) (a : Int), 0 ≤ a → climbsR n a (l.map (·.Day)) = climbD n a l
  | [], _, _ => rfl
  | x :: l, a, ha => by
    have w1 : IntKind.i64.wrap (n - 1) = n - 1 := wrap64 (by omega) (by omega)
    rw [List.map_cons, climbsR, climbD, w1]
    by_cases h : wi x.Day a (n - 1) = true
    · obtain ⟨g0, g⟩ := (wi_iff _ _ _).1 h
      have w2 : IntKind.i64.wrap (x.Day + 1) = x.Day + 1 := wrap64 (by omega) (by omega)
      rw [w2, climbs_eq n h1 h2 l (x.Day + 1) (by omega)]
    · have h : wi x.Day a (n - 1) = false := by simpa using h
      rw [h, Bool.false_and, Bool.false_and]
def checkF (c : Cal) : Option Int := if c.Decrees.length ≤ 8796093021952 then some (checkR c) else none
theorem check_of (c : Cal) : checkR c = if (headC c && climbsR c.Days 0 (c.Decrees.map (·.Day))) = true then 0 else 10 := by
  unfold checkR okC
  by_cases h : headC c = true
  · have hh := h
    simp only [headC, Bool.and_eq_true, wi_iff] at hh
    rw [climbs_eq c.Days (by omega) (by omega) _ _ (by omega)]
  · have h : headC c = false := by simpa using h
    rw [h, Bool.false_and, Bool.false_and]
theorem w_Check (hE : E.env.fn = G) : Ok E 97 (s1 checkF) := by
  refine ok1 fun c r hr => ?_
  unfold checkF at hr
  split at hr
  · rename_i hL
    cases hr
    have good := goodV_cons (w_Climbs hE) (goodV_cons (w_Lies hE) goodV_nil)
    have hlen10 : ((c.Decrees.length : Int) ≤ 10) = (c.Decrees.length ≤ 10) := by apply propext; omega
    generalize hD : c.Decrees.map (·.Day) = D
    have hDl : D.length = c.Decrees.length := by rw [← hD]; simp
    have hck := check_of c
    rw [hD] at hck
    refine VP.func (A := F97) (by rw [hE]; rfl) (by simp [F97]) ?_; unfold F97
    refine VW.seq (VW.run good [] ?_); simp (implicitDefEqProofs := false) [enc_list]
    refine VW.seq_cut [(1, .ptr 0 5 0), (3, .bool (headC c))] [clc c] (VW.run good [] ?_) ?_; simp (implicitDefEqProofs := false) [enc_list]
    · repeat' (first | (refine vstep_split (fun hb => ?_) (fun hb => ?_) <;> (try simp only [Bool.not_eq_eq_eq_not, Bool.not_true, Bool.not_false, decide_eq_true_eq, decide_eq_false_iff_not] at hb) <;> simp (implicitDefEqProofs := false) [hb, enc_list]) | (refine vcond_split (fun hb => ?_) (fun hb => ?_) <;> (try simp only [Bool.not_eq_eq_eq_not, Bool.not_true, Bool.not_false, decide_eq_true_eq, decide_eq_false_iff_not] at hb) <;> simp (implicitDefEqProofs := false) [hb, enc_list]))
      all_goals exact ⟨1, [], by simp [enc_list,  headC, hlen10, *], by simp, by simp, by simp (implicitDefEqProofs := false) [enc_list,  headC, hlen10, *], by simp (implicitDefEqProofs := false) [enc_list,  headC, hlen10, *]⟩
    refine VW.run good [] ?_; simp (implicitDefEqProofs := false) [enc_list]
    refine VW.declare 4 1 (by simp) ?_
    refine VW.run good [] ?_; simp (implicitDefEqProofs := false) [enc_list]
    refine VW.loop_to 0 [(1, .ptr 0 5 0), (3, .bool (headC c)), (4, sl1 1 D)] [clc c, .vec (encL D)] (True) ?_ (fun hp f m hc => ?_)
    · obtain ⟨Inv, hI⟩ : ∃ Inv : Nat → List (Nat × PV) → VM → Prop, ∀ k f m, Inv k f m ↔ (∃ out : List Int, f = [(1, .ptr 0 5 0), (3, .bool (headC c)), (4, sl1 1 out), (5, .int .i64 k)] ∧ m = [clc c, .vec (encL out)] ∧ out.length = k ∧ D = out ++ (c.Decrees.drop k).map (·.Day)) := ⟨_, fun _ _ _ => Iff.rfl⟩
      refine VW.loop_cut Inv c.Decrees.length ?_ ?_ ?_
      · exact ⟨_, _, (hI _ _ _).2 ⟨[], rfl, rfl, rfl, hD.symm⟩, ⟨2, [], by simp [enc_list], by simp, by simp, by simp (implicitDefEqProofs := false) [enc_list], by simp (implicitDefEqProofs := false) [enc_list]⟩⟩
      · intro k f m hk hi
        obtain ⟨out, rfl, rfl, hl, hs⟩ := (hI _ _ _).1 hi
        have w1 : IntKind.i64.wrap ((k : Int) + 1) = k + 1 := wrap64 (by omega) (by omega)
        have hf : fits (out.length + 1) 8 = true := fits8L (by omega)
        rw [List.drop_eq_getElem_cons hk, List.map_cons] at hs
        refine VW.run good [] ?_; simp (implicitDefEqProofs := false) [enc_list, hk, get_Decree c.Decrees k hk, hf, w1, spliceV]
        have e1 : (out ++ [c.Decrees[k].Day]).length = out.length + 1 := by simp
        exact ⟨_, _, (hI _ _ _).2 ⟨out ++ [c.Decrees[k].Day], rfl, rfl, by rw [e1]; omega, by rw [hs]; simp⟩, ⟨2, [], by simp [enc_list,  e1], by simp, by simp, by simp (implicitDefEqProofs := false) [enc_list,  e1], by simp (implicitDefEqProofs := false) [enc_list,  e1]⟩⟩
      · intro f m hi
        obtain ⟨out, rfl, rfl, hl, hs⟩ := (hI _ _ _).1 hi
        rw [List.drop_length, List.map_nil, List.append_nil] at hs
        subst hs
        refine VW.run good [] ?_; simp (implicitDefEqProofs := false) [enc_list]
        exact ⟨2, [], by simp [enc_list], by simp, by simp, by simp (implicitDefEqProofs := false) [enc_list], by simp (implicitDefEqProofs := false) [enc_list]⟩
    · simp (implicitDefEqProofs := false); refine .ofCut hc (VW.run good [] ?_); simp (implicitDefEqProofs := false) [enc_list]
      cases hh : headC c
      · rw [hh] at hck
        simp (implicitDefEqProofs := false) [enc_list, hck]
      · rw [hh, Bool.true_and] at hck
        cases hcl : climbsR c.Days 0 D
        · rw [hcl] at hck
          simp (implicitDefEqProofs := false) [enc_list, hcl, hck]
        · rw [hcl] at hck
          simp (implicitDefEqProofs := false) [enc_list, hcl, hck]
  · cases hr
end Go.RS.DC

/- Walks: the reference (4): what is told. -/
namespace Go.RS.DC
open Go Go.RS
open Go.RS.Enc (enc dec)
variable {E : VEnv}
def lim {α : Type} (c : Cal) (x : α) : Option α := if c.Decrees.length ≤ 8796093021952 then some x else none
theorem checkF_ok {c : Cal} (hL : c.Decrees.length ≤ 8796093021952) (ho : okC c = true) : checkF c = some 0 := by unfold checkF checkR; rw [if_pos hL, if_pos ho]
theorem checkF_no {c : Cal} (hL : c.Decrees.length ≤ 8796093021952) (ho : okC c = false) : checkF c = some 10 := by unfold checkF checkR; rw [if_pos hL, if_neg (by simp [ho])]
theorem w_ReadingR (hE : E.env.fn = G) : Ok E 75 (s2 fun c t => lim c (ReadingR c t)) := by
  refine ok2 fun c t r hr => ?_
  unfold lim at hr
  split at hr
  · rename_i hL
    cases hr
    have good := goodV_cons (w_Check hE) (goodV_cons (w_isTick hE) (goodV_cons (w_reading hE) goodV_nil))
    cases ho : okC c
    · refine VP.run (A := F75) (good) [] (by rw [hE]; rfl) (by simp [F75]) ?_; unfold F75; simp (implicitDefEqProofs := false) [enc_list, checkF_no hL ho, ReadingR, ho, zeroRd, spliceV]
    · have w1 : isTickF c t = some (wi t 0 (allR c - 1)) := if_pos ho
      cases hd : wi t 0 (allR c - 1)
      · refine VP.run (A := F75) (good) [] (by rw [hE]; rfl) (by simp [F75]) ?_; unfold F75; simp (implicitDefEqProofs := false) [enc_list, checkF_ok hL ho, ReadingR, ho, w1, hd, zeroRd, spliceV]
      · have w2 : readF c t = some (readR c t) := by
          obtain ⟨g1, g2⟩ := (wi_iff _ _ _).1 hd
          exact if_pos ⟨ho, by omega, by omega⟩
        refine VP.run (A := F75) (good) [] (by rw [hE]; rfl) (by simp [F75]) ?_; unfold F75; simp (implicitDefEqProofs := false) [enc_list, checkF_ok hL ho, ReadingR, ho, w1, hd, w2, spliceV]
  · cases hr
end Go.RS.DC

/- Walks: the reference (5): towns. -/
namespace Go.RS.DC
open Go Go.RS
open Go.RS.Enc (enc dec)
variable {E : VEnv}
/-! ### Readings moved -/
def rdOk (r : Reading) : Prop := -100000 ≤ r.Day ∧ r.Day ≤ 100000 ∧ 0 ≤ r.Hour ∧ r.Hour ≤ 100 ∧ 0 ≤ r.Minute ∧ r.Minute ≤ 100
instance (r : Reading) : Decidable (rdOk r) := by unfold rdOk; infer_instance
end Go.RS.DC

/- Walks: the reference (6): the next tick; all ticks of a reading. -/
namespace Go.RS.DC
open Go Go.RS
open Go.RS.Enc (enc dec)
variable {E : VEnv}
theorem w_NextR (hE : E.env.fn = G) : Ok E 76 (s3 fun c t each => lim c (NextR c t each)) := by
  refine ok3 fun c t each r hr => ?_
  unfold lim at hr
  split at hr
  · rename_i hL
    cases hr
    have good := goodV_cons (w_Check hE) (goodV_cons (w_isTick hE) (goodV_cons (w_reading hE) (goodV_cons (w_Lies hE) goodV_nil)))
    cases ho : okC c
    · refine VP.run (A := F76) (good) [] (by rw [hE]; rfl) (by simp [F76]) ?_; unfold F76; simp (implicitDefEqProofs := false) [enc_list, checkF_no hL ho, NextR, ho]
    · have o := okC_ok ho
      have ab := allR_b o
      have w2 : ∀ x, isTickF c x = some (wi x 0 (allR c - 1)) := fun x => if_pos ho
      cases h1 : wi t 0 (allR c - 1)
      · refine VP.run (A := F76) (good) [] (by rw [hE]; rfl) (by simp [F76]) ?_; unfold F76; simp (implicitDefEqProofs := false) [enc_list, checkF_ok hL ho, NextR, ho, w2, h1]
      · cases h2 : wi each 1 60
        · refine VP.run (A := F76) (good) [] (by rw [hE]; rfl) (by simp [F76]) ?_; unfold F76; simp (implicitDefEqProofs := false) [enc_list, checkF_ok hL ho, NextR, ho, w2, h1, h2]
        · obtain ⟨t0, t1⟩ := (wi_iff _ _ _).1 h1
          obtain ⟨e0, e1⟩ := (wi_iff _ _ _).1 h2
          have hN : NextR c t each = nextL c each (allR c - t).toNat t := by unfold NextR; rw [ho, h1, h2]; rfl
          generalize hT : nextL c each (allR c - t).toNat t = T at hN
          rw [hN]
          obtain ⟨N, hNN⟩ : ∃ N : Nat, (allR c - t).toNat = N := ⟨_, rfl⟩
          have hNt : t + (N : Int) = allR c := by omega
          rw [hNN] at hT
          refine VP.run (A := F76) (good) [] (by rw [hE]; rfl) (by simp [F76]) ?_; unfold F76; simp (implicitDefEqProofs := false) [enc_list, checkF_ok hL ho, ho, w2, h1, h2]
          refine VW.loop_to 0 [] [] (T = (0, 4)) ?_ (fun hp f m hc => ?_)
          · obtain ⟨Inv, hI⟩ : ∃ Inv : Nat → List (Nat × PV) → VM → Prop, ∀ k f m, Inv k f m ↔ (f = [(2, .int .i64 each), (3, .ptr 0 5 0), (9, .int .i64 (t + k))] ∧ m = [clc c] ∧ T = nextL c each (N - k) (t + k)) := ⟨_, fun _ _ _ => Iff.rfl⟩
            refine VW.loop_cut Inv N ?_ ?_ ?_
            · exact ⟨_, _, (hI _ _ _).2 ⟨rfl, rfl, by simpa using hT.symm⟩, ⟨1, [], by simp [enc_list], by simp, by simp, by simp (implicitDefEqProofs := false) [enc_list], by simp (implicitDefEqProofs := false) [enc_list]⟩⟩
            · intro k f m hk hi
              obtain ⟨rfl, rfl, hs⟩ := (hI _ _ _).1 hi
              rw [show N - k = N - (k + 1) + 1 by omega, nextL] at hs
              have w1 : IntKind.i64.wrap (t + k + 1) = t + ((k : Nat) + 1) := by rw [Int.add_assoc]; exact wrap64 (by omega) (by omega)
              have h3 : wi (t + k) 0 (allR c - 1) = true := (wi_iff _ _ _).2 (by omega)
              have w3 : readF c (t + k) = some (readR c (t + k)) := if_pos ⟨ho, by omega, by omega⟩
              have hv := (read_valid o (t := t + k) (by omega) (by omega)).1
              simp only [validR, Bool.and_eq_true, wi_iff] at hv
              have h4 : (readR c (t + k)).Second.tmod each = (readR c (t + k)).Second % each := Int.tmod_eq_emod_of_nonneg hv.2.1
              have h5 := Int.emod_nonneg (readR c (t + k)).Second (show each ≠ 0 by omega)
              have h6 := Int.emod_lt_of_pos (readR c (t + k)).Second (show 0 < each by omega)
              have h7 : each ≠ 0 := by omega
              have w4 : IntKind.i64.wrap ((readR c (t + k)).Second % each) = (readR c (t + k)).Second % each := wrap64 (by omega) (by omega)
              by_cases hz : (readR c (t + k)).Second % each = 0
              · rw [if_pos hz] at hs
                refine VW.run good [] ?_; simp (implicitDefEqProofs := false) [enc_list, w1, w2, h3, w3, h4, h7, w4, hz, hs]
              · rw [if_neg hz] at hs
                refine VW.run good [] ?_; simp (implicitDefEqProofs := false) [enc_list, w1, w2, h3, w3, h4, h7, w4, hz]
                exact ⟨_, _, (hI _ _ _).2 ⟨rfl, rfl, hs.trans (by rw [show t + ((k + 1 : Nat) : Int) = t + k + 1 by omega])⟩, ⟨1, [], by simp [enc_list], by simp, by simp, by simp (implicitDefEqProofs := false) [enc_list], by simp (implicitDefEqProofs := false) [enc_list]⟩⟩
            · intro f m hi
              obtain ⟨rfl, rfl, hs⟩ := (hI _ _ _).1 hi
              rw [Nat.sub_self, nextL] at hs
              have h3 : wi (t + (N : Int)) 0 (allR c - 1) = false := by
                rw [Bool.eq_false_iff]; intro h; have := (wi_iff _ _ _).1 h; omega
              refine VW.run good [] ?_; simp (implicitDefEqProofs := false) [enc_list, w2, h3]
              exact ⟨hs, ⟨0, [], by simp [enc_list], by simp, by simp, by simp (implicitDefEqProofs := false) [enc_list], by simp (implicitDefEqProofs := false) [enc_list]⟩⟩
          · simp (implicitDefEqProofs := false); refine .ofCut hc (VW.run good [] ?_); simp (implicitDefEqProofs := false) [enc_list, hp]
  · cases hr
/-! ### All ticks of a local reading -/
end Go.RS.DC

/- Walks: the reference (7): all ticks of a local reading. -/
namespace Go.RS.DC
open Go Go.RS
open Go.RS.Enc (enc dec)
variable {E : VEnv}
theorem fits8 {n : Nat} (h : n ≤ 100000) : fits n 8 = true := by simp [fits]; omega
end Go.RS.DC

