/- Walks: what the laws share. -/
import Derived.Test.YtenmjloiadkgjaaDoorDxb
import Derived.Test.YtenmjloiadkgjaaDoorDxc
import Derived.Test.YtenmjloiadkgjaaDoorDwa
set_option linter.all false
namespace Go.RS.DC
open Go Go.RS
open Go.RS.Enc (enc dec)
variable {E : VEnv}
theorem w_sound (hE : E.env.fn = G) : Ok E 40 (s1 fun c => some (okC c)) := by
  refine ok1 fun c r hr => ?_
  cases hr
  have good := goodV_cons (w_CheckP hE) (goodV_cons (w_Lies hE) goodV_nil)
  cases ho : okC c
  · have hck : checkR c = 10 := by unfold checkR; rw [ho]; rfl
    refine VP.run (A := F40) (good) [] (by rw [hE]; rfl) (by simp [F40]) ?_; unfold F40; simp (implicitDefEqProofs := false) [enc_list, hck]
    refine VW.loop_to 0 [(3, .bool false)] [] (True) ?_ (fun hp f m hc => ?_)
    · obtain ⟨Inv, hI⟩ : ∃ Inv : Nat → List (Nat × PV) → VM → Prop, ∀ k f m, Inv k f m ↔ (f = [(1, .ptr 0 5 0), (3, .bool false), (4, .int .i64 0)] ∧ m = [clc c]) := ⟨_, fun _ _ _ => Iff.rfl⟩
      refine VW.loop_cut Inv 0 ?_ ?_ ?_
      · exact ⟨_, _, (hI _ _ _).2 ⟨rfl, rfl⟩, ⟨1, [], by simp [enc_list], by simp, by simp, by simp (implicitDefEqProofs := false) [enc_list], by simp (implicitDefEqProofs := false) [enc_list]⟩⟩
      · intro k f m hk hi
        omega
      · intro f m hi
        obtain ⟨rfl, rfl⟩ := (hI _ _ _).1 hi
        refine VW.run good [] ?_; simp (implicitDefEqProofs := false) [enc_list]
        exact ⟨0, [], by simp [enc_list], by simp, by simp, by simp (implicitDefEqProofs := false) [enc_list], by simp (implicitDefEqProofs := false) [enc_list]⟩
    · simp (implicitDefEqProofs := false); refine .ofCut hc (VW.run good [] ?_); simp (implicitDefEqProofs := false) [enc_list]
  · have hck : checkR c = 0 := by unfold checkR; rw [ho]; rfl
    have o := okC_ok ho
    have e1 : wi c.Hours 1 24 = true := (wi_iff _ _ _).2 ⟨o.h1, o.h2⟩
    have e2 : wi c.Minutes 1 60 = true := (wi_iff _ _ _).2 ⟨o.m1, o.m2⟩
    have e3 : wi c.Seconds 2 60 = true := (wi_iff _ _ _).2 ⟨o.s1, o.s2⟩
    have e4 : wi c.Days 1 10 = true := (wi_iff _ _ _).2 ⟨o.d1, o.d2⟩
    have e5 : ((c.Decrees.length : Int) ≤ 10) = True := by have := o.dl; simp; omega
    have d1 := o.d1
    have d2 := o.d2
    have dl := o.dl
    have w3 : IntKind.i64.wrap (c.Days - 1) = c.Days - 1 := wrap64 (by omega) (by omega)
    obtain ⟨_, hin⟩ := climb_sorted _ _ _ o.cl
    refine VP.run (A := F40) (good) [] (by rw [hE]; rfl) (by simp [F40]) ?_; unfold F40; simp (implicitDefEqProofs := false) [enc_list, hck, e1, e2, e3, e4, e5, dl]
    refine VW.loop_to 0 [(3, .bool true)] [] (True) ?_ (fun hp f m hc => ?_)
    · obtain ⟨Inv, hI⟩ : ∃ Inv : Nat → List (Nat × PV) → VM → Prop, ∀ k f m, Inv k f m ↔ (f = [(1, .ptr 0 5 0), (3, .bool true), (4, .int .i64 k)] ∧ m = [clc c]) := ⟨_, fun _ _ _ => Iff.rfl⟩
      refine VW.loop_cut Inv c.Decrees.length ?_ ?_ ?_
      · exact ⟨_, _, (hI _ _ _).2 ⟨rfl, rfl⟩, ⟨1, [], by simp [enc_list], by simp, by simp, by simp (implicitDefEqProofs := false) [enc_list], by simp (implicitDefEqProofs := false) [enc_list]⟩⟩
      · intro k f m hk hi
        obtain ⟨rfl, rfl⟩ := (hI _ _ _).1 hi
        have w1 : IntKind.i64.wrap ((k : Int) + 1) = k + 1 := wrap64 (by omega) (by omega)
        have hx : wi c.Decrees[k].Day 0 (c.Days - 1) = true := (wi_iff _ _ _).2 (hin _ (List.getElem_mem hk))
        refine VW.run good [] ?_; simp (implicitDefEqProofs := false) [enc_list, hk, get_Decree c.Decrees k hk, w1, w3, hx]
        exact ⟨_, _, (hI _ _ _).2 ⟨rfl, rfl⟩, ⟨1, [], by simp [enc_list], by simp, by simp, by simp (implicitDefEqProofs := false) [enc_list], by simp (implicitDefEqProofs := false) [enc_list]⟩⟩
      · intro f m hi
        obtain ⟨rfl, rfl⟩ := (hI _ _ _).1 hi
        refine VW.run good [] ?_; simp (implicitDefEqProofs := false) [enc_list]
        exact ⟨0, [], by simp [enc_list], by simp, by simp, by simp (implicitDefEqProofs := false) [enc_list], by simp (implicitDefEqProofs := false) [enc_list]⟩
    · simp (implicitDefEqProofs := false); refine .ofCut hc (VW.run good [] ?_); simp (implicitDefEqProofs := false) [enc_list]
theorem begR_wide {c : Cal} (o : CalOk c) : ∀ n : Nat, begR c n ≤ n * (c.Hours * c.Minutes * c.Seconds + 1)
  | 0 => by simp [begR]
  | n + 1 => by
    have h := begR_wide o n
    have mb := o.mb n
    rw [begR, show ((n + 1 : Nat) : Int) = (n : Int) + 1 from rfl, Int.add_mul]
    unfold lenR
    omega
def ticksOfR (c : Cal) : Int × Bool := if okC c then (allR c, true) else (0, false)
theorem w_ticksOf (hE : E.env.fn = G) : Ok E 41 (s1 fun c => some (ticksOfR c)) := by
  refine ok1 fun c r hr => ?_
  cases hr
  have good := goodV_cons (w_TotalP hE) (goodV_cons (w_Lies hE) goodV_nil)
  cases ho : okC c
  · refine VP.run (A := F41) (good) [] (by rw [hE]; rfl) (by simp [F41]) ?_; unfold F41; simp (implicitDefEqProofs := false) [enc_list, ticksOfR, TotalR, ho]
  · have o := okC_ok ho
    have ab := allR_b o
    have hm1 := o.hm1
    have hm2 := o.hm2
    have w1 := o.w1
    have w2 := o.w2
    have w3 := o.w3
    have s1 := o.s1
    have d1 := o.d1
    have d2 := o.d2
    have hw : allR c ≤ c.Days * (c.Hours * c.Minutes * c.Seconds + 1) := by
      have := begR_wide o c.Days.toNat
      rwa [show ((c.Days.toNat : Nat) : Int) = c.Days by omega] at this
    have g1 : c.Days * (c.Hours * c.Minutes * c.Seconds + 1) ≤ 10 * 86401 := Int.mul_le_mul (by omega) (by omega) (by omega) (by omega)
    have v1 : IntKind.i64.wrap (c.Hours * c.Minutes) = c.Hours * c.Minutes := wrap64 (by omega) (by omega)
    have v2 : IntKind.i64.wrap (c.Hours * c.Minutes * c.Seconds) = c.Hours * c.Minutes * c.Seconds := wrap64 (by omega) (by omega)
    have v3 : IntKind.i64.wrap (c.Hours * c.Minutes * c.Seconds + 1) = c.Hours * c.Minutes * c.Seconds + 1 := wrap64 (by omega) (by omega)
    have v4 : IntKind.i64.wrap (c.Days * (c.Hours * c.Minutes * c.Seconds + 1)) = c.Days * (c.Hours * c.Minutes * c.Seconds + 1) := wrap64 (by omega) (by omega)
    have e1 : wi (allR c) 1 (c.Days * (c.Hours * c.Minutes * c.Seconds + 1)) = true := (wi_iff _ _ _).2 ⟨ab.1, hw⟩
    refine VP.run (A := F41) (good) [] (by rw [hE]; rfl) (by simp [F41]) ?_; unfold F41; simp (implicitDefEqProofs := false) [enc_list, ticksOfR, TotalR, ho, v1, v2, v3, v4, e1]
end Go.RS.DC

/- Walks: the laws' own readings, calendars and towns. -/
namespace Go.RS.DC
open Go Go.RS
open Go.RS.Enc (enc dec)
variable {E : VEnv}
theorem w_at (hE : E.env.fn = G) : Ok E 45 (s4 fun a b c d => some (Reading.mk a b c d)) := by
  refine ok4 fun a b c d r hr => ?_
  cases hr
  refine VP.run (A := F45) (goodV_nil) [] (by rw [hE]; rfl) (by simp [F45]) ?_; unfold F45; simp (implicitDefEqProofs := false) [enc_list, spliceV]
def weekR (d : Int) (p : Bool) : Cal := ⟨3, 4, 10, 2, [⟨d, p⟩]⟩
theorem w_week (hE : E.env.fn = G) : Ok E 53 (s2 fun d p => some (weekR d p)) := by
  refine ok2 fun d p r hr => ?_
  cases hr
  refine VP.run (A := F53) (goodV_nil) [] (by rw [hE]; rfl) (by simp [F53]) ?_; unfold F53; simp (implicitDefEqProofs := false) [enc_list, spliceV, weekR]
  exact .inl rfl
def townR : Town := ⟨5, [⟨60, 3⟩]⟩
theorem w_town (hE : E.env.fn = G) : Ok E 54 (s0 (some townR)) := by
  refine ok0 fun r hr => ?_
  cases hr
  refine VP.run (A := F54) (goodV_nil) [] (by rw [hE]; rfl) (by simp [F54]) ?_; unfold F54; simp (implicitDefEqProofs := false) [enc_list, spliceV, townR]
  exact .inl rfl
theorem w_aheadOf (hE : E.env.fn = G) : Ok E 52 (s2 fun (t : Town) (k : Int) => some (aheadL t.Ahead t.Changes k)) := by
  refine ok2 fun t n r hr => ?_
  cases hr
  refine VP.bound fun hb => ?_
  simp [enc_list] at hb
  generalize hT : aheadL t.Ahead t.Changes n = T
  refine VP.run (A := F52) (goodV_nil) [] (by rw [hE]; rfl) (by simp [F52]) ?_; unfold F52; simp (implicitDefEqProofs := false) [enc_list]
  refine VW.loop_to 0 [(5, .int .i64 T)] [] (True) ?_ (fun hp f m hc => ?_)
  · obtain ⟨Inv, hI⟩ : ∃ Inv : Nat → List (Nat × PV) → VM → Prop, ∀ k f m, Inv k f m ↔ (∃ a : Int, f = [(1, .int .i64 n), (2, .ptr 0 2 0), (5, .int .i64 a), (6, .int .i64 k)] ∧ m = [.cells [enc t.Ahead, enc t.Changes]] ∧ T = aheadL a (t.Changes.drop k) n) := ⟨_, fun _ _ _ => Iff.rfl⟩
    refine VW.loop_cut Inv t.Changes.length ?_ ?_ ?_
    · exact ⟨_, _, (hI _ _ _).2 ⟨_, rfl, rfl, hT.symm⟩, ⟨1, [], by simp [enc_list], by simp, by simp, by simp (implicitDefEqProofs := false) [enc_list], by simp (implicitDefEqProofs := false) [enc_list]⟩⟩
    · intro k f m hk hi
      obtain ⟨a, rfl, rfl, hs⟩ := (hI _ _ _).1 hi
      have w1 : IntKind.i64.wrap ((k : Int) + 1) = k + 1 := wrap64 (by omega) (by omega)
      rw [List.drop_eq_getElem_cons hk, aheadL] at hs
      by_cases hx : t.Changes[k].Tick ≤ n
      · rw [if_pos hx] at hs
        refine VW.run goodV_nil [] ?_; simp (implicitDefEqProofs := false) [enc_list, hk, get_Change t.Changes k hk, w1, hx]
        exact ⟨_, _, (hI _ _ _).2 ⟨_, rfl, rfl, hs⟩, ⟨1, [], by simp [enc_list], by simp, by simp, by simp (implicitDefEqProofs := false) [enc_list], by simp (implicitDefEqProofs := false) [enc_list]⟩⟩
      · rw [if_neg hx] at hs
        refine VW.run goodV_nil [] ?_; simp (implicitDefEqProofs := false) [enc_list, hk, get_Change t.Changes k hk, w1, hx]
        exact ⟨_, _, (hI _ _ _).2 ⟨_, rfl, rfl, hs⟩, ⟨1, [], by simp [enc_list], by simp, by simp, by simp (implicitDefEqProofs := false) [enc_list], by simp (implicitDefEqProofs := false) [enc_list]⟩⟩
    · intro f m hi
      obtain ⟨a, rfl, rfl, hs⟩ := (hI _ _ _).1 hi
      rw [List.drop_length, aheadL] at hs
      subst hs
      refine VW.run goodV_nil [] ?_; simp (implicitDefEqProofs := false) [enc_list]
      exact ⟨0, [], by simp [enc_list], by simp, by simp, by simp (implicitDefEqProofs := false) [enc_list], by simp (implicitDefEqProofs := false) [enc_list]⟩
  · simp (implicitDefEqProofs := false); refine .ofCut hc (VW.run goodV_nil [] ?_); simp (implicitDefEqProofs := false) [enc_list]
theorem w_through (hE : E.env.fn = G) : Ok E 51 (s2 fun (c : Cal) (r : Reading) => some (IntKind.i64.wrap (IntKind.i64.wrap (IntKind.i64.wrap (IntKind.i64.wrap (r.Day * c.Hours) + r.Hour) * c.Minutes) + r.Minute))) := by
  refine ok2 fun (c : Cal) (r : Reading) a hr => ?_
  cases hr
  refine VP.run (A := F51) (goodV_nil) [] (by rw [hE]; rfl) (by simp [F51]) ?_; unfold F51; simp (implicitDefEqProofs := false) [enc_list]
def fitR (x : TownC) : Bool := okC x.C && okT x.C x.T
theorem w_fit (hE : E.env.fn = G) : Ok E 48 (s1 fun x => some (fitR x)) := by
  refine ok1 fun x r hr => ?_
  cases hr
  have good := goodV_cons (w_sound hE) (goodV_cons (w_CheckTownP hE) (goodV_cons (w_Lies hE) goodV_nil))
  cases ho : okC x.C
  · have hf : fitR x = false := by unfold fitR; rw [ho]; rfl
    refine VP.run (A := F48) (good) [] (by rw [hE]; rfl) (by simp [F48]) ?_; unfold F48; simp (implicitDefEqProofs := false) [enc_list, ho, hf]
  · cases ht : okT x.C x.T
    · have hf : fitR x = false := by unfold fitR; rw [ho, ht]; rfl
      have hc : CheckTownR x.C x.T = 12 := by unfold CheckTownR; rw [ho, ht]; rfl
      refine VP.run (A := F48) (good) [] (by rw [hE]; rfl) (by simp [F48]) ?_; unfold F48; simp (implicitDefEqProofs := false) [enc_list, ho, hf, hc]
    · have hf : fitR x = true := by unfold fitR; rw [ho, ht]; rfl
      have hc : CheckTownR x.C x.T = 0 := by unfold CheckTownR; rw [ho, ht]; rfl
      have o := okT_ok ht
      have h1 : wi x.T.Ahead (-1440) 1440 = true := (wi_iff _ _ _).2 ⟨o.a1, o.a2⟩
      have h2 : (x.T.Changes.length : Int) ≤ 6 := by have := o.ln; omega
      refine VP.run (A := F48) (good) [] (by rw [hE]; rfl) (by simp [F48]) ?_; unfold F48; simp (implicitDefEqProofs := false) [enc_list, ho, hf, hc, h1, h2]
end Go.RS.DC

/- Walks: lists that come before others; a number of a span. -/
namespace Go.RS.DC
open Go Go.RS
open Go.RS.Enc (enc dec)
variable {E : VEnv}
theorem firstF_le : ∀ a b : List Int, firstF a b ≤ a.length ∧ firstF a b ≤ b.length
  | [], b => by cases b <;> simp [firstF]
  | _ :: _, [] => by simp [firstF]
  | x :: a, y :: b => by
    have := firstF_le a b
    unfold firstF
    split <;> simp <;> omega
theorem aheadB_first : ∀ a b : List Int, aheadB a b = if h : firstF a b < a.length ∧ firstF a b < b.length then decide (a[firstF a b]'h.1 < b[firstF a b]'h.2) else decide (a.length < b.length)
  | [], [] => by simp [aheadB]
  | [], y :: b => by simp [aheadB, firstF]
  | x :: a, [] => by simp [aheadB, firstF]
  | x :: a, y :: b => by
    have ih := aheadB_first a b
    by_cases hx : x = y
    · have hf : firstF (x :: a) (y :: b) = firstF a b + 1 := by rw [firstF, if_pos hx]
      rw [aheadB, if_pos hx, ih]
      simp only [hf, List.length_cons, Nat.add_lt_add_iff_right, List.getElem_cons_succ]
    · have hf : firstF (x :: a) (y :: b) = 0 := by rw [firstF, if_neg hx]
      rw [aheadB, if_neg hx]
      simp [hf]
theorem w_Ahead (hE : E.env.fn = G) : Ok E 76 (s2 fun a b => some (aheadB a b)) := by
  refine ok2 fun a b r hr => ?_
  cases hr
  have good := goodV_cons (w_First hE) goodV_nil
  obtain ⟨f1, f2⟩ := firstF_le a b
  have hB := aheadB_first a b
  generalize aheadB a b = T at hB
  generalize hF : firstF a b = F at *
  by_cases h1 : F < a.length
  · by_cases h2 : F < b.length
    · rw [dif_pos ⟨h1, h2⟩] at hB
      refine VP.run (A := F76) (good) [] (by rw [hE]; rfl) (by simp [F76]) ?_; unfold F76; simp (implicitDefEqProofs := false) [enc_list, hF, h1, h2, get_Int a F h1, get_Int b F h2, hB]
    · rw [dif_neg (fun h => h2 h.2)] at hB
      refine VP.run (A := F76) (good) [] (by rw [hE]; rfl) (by simp [F76]) ?_; unfold F76; simp (implicitDefEqProofs := false) [enc_list, hF, h1, h2, hB]
  · rw [dif_neg (fun h => h1 h.1)] at hB
    refine VP.run (A := F76) (good) [] (by rw [hE]; rfl) (by simp [F76]) ?_; unfold F76; simp (implicitDefEqProofs := false) [enc_list, hF, h1, hB]
theorem dec_l4 (a b c d : Int) : (dec (PV.lst true 4 1 [.int .i64 a, .int .i64 b, .int .i64 c, .int .i64 d]) : Option (List Int)) = some [a, b, c, d] := rfl
theorem w_later (hE : E.env.fn = G) : Ok E 43 (s2 fun a b => some (aheadB (listR b) (listR a))) := by
  refine ok2 fun a b r hr => ?_
  cases hr
  have good := goodV_cons (w_Ahead hE) goodV_nil
  refine VP.run (A := F43) (good) [] (by rw [hE]; rfl) (by simp [F43]) ?_; unfold F43; simp (implicitDefEqProofs := false) [enc_list, listR, spliceV, dec_l4]
/-- A number of a span: what the program tells. -/
def fromF (s : Span) (n : Int) : Option Int := if -4000000000000000000 ≤ s.Low ∧ s.High ≤ 4000000000000000000 then some (fromR s n) else none
theorem w_From (hE : E.env.fn = G) : Ok E 46 (s2 fromF) := by
  refine ok2 fun s n r hr => ?_
  unfold fromF at hr
  split at hr
  · rename_i hb
    cases hr
    have good := goodV_cons (w_Rest hE) goodV_nil
    by_cases hl : s.High ≤ s.Low
    · have hf : fromR s n = s.Low := if_pos hl
      refine VP.run (A := F46) (good) [] (by rw [hE]; rfl) (by simp [F46]) ?_; unfold F46; simp (implicitDefEqProofs := false) [enc_list, hl, hf]
    · have hf : fromR s n = s.Low + n % (s.High - s.Low + 1) := if_neg hl
      have w1 : IntKind.i64.wrap (s.High - s.Low) = s.High - s.Low := wrap64 (by omega) (by omega)
      have w2 : IntKind.i64.wrap (s.High - s.Low + 1) = s.High - s.Low + 1 := wrap64 (by omega) (by omega)
      have e0 := Int.emod_nonneg n (show s.High - s.Low + 1 ≠ 0 by omega)
      have e1 := Int.emod_lt_of_pos n (show 0 < s.High - s.Low + 1 by omega)
      have w3 : IntKind.i64.wrap (s.Low + n % (s.High - s.Low + 1)) = s.Low + n % (s.High - s.Low + 1) := wrap64 (by omega) (by omega)
      have h2 : ¬ s.High - s.Low + 1 < 1 := by omega
      have h3 : restF n (s.High - s.Low + 1) = some (n % (s.High - s.Low + 1)) := if_pos ⟨by omega, by omega⟩
      refine VP.run (A := F46) (good) [] (by rw [hE]; rfl) (by simp [F46]) ?_; unfold F46; simp (implicitDefEqProofs := false) [enc_list, hl, hf, w1, w2, w3, h2, h3]
  · cases hr
end Go.RS.DC

/- Walks: the examples of the chapter. -/
namespace Go.RS.DC
open Go Go.RS
open Go.RS.Enc (enc dec)
variable {E : VEnv}
theorem ex1 : ReadingR (weekR 0 true) 120 = (⟨0, 2, 3, 10⟩, 0) := by decide +kernel
theorem ex2 : TickR (weekR 1 false) ⟨1, 2, 3, 8⟩ = (238, 0) := by decide +kernel
theorem ex3 : ApartR (weekR 0 true) ⟨0, 2, 3, 0⟩ ⟨1, 0, 0, 0⟩ = (11, 0) := by decide +kernel
theorem ex4 : NextR (weekR 0 true) 116 5 = (120, 0) := by decide +kernel
theorem ex5 : LengthR (weekR 0 true) 0 = (121, 0) := by decide +kernel
theorem ex6 : TotalR (weekR 0 true) = (241, 0) := by decide +kernel
theorem ex7 : LocalR (weekR 0 true) townR 120 = (⟨1, 0, 2, 10⟩, 0) := by decide +kernel
theorem ex8 : TicksR (weekR 0 true) townR ⟨0, 2, 1, 0⟩ = ([40, 60], 0) := by decide +kernel
theorem ex9 : TwiceR (weekR 0 true) townR = (20, 0) := by decide +kernel
theorem l4060 : (dec (PV.lst true 2 1 [.int .i64 40, .int .i64 60]) : Option (List Int)) = some [40, 60] := rfl
set_option maxRecDepth 100000 in
theorem w_works (hE : E.env.fn = G) (hgl : E.gl 0 = some [f130v, f131v]) : Ok E 26 (s0 (some true)) := by
  refine ok0 fun r hr => ?_
  cases hr
  have good := goodV_cons (w_at hE) (goodV_cons (w_week hE) (goodV_cons (w_town hE) (goodV_cons (w_ReadingP hE hgl) (goodV_cons (w_TickP hE hgl) (goodV_cons (w_ApartP hE hgl) (goodV_cons (w_NextP hE hgl) (goodV_cons (w_LengthP hE) (goodV_cons (w_TotalP hE)
    (goodV_cons (w_LocalP hE hgl) (goodV_cons (w_TicksP hE hgl) (goodV_cons (w_TwiceP hE hgl) (goodV_cons (w_Alike hE) goodV_nil))))))))))))
  refine VP.run (A := F26) (good) [] (by rw [hE]; rfl) (by simp [F26]) ?_; unfold F26; simp (implicitDefEqProofs := false) [enc_list, ex1, ex2, ex3, ex4, ex5, ex6, ex7, ex8, ex9, l4060, spliceV]
end Go.RS.DC

/- Walks: the laws (1): what the program tells is what the chapter says. -/
namespace Go.RS.DC
open Go Go.RS
open Go.RS.Enc (enc dec)
variable {E : VEnv}
theorem limS {α : Type} {c : Cal} (hL : c.Decrees.length ≤ 8796093021952) (x : α) : lim c x = some x := if_pos hL
theorem checkFS {c : Cal} (hL : c.Decrees.length ≤ 8796093021952) : checkF c = some (checkR c) := if_pos hL
theorem CheckFS {c : Cal} (hL : c.Decrees.length ≤ 8796093021952) (t : Town) : CheckF c t = some (CheckTownR c t) := if_pos hL
end Go.RS.DC

/- Walks: the laws (2): what is told of ticks and readings. -/
namespace Go.RS.DC
open Go Go.RS
open Go.RS.Enc (enc dec)
variable {E : VEnv}
theorem tick_cases {c : Cal} (ho : okC c = true) (r : Reading) : (TickR c r = (tickR c r, 0) ∧ 0 ≤ tickR c r ∧ tickR c r < 10000000) ∨ TickR c r = (0, 4) := by
  have o := okC_ok ho
  unfold TickR
  rw [if_pos ho]
  by_cases hv : validR c r = true
  · rw [if_pos hv]
    have := tick_read o hv
    have := allR_b o
    exact .inl ⟨rfl, by omega, by omega⟩
  · rw [if_neg hv]; exact .inr rfl
theorem all_mod {c : Cal} (o : CalOk c) (n : Int) : restF n (allR c) = some (n % allR c) ∧ 0 ≤ n % allR c ∧ n % allR c < allR c := by
  have ab := allR_b o
  exact ⟨if_pos ⟨by omega, by omega⟩, Int.emod_nonneg n (by omega), Int.emod_lt_of_pos n (by omega)⟩
theorem reading_of {c : Cal} (ho : okC c = true) {t : Int} (h0 : 0 ≤ t) (h1 : t < allR c) : ReadingR c t = (readR c t, 0) := by
  unfold ReadingR
  rw [if_pos ho, if_pos ((wi_iff _ _ _).2 ⟨h0, by omega⟩)]
theorem reading_out {c : Cal} (ho : okC c = true) {t : Int} (h : t < 0 ∨ allR c ≤ t) : ReadingR c t = (zeroRd, 11) := by
  unfold ReadingR
  rw [if_pos ho, if_neg (fun hw => by have := (wi_iff _ _ _).1 hw; omega)]
theorem tick_of {c : Cal} (ho : okC c = true) {t : Int} (h0 : 0 ≤ t) (h1 : t < allR c) : TickR c (readR c t) = (t, 0) := by
  have := read_valid (okC_ok ho) h0 h1
  unfold TickR
  rw [if_pos ho, if_pos this.1, this.2.1]
theorem not_later_self (r : Reading) : aheadB (listR r) (listR r) = false := by
  rw [Bool.eq_false_iff]; intro h
  have := (later_iff r r).1 h
  unfold laterP at this; omega
end Go.RS.DC

/- Walks: the laws (3): the first tick of a day. -/
namespace Go.RS.DC
open Go Go.RS
open Go.RS.Enc (enc dec)
variable {E : VEnv}
theorem tick_at0 {c : Cal} (ho : okC c = true) {d : Int} (h0 : 0 ≤ d) (h1 : d < c.Days) : TickR c ⟨d, 0, 0, 0⟩ = (begR c d.toNat, 0) := by
  unfold TickR
  rw [if_pos ho, if_pos (show validR c ⟨d, 0, 0, 0⟩ = true from (at0_valid (okC_ok ho) d).2 ⟨h0, h1⟩)]
  exact congrArg (·, (0 : Int)) (at0_tick c)
theorem tick_at0_no {c : Cal} (ho : okC c = true) {d : Int} (h : ¬ (0 ≤ d ∧ d < c.Days)) : TickR c ⟨d, 0, 0, 0⟩ = (0, 4) := by
  unfold TickR
  rw [if_pos ho, if_neg (fun (hv : validR c ⟨d, 0, 0, 0⟩ = true) => h ((at0_valid (okC_ok ho) d).1 hv))]
theorem length_of {c : Cal} (ho : okC c = true) {d : Int} (h0 : 0 ≤ d) (h1 : d < c.Days) : LengthR c d = (lenR c d, 0) := by
  unfold LengthR
  rw [if_pos ho, if_pos ((wi_iff _ _ _).2 ⟨h0, by omega⟩)]
theorem more_len : ∀ (l : List Decree) (d : Int), -(l.length : Int) ≤ moreR l d ∧ moreR l d ≤ l.length
  | [], d => by simp [moreR]
  | x :: l, d => by
    have := more_len l d
    rw [moreR, List.length_cons]
    split <;> (try split) <;> omega
end Go.RS.DC

/- Walks: the laws (4): towns. -/
namespace Go.RS.DC
open Go Go.RS
open Go.RS.Enc (enc dec)
variable {E : VEnv}
abbrev thW (c : Cal) (r : Reading) : Int := IntKind.i64.wrap (IntKind.i64.wrap (IntKind.i64.wrap (IntKind.i64.wrap (r.Day * c.Hours) + r.Hour) * c.Minutes) + r.Minute)
theorem thW_eq {c : Cal} (o : CalOk c) {r : Reading} (hp : properR c r = true) (h0 : -2000 ≤ r.Day) (h1 : r.Day ≤ 2000) : thW c r = thruR c r := by
  simp only [properR, Bool.and_eq_true, wi_iff] at hp
  obtain ⟨⟨a1, a2⟩, b1, b2⟩ := hp
  have H1 := o.h1
  have H2 := o.h2
  have M1 := o.m1
  have M2 := o.m2
  have g1 : r.Day * c.Hours ≤ 2000 * c.Hours := Int.mul_le_mul_of_nonneg_right h1 (by omega)
  have g2 : -2000 * c.Hours ≤ r.Day * c.Hours := Int.mul_le_mul_of_nonneg_right h0 (by omega)
  have g3 : (r.Day * c.Hours + r.Hour) * c.Minutes ≤ 50000 * c.Minutes := Int.mul_le_mul_of_nonneg_right (by omega) (by omega)
  have g4 : -50000 * c.Minutes ≤ (r.Day * c.Hours + r.Hour) * c.Minutes := Int.mul_le_mul_of_nonneg_right (by omega) (by omega)
  unfold thW
  rw [wrap64 (n := r.Day * c.Hours) (by omega) (by omega), wrap64 (n := r.Day * c.Hours + r.Hour) (by omega) (by omega), wrap64 (n := (r.Day * c.Hours + r.Hour) * c.Minutes) (by omega) (by omega)]
  unfold thruR
  exact wrap64 (by omega) (by omega)
theorem fit_ok {x : TownC} (h : fitR x = true) : okC x.C = true ∧ okT x.C x.T = true := by
  unfold fitR at h
  simpa using h
theorem check_fit {x : TownC} (h : fitR x = true) : CheckTownR x.C x.T = 0 := by
  obtain ⟨a, b⟩ := fit_ok h
  unfold CheckTownR; rw [a, b]; rfl
theorem check_unfit {x : TownC} (h : fitR x = false) : CheckTownR x.C x.T = 10 ∨ CheckTownR x.C x.T = 12 := by
  unfold fitR at h
  unfold CheckTownR
  cases ho : okC x.C
  · exact .inl rfl
  · rw [ho] at h
    simp only [Bool.true_and] at h
    rw [h]; exact .inr rfl
theorem climbs_of {c : Cal} (o : CalOk c) {A : Int} (hA : A = allR c) : ∀ (l : List Int) (a : Int), 0 ≤ a → l.Pairwise (· < ·) → (∀ k ∈ l, a ≤ k ∧ k < A) → climbsR A a l = true
  | [], a, _, _, _ => rfl
  | x :: l, a, ha, hs, hb => by
    obtain ⟨h1, h2⟩ := List.pairwise_cons.1 hs
    have ab := allR_b o
    have hx := hb x (by simp)
    have w1 : IntKind.i64.wrap (A - 1) = A - 1 := wrap64 (by omega) (by omega)
    have w2 : IntKind.i64.wrap (x + 1) = x + 1 := wrap64 (by omega) (by omega)
    rw [climbsR, w1, w2, (wi_iff _ _ _).2 ⟨hx.1, by omega⟩, climbs_of o hA l (x + 1) (by omega) h2 (fun k hk => ⟨by have := h1 k hk; omega, (hb k (by simp [hk])).2⟩)]; rfl
theorem ticks_climb {c : Cal} (o : CalOk c) {t : Town} (ot : TownOk c t) (r : Reading) : climbsR (allR c) 0 (ticksR c t r) = true :=
  climbs_of o rfl _ 0 (Int.le_refl 0) (ticksR_sorted o ot r) fun k hk => by
    have := (mem_ticksR o ot r k).1 hk
    exact ⟨this.1, this.2.1⟩
theorem ticks_find {c : Cal} (o : CalOk c) {t : Town} (ot : TownOk c t) (r : Reading) (k : Int) (h0 : 0 ≤ k) (h1 : k < allR c) : (0 ≤ findR k 0 (ticksR c t r)) ↔ localR c t k = r := by
  have hm := mem_ticksR o ot r k
  rcases findR_some k (ticksR c t r) 0 with ⟨g1, g2⟩ | ⟨g1, g2⟩
  · constructor
    · intro h; omega
    · intro h
      have : (ticksR c t r).contains k = true := by simpa using hm.2 ⟨h0, h1, h⟩
      rw [g2] at this; cases this
  · refine ⟨fun _ => (hm.1 (by simpa using g2)).2.2, fun _ => g1⟩
theorem oneL_len (c : Cal) (r : Reading) (a b d : Int) : (oneL c r a b d).length ≤ 1 := by
  unfold oneL; split <;> simp
theorem ticksL_len (c : Cal) (r : Reading) : ∀ (l : List Change) (a b : Int), (ticksL c r a b l).length ≤ l.length + 1
  | [], a, b => by rw [ticksL]; exact oneL_len c r a b _
  | x :: l, a, b => by
    have h1 := oneL_len c r a b x.Tick
    have h2 := ticksL_len c r l x.Tick x.Ahead
    rw [ticksL, List.length_append, List.length_cons]; omega
theorem ticksR_len (c : Cal) (t : Town) (r : Reading) : (ticksR c t r).length ≤ t.Changes.length + 1 := by
  unfold ticksR
  split
  · exact ticksL_len c r _ _ _
  · simp
/-- A town in which nothing changes. -/
theorem okT_plain {c : Cal} {n : Int} (h0 : -1440 ≤ n) (h1 : n ≤ 1440) : okT c ⟨n, []⟩ = true := by
  unfold okT chgOk
  rw [(wi_iff n (-1440) 1440).2 ⟨h0, h1⟩]; rfl
theorem local_zero {c : Cal} (o : CalOk c) {k : Int} (h0 : 0 ≤ k) (h1 : k < allR c) : localR c ⟨0, []⟩ k = readR c k := by
  unfold localR aheadL movedR
  rw [Int.add_zero]
  exact ofThru_thru o (read_proper o h0 h1)
theorem local_of {c : Cal} {t : Town} (h : CheckTownR c t = 0) {k : Int} (h0 : 0 ≤ k) (h1 : k < allR c) : LocalR c t k = (localR c t k, 0) := by
  unfold LocalR
  rw [if_pos h, if_pos ((wi_iff _ _ _).2 ⟨h0, by omega⟩)]
theorem ticks_of {c : Cal} {t : Town} (h : CheckTownR c t = 0) (r : Reading) : TicksR c t r = (ticksR c t r, 0) := if_pos h
theorem check_town {c : Cal} {t : Town} (h1 : okC c = true) (h2 : okT c t = true) : CheckTownR c t = 0 := by unfold CheckTownR; rw [h1, h2]; rfl
end Go.RS.DC

