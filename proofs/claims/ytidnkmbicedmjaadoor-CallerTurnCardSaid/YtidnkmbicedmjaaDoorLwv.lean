/- Walks: what the statements share. -/
import Derived.Test.YtidnkmbicedmjaaDoorWkd
import Derived.Test.YtidnkmbicedmjaaDoorPlq
import Derived.Test.YtidnkmbicedmjaaDoorLwa
set_option linter.all false
namespace Go.RS.CC
open Go Go.RS
open Go.RS.Enc (enc dec)
variable {E : VEnv}
theorem w_served (hE : E.env.fn = G) : Ok E 39 (s3 fun a b c => some (Served.mk a b c)) := by
  refine ok3 fun a b c r hr => ?_
  cases hr
  refine VP.run (A := F39) (goodV_nil) [] (by rw [hE]; rfl) (by simp [F39]) ?_; unfold F39; simp (implicitDefEqProofs := false) [enc_list, spliceV]
theorem w_during (hE : E.env.fn = G) : Ok E 42 (s2 fun l a => some (joinedR l a : Int)) := by
  refine ok2 fun l a r hr => ?_
  cases hr
  refine VP.bound fun hb => ?_
  simp [enc_list] at hb
  refine VP.run (A := F42) (goodV_nil) [] (by rw [hE]; rfl) (by simp [F42]) ?_; unfold F42; simp (implicitDefEqProofs := false) [enc_list]
  refine VW.loop_to 0 [(5, .int .i64 (joinedR l a))] [] (True) ?_ (fun hp f m hc => ?_)
  · obtain ⟨Inv, hI⟩ : ∃ Inv : Nat → List (Nat × PV) → VM → Prop, ∀ k f m, Inv k f m ↔ (f = [(0, enc l), (1, .int .i64 a), (5, .int .i64 (joinedR (l.take k) a)), (6, .int .i64 k)] ∧ m = []) := ⟨_, fun _ _ _ => Iff.rfl⟩
    refine VW.loop_cut Inv l.length ?_ ?_ ?_
    · exact ⟨_, _, (hI _ _ _).2 ⟨rfl, rfl⟩, ⟨0, [], by simp [enc_list,  joinedR], by simp, by simp, by simp (implicitDefEqProofs := false) [enc_list,  joinedR], by simp (implicitDefEqProofs := false) [enc_list,  joinedR]⟩⟩
    · intro k f m hk hi
      obtain ⟨rfl, rfl⟩ := (hI _ _ _).1 hi
      have w1 : IntKind.i64.wrap ((k : Int) + 1) = k + 1 := wrap64 (by omega) (by omega)
      have hc : joinedR (l.take k) a ≤ k := Nat.le_trans List.countP_le_length (by simp; omega)
      have w2 : IntKind.i64.wrap ((joinedR (l.take k) a : Int) + 1) = joinedR (l.take k) a + 1 := wrap64 (by omega) (by omega)
      have hn : joinedR (l.take (k + 1)) a = joinedR (l.take k) a + if (decide (0 ≤ l[k].Joined) && decide (l[k].Joined ≤ a) && decide (a < l[k].Left)) = true then 1 else 0 := by
        rw [List.take_succ_eq_append_getElem hk, joinedR, List.countP_append, List.countP_singleton]; rfl
      refine VW.run goodV_nil [] ?_; simp (implicitDefEqProofs := false) [enc_list, hk, get_Served l k hk, w1, w2]
      repeat' (first | (refine vstep_split (fun hb => ?_) (fun hb => ?_) <;> (try simp only [Bool.not_eq_eq_eq_not, Bool.not_true, Bool.not_false, decide_eq_true_eq, decide_eq_false_iff_not] at hb) <;> simp (implicitDefEqProofs := false) [hb, enc_list, w1, w2, hk, get_Served l k hk]) | (refine vcond_split (fun hb => ?_) (fun hb => ?_) <;> (try simp only [Bool.not_eq_eq_eq_not, Bool.not_true, Bool.not_false, decide_eq_true_eq, decide_eq_false_iff_not] at hb) <;> simp (implicitDefEqProofs := false) [hb, enc_list, w1, w2, hk, get_Served l k hk]))
      all_goals refine ⟨_, _, (hI _ _ _).2 ⟨rfl, rfl⟩, ⟨0, [], by simp [enc_list,  hn, *], by simp, by simp, by simp (implicitDefEqProofs := false) [enc_list,  hn, *], by simp (implicitDefEqProofs := false) [enc_list,  hn, *]⟩⟩
    · intro f m hi
      obtain ⟨rfl, rfl⟩ := (hI _ _ _).1 hi
      refine VW.run goodV_nil [] ?_; simp (implicitDefEqProofs := false) [enc_list]
      exact ⟨0, [], by simp [enc_list], by simp, by simp, by simp (implicitDefEqProofs := false) [enc_list], by simp (implicitDefEqProofs := false) [enc_list]⟩
  · simp (implicitDefEqProofs := false); refine .ofCut hc (VW.run goodV_nil [] ?_); simp (implicitDefEqProofs := false) [enc_list]
def climbsR (below : Int) : Int → List Int → Bool
  | _, [] => true
  | least, x :: l => wi x least (IntKind.i64.wrap (below - 1)) && climbsR below (IntKind.i64.wrap (x + 1)) l
theorem w_Climbs (hE : E.env.fn = G) : Ok E 44 (s2 fun l n => some (climbsR n 0 l)) := by
  refine ok2 fun l n r hr => ?_
  cases hr
  refine VP.bound fun hb => ?_
  simp [enc_list] at hb
  have good := goodV_cons (w_Lies hE) goodV_nil
  generalize hT : climbsR n 0 l = T
  refine VP.run (A := F44) (good) [] (by rw [hE]; rfl) (by simp [F44]) ?_; unfold F44; simp (implicitDefEqProofs := false) [enc_list]
  refine VW.loop_to 0 [] [] (T = true) ?_ (fun hp f m hc => ?_)
  · obtain ⟨Inv, hI⟩ : ∃ Inv : Nat → List (Nat × PV) → VM → Prop, ∀ k f m, Inv k f m ↔ (∃ a : Int, f = [(0, enc l), (1, .int .i64 n), (5, .int .i64 a), (7, enc l), (8, .int .i64 l.length), (9, .int .i64 k)] ∧ m = [] ∧ T = climbsR n a (l.drop k)) := ⟨_, fun _ _ _ => Iff.rfl⟩
    refine VW.loop_cut Inv l.length ?_ ?_ ?_
    · exact ⟨_, _, (hI _ _ _).2 ⟨0, rfl, rfl, hT.symm⟩, ⟨0, [], by simp [enc_list], by simp, by simp, by simp (implicitDefEqProofs := false) [enc_list], by simp (implicitDefEqProofs := false) [enc_list]⟩⟩
    · intro k f m hk hi
      obtain ⟨a, rfl, rfl, hs⟩ := (hI _ _ _).1 hi
      have w1 : IntKind.i64.wrap ((k : Int) + 1) = k + 1 := wrap64 (by omega) (by omega)
      rw [List.drop_eq_getElem_cons hk, climbsR] at hs
      by_cases hw : wi l[k] a (IntKind.i64.wrap (n - 1)) = true
      · rw [hw, Bool.true_and] at hs
        refine VW.run good [] ?_; simp (implicitDefEqProofs := false) [enc_list, hk, get_Int l k hk, w1, hw]
        exact ⟨_, _, (hI _ _ _).2 ⟨_, rfl, rfl, hs⟩, ⟨0, [], by simp [enc_list], by simp, by simp, by simp (implicitDefEqProofs := false) [enc_list], by simp (implicitDefEqProofs := false) [enc_list]⟩⟩
      · have hw : wi l[k] a (IntKind.i64.wrap (n - 1)) = false := by simpa using hw
        rw [hw, Bool.false_and] at hs
        refine VW.run good [] ?_; simp (implicitDefEqProofs := false) [enc_list, hk, get_Int l k hk, w1, hw, hs]
    · intro f m hi
      obtain ⟨a, rfl, rfl, hs⟩ := (hI _ _ _).1 hi
      rw [List.drop_length, climbsR] at hs
      refine VW.run good [] ?_; simp (implicitDefEqProofs := false) [enc_list]
      exact ⟨hs, ⟨0, [], by simp [enc_list], by simp, by simp, by simp (implicitDefEqProofs := false) [enc_list], by simp (implicitDefEqProofs := false) [enc_list]⟩⟩
  · simp (implicitDefEqProofs := false); refine .ofCut hc (VW.run good [] ?_); simp (implicitDefEqProofs := false) [enc_list, hp]
def findR (n : Int) : Nat → List Int → Int
  | _, [] => -1
  | k, x :: l => if x = n then (k : Int) else findR n (k + 1) l
theorem w_Find (hE : E.env.fn = G) : Ok E 45 (s2 fun l n => some (findR n 0 l)) := by
  refine ok2 fun l n r hr => ?_
  cases hr
  refine VP.bound fun hb => ?_
  simp [enc_list] at hb
  generalize hT : findR n 0 l = T
  refine VP.run (A := F45) (goodV_nil) [] (by rw [hE]; rfl) (by simp [F45]) ?_; unfold F45; simp (implicitDefEqProofs := false) [enc_list]
  refine VW.loop_to 0 [] [] (T = -1) ?_ (fun hp f m hc => ?_)
  · obtain ⟨Inv, hI⟩ : ∃ Inv : Nat → List (Nat × PV) → VM → Prop, ∀ k f m, Inv k f m ↔ (f = [(0, enc l), (1, .int .i64 n), (6, enc l), (7, .int .i64 l.length), (8, .int .i64 k)] ∧ m = [] ∧ T = findR n k (l.drop k)) := ⟨_, fun _ _ _ => Iff.rfl⟩
    refine VW.loop_cut Inv l.length ?_ ?_ ?_
    · exact ⟨_, _, (hI _ _ _).2 ⟨rfl, rfl, hT.symm⟩, ⟨0, [], by simp [enc_list], by simp, by simp, by simp (implicitDefEqProofs := false) [enc_list], by simp (implicitDefEqProofs := false) [enc_list]⟩⟩
    · intro k f m hk hi
      obtain ⟨rfl, rfl, hs⟩ := (hI _ _ _).1 hi
      have w1 : IntKind.i64.wrap ((k : Int) + 1) = k + 1 := wrap64 (by omega) (by omega)
      rw [List.drop_eq_getElem_cons hk, findR] at hs
      by_cases hw : l[k] = n
      · rw [if_pos hw] at hs
        refine VW.run goodV_nil [] ?_; simp (implicitDefEqProofs := false) [enc_list, hk, get_Int l k hk, w1, hw, hs]
      · rw [if_neg hw] at hs
        refine VW.run goodV_nil [] ?_; simp (implicitDefEqProofs := false) [enc_list, hk, get_Int l k hk, w1, hw]
        exact ⟨_, _, (hI _ _ _).2 ⟨rfl, rfl, hs⟩, ⟨0, [], by simp [enc_list], by simp, by simp, by simp (implicitDefEqProofs := false) [enc_list], by simp (implicitDefEqProofs := false) [enc_list]⟩⟩
    · intro f m hi
      obtain ⟨rfl, rfl, hs⟩ := (hI _ _ _).1 hi
      rw [List.drop_length, findR] at hs
      refine VW.run goodV_nil [] ?_; simp (implicitDefEqProofs := false) [enc_list]
      exact ⟨hs, ⟨0, [], by simp [enc_list], by simp, by simp, by simp (implicitDefEqProofs := false) [enc_list], by simp (implicitDefEqProofs := false) [enc_list]⟩⟩
  · simp (implicitDefEqProofs := false); refine .ofCut hc (VW.run goodV_nil [] ?_); simp (implicitDefEqProofs := false) [enc_list, hp]
theorem w_Total (hE : E.env.fn = G) : Ok E 46 (s1 fun l : List Int => some (sumW l 0)) := by
  refine ok1 fun l r hr => ?_
  cases hr
  refine VP.bound fun hb => ?_
  simp [enc_list] at hb
  refine VP.run (A := F46) (goodV_nil) [] (by rw [hE]; rfl) (by simp [F46]) ?_; unfold F46; simp (implicitDefEqProofs := false) [enc_list]
  refine VW.loop_to 0 [(3, .int .i64 (sumW l 0))] [] (True) ?_ (fun hp f m hc => ?_)
  · obtain ⟨Inv, hI⟩ : ∃ Inv : Nat → List (Nat × PV) → VM → Prop, ∀ k f m, Inv k f m ↔ (∃ a : Int, f = [(0, enc l), (3, .int .i64 a), (5, enc l), (6, .int .i64 l.length), (7, .int .i64 k)] ∧ m = [] ∧ sumW l 0 = sumW (l.drop k) a) := ⟨_, fun _ _ _ => Iff.rfl⟩
    refine VW.loop_cut Inv l.length ?_ ?_ ?_
    · exact ⟨_, _, (hI _ _ _).2 ⟨0, rfl, rfl, rfl⟩, ⟨0, [], by simp [enc_list], by simp, by simp, by simp (implicitDefEqProofs := false) [enc_list], by simp (implicitDefEqProofs := false) [enc_list]⟩⟩
    · intro k f m hk hi
      obtain ⟨a, rfl, rfl, hs⟩ := (hI _ _ _).1 hi
      have w1 : IntKind.i64.wrap ((k : Int) + 1) = k + 1 := wrap64 (by omega) (by omega)
      rw [List.drop_eq_getElem_cons hk, sumW] at hs
      refine VW.run goodV_nil [] ?_; simp (implicitDefEqProofs := false) [enc_list, hk, get_Int l k hk, w1]
      exact ⟨_, _, (hI _ _ _).2 ⟨_, rfl, rfl, hs⟩, ⟨0, [], by simp [enc_list], by simp, by simp, by simp (implicitDefEqProofs := false) [enc_list], by simp (implicitDefEqProofs := false) [enc_list]⟩⟩
    · intro f m hi
      obtain ⟨a, rfl, rfl, hs⟩ := (hI _ _ _).1 hi
      rw [List.drop_length, sumW] at hs
      refine VW.run goodV_nil [] ?_; simp (implicitDefEqProofs := false) [enc_list]
      exact ⟨0, [], by simp [enc_list,  hs], by simp, by simp, by simp (implicitDefEqProofs := false) [enc_list,  hs], by simp (implicitDefEqProofs := false) [enc_list,  hs]⟩
  · simp (implicitDefEqProofs := false); refine .ofCut hc (VW.run goodV_nil [] ?_); simp (implicitDefEqProofs := false) [enc_list]
open Classical in
noncomputable def countedF (l : List Served) : Option (Int × Int) := if l.length ≤ 1000 ∧ ∀ s ∈ l, SvOk s then some (cntL l 0 0) else none
theorem w_counted (hE : E.env.fn = G) : Ok E 47 (s1 countedF) := by
  refine ok1 fun l r hr => ?_
  unfold countedF at hr
  split at hr
  · rename_i hc
    obtain ⟨hl, hok⟩ := hc
    cases hr
    generalize hT : cntL l 0 0 = T
    obtain ⟨T1, T2⟩ := T
    refine VP.run (A := F47) (goodV_nil) [] (by rw [hE]; rfl) (by simp [F47]) ?_; unfold F47; simp (implicitDefEqProofs := false) [enc_list]
    refine VW.loop_to 0 [(4, .int .i64 T1), (5, .int .i64 T2)] [] (True) ?_ (fun hp f m hc => ?_)
    · obtain ⟨Inv, hI⟩ : ∃ Inv : Nat → List (Nat × PV) → VM → Prop, ∀ k f m, Inv k f m ↔ (∃ n t : Int, f = [(0, enc l), (4, .int .i64 n), (5, .int .i64 t), (6, .int .i64 k)] ∧ m = [] ∧ 0 ≤ n ∧ n ≤ k ∧ 0 ≤ t ∧ t ≤ k * 432301 ∧ (T1, T2) = cntL (l.drop k) n t) := ⟨_, fun _ _ _ => Iff.rfl⟩
      refine VW.loop_cut Inv l.length ?_ ?_ ?_
      · exact ⟨_, _, (hI _ _ _).2 ⟨0, 0, rfl, rfl, by omega, by omega, by omega, by omega, hT.symm⟩, ⟨0, [], by simp [enc_list], by simp, by simp, by simp (implicitDefEqProofs := false) [enc_list], by simp (implicitDefEqProofs := false) [enc_list]⟩⟩
      · intro k f m hk hi
        obtain ⟨n, t, rfl, rfl, n1, n2, t1, t2, hc⟩ := (hI _ _ _).1 hi
        obtain ⟨j1, j2, l1, l2, d⟩ := hok _ (List.getElem_mem hk)
        have w1 : IntKind.i64.wrap ((k : Int) + 1) = k + 1 := wrap64 (by omega) (by omega)
        rw [List.drop_eq_getElem_cons hk, cntL] at hc
        have w2 : IntKind.i64.wrap (n + 1) = n + 1 := wrap64 (by omega) (by omega)
        have w3 : IntKind.i64.wrap (l[k].Left - l[k].Joined) = l[k].Left - l[k].Joined := wrap64 (by omega) (by omega)
        have w4 : IntKind.i64.wrap (t + (l[k].Left - l[k].Joined)) = t + (l[k].Left - l[k].Joined) := wrap64 (by omega) (by omega)
        by_cases hj : 0 ≤ l[k].Joined
        · rw [if_pos hj] at hc
          refine VW.run goodV_nil [] ?_; simp (implicitDefEqProofs := false) [enc_list, hk, get_Served l k hk, w1, w2, w3, w4, hj]
          exact ⟨_, _, (hI _ _ _).2 ⟨n + 1, t + (l[k].Left - l[k].Joined), rfl, rfl, by omega, by omega, by omega, by omega, hc⟩, ⟨0, [], by simp [enc_list], by simp, by simp, by simp (implicitDefEqProofs := false) [enc_list], by simp (implicitDefEqProofs := false) [enc_list]⟩⟩
        · rw [if_neg hj] at hc
          refine VW.run goodV_nil [] ?_; simp (implicitDefEqProofs := false) [enc_list, hk, get_Served l k hk, w1, w2, w3, w4, hj]
          exact ⟨_, _, (hI _ _ _).2 ⟨n, t, rfl, rfl, by omega, by omega, by omega, by omega, hc⟩, ⟨0, [], by simp [enc_list], by simp, by simp, by simp (implicitDefEqProofs := false) [enc_list], by simp (implicitDefEqProofs := false) [enc_list]⟩⟩
      · intro f m hi
        obtain ⟨n, t, rfl, rfl, n1, n2, t1, t2, hc⟩ := (hI _ _ _).1 hi
        rw [List.drop_length, cntL] at hc
        simp only [Prod.mk.injEq] at hc
        obtain ⟨rfl, rfl⟩ := hc
        refine VW.run goodV_nil [] ?_; simp (implicitDefEqProofs := false) [enc_list]
        exact ⟨0, [], by simp [enc_list], by simp, by simp, by simp (implicitDefEqProofs := false) [enc_list], by simp (implicitDefEqProofs := false) [enc_list]⟩
    · simp (implicitDefEqProofs := false); refine .ofCut hc (VW.run goodV_nil [] ?_); simp (implicitDefEqProofs := false) [enc_list]
  · cases hr
theorem w_hourly (hE : E.env.fn = G) : Ok E 38 (s2 fun (b : Book) (n : Span) => if 1 ≤ b.Hours.length then some (n.Low % b.Hours.length, 1 + n.High % 20) else none) := by
  refine ok2 fun b n r hr => ?_
  split at hr
  · rename_i hl
    cases hr
    refine VP.bound fun hb => ?_
    simp [enc_list] at hb
    have good := goodV_cons (w_Rest hE) goodV_nil
    have r1 : restF n.Low b.Hours.length = some (n.Low % b.Hours.length) := if_pos ⟨by omega, by omega⟩
    have r2 : restF n.High 20 = some (n.High % 20) := if_pos ⟨by omega, by omega⟩
    have w1 : IntKind.i64.wrap (1 + n.High % 20) = 1 + n.High % 20 := wrap64 (by omega) (by omega)
    refine VP.run (A := F38) (good) [] (by rw [hE]; rfl) (by simp [F38]) ?_; unfold F38; simp (implicitDefEqProofs := false) [enc_list, r1, r2, w1]
  · cases hr
theorem w_sound (hE : E.env.fn = G) : Ok E 37 (s1 fun b => some (okR b)) := by
  refine ok1 fun b r hr => ?_
  cases hr
  refine VP.bound fun hb => ?_
  simp [enc_list] at hb
  have good := goodV_cons (w_CheckP hE) (goodV_cons (w_Lies hE) goodV_nil)
  by_cases ho : okR b = true
  · have bo := okR_ok ho
    have s1 := bo.s1
    have s2 := bo.s2
    have h1 := bo.h1
    have h2 := bo.h2
    have v1 : wi b.Each 1 60 = true := (wi_iff _ _ _).2 ⟨bo.e1, bo.e2⟩
    have v2 : wi b.Fee 0 100 = true := (wi_iff _ _ _).2 ⟨bo.f1, bo.f2⟩
    have v3 : wi b.Rate 0 100 = true := (wi_iff _ _ _).2 ⟨bo.r1, bo.r2⟩
    have v4 : wi b.Unit 1 600 = true := (wi_iff _ _ _).2 ⟨bo.u1, bo.u2⟩
    have v5 : wi b.Shares.length 1 4 = true := (wi_iff _ _ _).2 ⟨by omega, by omega⟩
    have v6 : wi b.Hours.length 1 5 = true := (wi_iff _ _ _).2 ⟨by omega, by omega⟩
    refine VP.run (A := F37) (good) [] (by rw [hE]; rfl) (by simp [F37]) ?_; unfold F37; simp (implicitDefEqProofs := false) [enc_list, checkR, ho, v1, v2, v3, v4, v5, v6]
    refine VW.loop_to 0 [(3, .bool true)] [] (True) ?_ (fun hp f m hc => ?_)
    · obtain ⟨Inv, hI⟩ : ∃ Inv : Nat → List (Nat × PV) → VM → Prop, ∀ k f m, Inv k f m ↔ (f = [(1, .ptr 0 6 0), (3, .bool true), (4, .int .i64 k)] ∧ m = [bkc b]) := ⟨_, fun _ _ _ => Iff.rfl⟩
      refine VW.loop_cut Inv b.Hours.length ?_ ?_ ?_
      · exact ⟨_, _, (hI _ _ _).2 ⟨rfl, rfl⟩, ⟨1, [], by simp [enc_list], by simp, by simp, by simp (implicitDefEqProofs := false) [enc_list], by simp (implicitDefEqProofs := false) [enc_list]⟩⟩
      · intro k f m hk hi
        obtain ⟨rfl, rfl⟩ := (hI _ _ _).1 hi
        have w1 : IntKind.i64.wrap ((k : Int) + 1) = k + 1 := wrap64 (by omega) (by omega)
        have hl := bo.hl _ (List.getElem_mem hk)
        have hc := bo.hc _ (List.getElem_mem hk)
        have hg := get_List b.Hours k hk
        generalize b.Hours[k] = q at *
        have hl' : (q.length : Int) ≤ 12 := by omega
        refine VW.run good [] ?_; simp (implicitDefEqProofs := false) [enc_list, hk, hg, hl']
        refine VW.loop_to 2 [(1, .ptr 0 6 0), (3, .bool true), (4, .int .i64 k)] [bkc b] (True) ?_ (fun hp f m hc => ?_)
        · clear hI hi
          obtain ⟨Inv, hI⟩ : ∃ Inv : Nat → List (Nat × PV) → VM → Prop, ∀ j f m, Inv j f m ↔ (f = [(1, .ptr 0 6 0), (3, .bool true), (4, .int .i64 k), (5, enc q), (6, .int .i64 j)] ∧ m = [bkc b]) := ⟨_, fun _ _ _ => Iff.rfl⟩
          refine VW.loop_cut Inv q.length ?_ ?_ ?_
          · exact ⟨_, _, (hI _ _ _).2 ⟨rfl, rfl⟩, ⟨1, [], by simp [enc_list], by simp, by simp, by simp (implicitDefEqProofs := false) [enc_list], by simp (implicitDefEqProofs := false) [enc_list]⟩⟩
          · intro j f m hj hi
            obtain ⟨rfl, rfl⟩ := (hI _ _ _).1 hi
            have w2 : IntKind.i64.wrap ((j : Int) + 1) = j + 1 := wrap64 (by omega) (by omega)
            obtain ⟨⟨x1, x2, x3, x4, x5, x6⟩, x7, x8⟩ := hc _ (List.getElem_mem hj)
            have w3 : IntKind.i64.wrap ((b.Shares.length : Int) - 1) = b.Shares.length - 1 := wrap64 (by omega) (by omega)
            have u1 : wi q[j].At 0 3599 = true := (wi_iff _ _ _).2 ⟨x1, x2⟩
            have u2 : wi q[j].Wait 0 3600 = true := (wi_iff _ _ _).2 ⟨x3, x4⟩
            have u3 : wi q[j].Hear 1 5 = true := (wi_iff _ _ _).2 ⟨x5, x6⟩
            have u4 : wi q[j].From 0 ((b.Shares.length : Int) - 1) = true := (wi_iff _ _ _).2 ⟨x7, by omega⟩
            refine VW.run good [] ?_; simp (implicitDefEqProofs := false) [enc_list, hj, get_Call q j hj, w2, w3, u1, u2, u3, u4]
            exact ⟨_, _, (hI _ _ _).2 ⟨rfl, rfl⟩, ⟨1, [], by simp [enc_list], by simp, by simp, by simp (implicitDefEqProofs := false) [enc_list], by simp (implicitDefEqProofs := false) [enc_list]⟩⟩
          · intro f m hi
            obtain ⟨rfl, rfl⟩ := (hI _ _ _).1 hi
            refine VW.run good [] ?_; simp (implicitDefEqProofs := false) [enc_list]
            exact ⟨1, [], by simp [enc_list], by simp, by simp, by simp (implicitDefEqProofs := false) [enc_list], by simp (implicitDefEqProofs := false) [enc_list]⟩
        · simp (implicitDefEqProofs := false); refine .ofCut hc (VW.run good [] ?_); simp (implicitDefEqProofs := false) [enc_list, w1]
          exact ⟨_, _, (hI _ _ _).2 ⟨rfl, rfl⟩, ⟨1, [], by simp [enc_list], by simp, by simp, by simp (implicitDefEqProofs := false) [enc_list], by simp (implicitDefEqProofs := false) [enc_list]⟩⟩
      · intro f m hi
        obtain ⟨rfl, rfl⟩ := (hI _ _ _).1 hi
        refine VW.run good [] ?_; simp (implicitDefEqProofs := false) [enc_list]
        exact ⟨0, [], by simp [enc_list], by simp, by simp, by simp (implicitDefEqProofs := false) [enc_list], by simp (implicitDefEqProofs := false) [enc_list]⟩
    · simp (implicitDefEqProofs := false); refine .ofCut hc (VW.run good [] ?_); simp (implicitDefEqProofs := false) [enc_list]
  · have ho : okR b = false := by simpa using ho
    refine VP.run (A := F37) (good) [] (by rw [hE]; rfl) (by simp [F37]) ?_; unfold F37; simp (implicitDefEqProofs := false) [enc_list, checkR, ho]
    refine VW.loop_to 0 [(3, .bool false)] [] (True) ?_ (fun hp f m hc => ?_)
    · obtain ⟨Inv, hI⟩ : ∃ Inv : Nat → List (Nat × PV) → VM → Prop, ∀ k f m, Inv k f m ↔ (f = [(1, .ptr 0 6 0), (3, .bool false), (4, .int .i64 k)] ∧ m = [bkc b]) := ⟨_, fun _ _ _ => Iff.rfl⟩
      refine VW.loop_cut Inv 0 ?_ ?_ ?_
      · exact ⟨_, _, (hI _ _ _).2 ⟨rfl, rfl⟩, ⟨1, [], by simp [enc_list], by simp, by simp, by simp (implicitDefEqProofs := false) [enc_list], by simp (implicitDefEqProofs := false) [enc_list]⟩⟩
      · intro k f m hk hi
        omega
      · intro f m hi
        obtain ⟨rfl, rfl⟩ := (hI _ _ _).1 hi
        refine VW.run good [] ?_; simp (implicitDefEqProofs := false) [enc_list]
        exact ⟨0, [], by simp [enc_list], by simp, by simp, by simp (implicitDefEqProofs := false) [enc_list], by simp (implicitDefEqProofs := false) [enc_list]⟩
    · simp (implicitDefEqProofs := false); refine .ofCut hc (VW.run good [] ?_); simp (implicitDefEqProofs := false) [enc_list]
end Go.RS.CC

/- What the statements share: the hour and the channels that numbers choose. -/
namespace Go.RS.CC
open Go Go.RS
open Go.RS.Enc (enc dec)
/-- An hour and channels, as numbers choose them. -/
structure Pick (b : Book) (n0 n1 H C : Int) (q : List Call) (S : List Served) : Prop where
  h : n0 % b.Hours.length = H
  c : 1 + n1 % 20 = C
  h0 : 0 ≤ H
  h1 : H < b.Hours.length
  hh : H.toNat < b.Hours.length
  c1 : 1 ≤ C
  c2 : C ≤ 20
  ask : askedR b H C = 0
  mem : q ∈ b.Hours
  get : b.Hours[H.toNat]? = some q
  hour : hourOf b H = q
  serve : ServeR b H C = (S, 0)
  eq : serveR b.Each C [] q = S
  sched : Sched b.Each C q S
  len : S.length = q.length
  l12 : q.length ≤ 12
  ok : ∀ s ∈ S, SvOk s
theorem asked_of {b : Book} (ho : okR b = true) {H C : Int} (h0 : 0 ≤ H) (h1 : H < b.Hours.length) (c1 : 1 ≤ C) (c2 : C ≤ 20) : askedR b H C = 0 := by
  have bo := okR_ok ho
  have l1 := bo.h1
  have l2 := bo.h2
  have hm : lenm b.Hours.length = (b.Hours.length : Int) - 1 := wrap64 (by omega) (by omega)
  unfold askedR
  rw [if_pos ho, hm, (wi_iff H 0 _).2 ⟨h0, by omega⟩, (wi_iff C 1 20).2 ⟨c1, c2⟩]
  rfl
theorem pick_of {b : Book} (ho : okR b = true) (n0 n1 : Int) : ∃ H C q S, Pick b n0 n1 H C q S := by
  have bo := okR_ok ho
  have l1 := bo.h1
  have l2 := bo.h2
  have h0 := Int.emod_nonneg n0 (show (b.Hours.length : Int) ≠ 0 by omega)
  have h1 := Int.emod_lt_of_pos n0 (show (0 : Int) < b.Hours.length by omega)
  have c0 := Int.emod_nonneg n1 (show (20 : Int) ≠ 0 by omega)
  have c1 := Int.emod_lt_of_pos n1 (show (0 : Int) < 20 by omega)
  generalize hH : n0 % b.Hours.length = H at *
  generalize hC : 1 + n1 % 20 = C
  have ha := asked_of ho h0 h1 (C := C) (by omega) (by omega)
  obtain ⟨hm, hh, hd⟩ := hourOf_mem h0 h1
  refine ⟨H, C, hourOf b H, serveR b.Each C [] (hourOf b H), hH, hC, h0, h1, hh, by omega, by omega, ha, hm, by rw [hd, List.getElem?_eq_getElem hh], rfl, by rw [ServeR, if_pos ha], rfl, sched_of ho hm, by rw [serveR_len]; simp, bo.hl _ hm, fun s hs => ?_⟩
  rcases serveR_mem hs with hs | ⟨x, hx, o, rfl⟩
  · cases hs
  · exact oneR_ok bo.e1 bo.e2 (bo.hc _ hm x hx).1
theorem Pick.gl {b : Book} {n0 n1 H C : Int} {q : List Call} {S : List Served} (p : Pick b n0 n1 H C q S) : List.drop H.toNat (encL b.Hours) = [enc q] ++ encL (b.Hours.drop (H.toNat + 1)) := by
  have := get_List b.Hours H.toNat p.hh
  have e : b.Hours[H.toNat]'p.hh = q := by
    have := p.get
    rw [List.getElem?_eq_getElem p.hh] at this
    exact Option.some.inj this
  rw [e] at this
  exact this
theorem slV_hi {n i : Nat} (h : i ≤ n) : slV n none (some (PV.int .i64 i)) none = some (0, i, none) := by
  simp [slV, boundV, numV, mOk, h]
end Go.RS.CC

