/- Walks: the law DialDays. -/
import Derived.Test.YtenmjloiadkgjaaDoorDla
set_option linter.all false
namespace Go.RS.DC
open Go Go.RS
open Go.RS.Enc (enc dec)
variable {E : VEnv}
set_option maxHeartbeats 3200000 in
set_option maxRecDepth 20000 in
theorem l_Days (hE : E.env.fn = G) (hgl : E.gl 0 = some [f130v, f131v]) (c : Cal) (n : Int) : VP E 8 [enc c, .int .i64 n] (.bool true) := by
  have good := goodV_cons (w_sound hE) (goodV_cons (w_ticksOf hE) (goodV_cons (w_Rest hE) (goodV_cons (w_LengthP hE) (goodV_cons (w_TickP hE hgl) (goodV_cons (w_ReadingP hE hgl) (goodV_cons (w_at hE) (goodV_cons (w_works hE hgl) goodV_nil)))))))
  cases ho : okC c
  · refine VP.run (A := F8) (good) [] (by rw [hE]; rfl) (by simp [F8]) ?_; unfold F8; simp (implicitDefEqProofs := false) [enc_list, ho]
  · have o := okC_ok ho
    have ab := allR_b o
    have d1 := o.d1
    have d2 := o.d2
    have dl := o.dl
    have h1 := o.h1
    have h2 := o.h2
    have m1 := o.m1
    have m2 := o.m2
    have hm1 := o.hm1
    have hm2 := o.hm2
    have w3 := o.w3
    have hw1 := o.w1
    have hw2 := o.w2
    have s1 := o.s1
    have hT : ticksOfR c = (allR c, true) := if_pos ho
    have v1 : IntKind.i64.wrap (c.Hours * c.Minutes) = c.Hours * c.Minutes := wrap64 (by omega) (by omega)
    have v2 : IntKind.i64.wrap (c.Hours * c.Minutes * c.Seconds) = c.Hours * c.Minutes * c.Seconds := wrap64 (by omega) (by omega)
    obtain ⟨N, hN⟩ : ∃ N : Nat, c.Days.toNat = N := ⟨_, rfl⟩
    have hND : c.Days = (N : Int) := by omega
    have hall : allR c = begR c N := by unfold allR; rw [hN]
    refine VP.run (A := F8) (good) [] (by rw [hE]; rfl) (by simp [F8]) ?_; unfold F8; simp (implicitDefEqProofs := false) [enc_list, ho, hT]
    refine VW.loop_to 0 [(1, .int .i64 n), (2, .ptr 0 5 0), (5, .int .i64 (allR c)), (6, .bool true), (7, .int .i64 (allR c))] [clc c] (True) ?_ (fun hp f m hc => ?_)
    · obtain ⟨Inv, hI⟩ : ∃ Inv : Nat → List (Nat × PV) → VM → Prop, ∀ k f m, Inv k f m ↔ (f = [(1, .int .i64 n), (2, .ptr 0 5 0), (5, .int .i64 (allR c)), (6, .bool true), (7, .int .i64 (begR c k)), (8, .int .i64 k)] ∧ m = [clc c]) := ⟨_, fun _ _ _ => Iff.rfl⟩
      refine VW.loop_cut Inv N ?_ ?_ ?_
      · exact ⟨_, _, (hI _ _ _).2 ⟨rfl, rfl⟩, ⟨1, [], by simp [enc_list,  begR], by simp, by simp, by simp (implicitDefEqProofs := false) [enc_list,  begR], by simp (implicitDefEqProofs := false) [enc_list,  begR]⟩⟩
      · intro k f m hk hv
        obtain ⟨rfl, rfl⟩ := (hI _ _ _).1 hv
        have k1 : (k : Int) < c.Days := by omega
        have q1 := length_of ho (d := (k : Int)) (by omega) k1
        have q2 := tick_at0 ho (d := (k : Int)) (by omega) k1
        have hkn : ((k : Int)).toNat = k := by omega
        rw [hkn] at q2
        have bb := begR_b o k
        have lb := o.lb k
        have w4 : IntKind.i64.wrap ((k : Int) + 1) = k + 1 := wrap64 (by omega) (by omega)
        have w5 : IntKind.i64.wrap (begR c k + lenR c k) = begR c (k + 1) := by rw [begR]; exact wrap64 (by omega) (by omega)
        refine VW.run good [] ?_; simp (implicitDefEqProofs := false) [enc_list, k1, v1, v2]
        refine VW.loop_to 2 [(1, .int .i64 n), (2, .ptr 0 5 0), (5, .int .i64 (allR c)), (6, .bool true), (7, .int .i64 (begR c k)), (8, .int .i64 k), (9, .int .i64 (lenR c k))] [clc c] (True) ?_ (fun hp f m hc => ?_)
        · clear hI hv
          obtain ⟨Inv, hI⟩ : ∃ Inv : Nat → List (Nat × PV) → VM → Prop, ∀ q f m, Inv q f m ↔ (∃ w : Int, f = [(1, .int .i64 n), (2, .ptr 0 5 0), (5, .int .i64 (allR c)), (6, .bool true), (7, .int .i64 (begR c k)), (8, .int .i64 k), (9, .int .i64 w), (10, .int .i64 q)] ∧ m = [clc c] ∧ w + moreR (c.Decrees.drop q) k = lenR c k) := ⟨_, fun _ _ _ => Iff.rfl⟩
          refine VW.loop_cut Inv c.Decrees.length ?_ ?_ ?_
          · exact ⟨_, _, (hI _ _ _).2 ⟨_, rfl, rfl, rfl⟩, ⟨1, [], by simp [enc_list], by simp, by simp, by simp (implicitDefEqProofs := false) [enc_list], by simp (implicitDefEqProofs := false) [enc_list]⟩⟩
          · intro q f m hq hi
            obtain ⟨w, rfl, rfl, hs⟩ := (hI _ _ _).1 hi
            have wq : IntKind.i64.wrap ((q : Int) + 1) = q + 1 := wrap64 (by omega) (by omega)
            have mb := more_len (c.Decrees.drop q) k
            have hdl : (c.Decrees.drop q).length ≤ 10 := by simp; omega
            rw [List.drop_eq_getElem_cons hq, moreR] at hs mb
            have mb2 := more_len (c.Decrees.drop (q + 1)) k
            have hdl2 : (c.Decrees.drop (q + 1)).length ≤ 10 := by simp; omega
            have wa : -200000 ≤ w ∧ w ≤ 200000 := by
              have : -1 ≤ (if c.Decrees[q].Day = (k : Int) then (if c.Decrees[q].Plus = true then 1 else -1) else 0 : Int) ∧ (if c.Decrees[q].Day = (k : Int) then (if c.Decrees[q].Plus = true then 1 else -1) else 0 : Int) ≤ 1 := by
                split <;> (try split) <;> omega
              omega
            have wu : IntKind.i64.wrap (w + 1) = w + 1 := wrap64 (by omega) (by omega)
            have wd : IntKind.i64.wrap (w - 1) = w - 1 := wrap64 (by omega) (by omega)
            by_cases hx : c.Decrees[q].Day = (k : Int)
            · rw [if_pos hx] at hs
              cases hp : c.Decrees[q].Plus
              · rw [hp] at hs
                simp only [Bool.false_eq_true, if_false] at hs
                refine VW.run good [] ?_; simp (implicitDefEqProofs := false) [enc_list, hq, get_Decree c.Decrees q hq, wq, hx, hp, wd]
                exact ⟨_, _, (hI _ _ _).2 ⟨w - 1, rfl, rfl, by omega⟩, ⟨1, [], by simp [enc_list], by simp, by simp, by simp (implicitDefEqProofs := false) [enc_list], by simp (implicitDefEqProofs := false) [enc_list]⟩⟩
              · rw [hp] at hs
                simp only [if_true] at hs
                refine VW.run good [] ?_; simp (implicitDefEqProofs := false) [enc_list, hq, get_Decree c.Decrees q hq, wq, hx, hp, wu]
                exact ⟨_, _, (hI _ _ _).2 ⟨w + 1, rfl, rfl, by omega⟩, ⟨1, [], by simp [enc_list], by simp, by simp, by simp (implicitDefEqProofs := false) [enc_list], by simp (implicitDefEqProofs := false) [enc_list]⟩⟩
            · rw [if_neg hx] at hs
              refine VW.run good [] ?_; simp (implicitDefEqProofs := false) [enc_list, hq, get_Decree c.Decrees q hq, wq, hx]
              exact ⟨_, _, (hI _ _ _).2 ⟨w, rfl, rfl, by omega⟩, ⟨1, [], by simp [enc_list], by simp, by simp, by simp (implicitDefEqProofs := false) [enc_list], by simp (implicitDefEqProofs := false) [enc_list]⟩⟩
          · intro f m hi
            obtain ⟨w, rfl, rfl, hs⟩ := (hI _ _ _).1 hi
            rw [List.drop_length, moreR] at hs
            obtain rfl : w = lenR c k := by omega
            refine VW.run good [] ?_; simp (implicitDefEqProofs := false) [enc_list]
            exact ⟨1, [], by simp [enc_list], by simp, by simp, by simp (implicitDefEqProofs := false) [enc_list], by simp (implicitDefEqProofs := false) [enc_list]⟩
        · simp (implicitDefEqProofs := false); refine .ofCut hc (VW.run good [] ?_); simp (implicitDefEqProofs := false) [enc_list, q1, q2, w4, w5]
          refine VW.run good [] ?_; simp (implicitDefEqProofs := false) [enc_list, w4]
          exact ⟨_, _, (hI _ _ _).2 ⟨rfl, rfl⟩, ⟨1, [], by simp [enc_list], by simp, by simp, by simp (implicitDefEqProofs := false) [enc_list], by simp (implicitDefEqProofs := false) [enc_list]⟩⟩
      · intro f m hv
        obtain ⟨rfl, rfl⟩ := (hI _ _ _).1 hv
        have hlt : ¬ ((N : Nat) : Int) < c.Days := by omega
        refine VW.run good [] ?_; simp (implicitDefEqProofs := false) [enc_list, hlt]
        exact ⟨1, [], by simp [enc_list,  hall], by simp, by simp, by simp (implicitDefEqProofs := false) [enc_list,  hall], by simp (implicitDefEqProofs := false) [enc_list,  hall]⟩
    · have e0 := Int.emod_nonneg n (show c.Days ≠ 0 by omega)
      have e1 := Int.emod_lt_of_pos n (show 0 < c.Days by omega)
      have x0 : restF n c.Days = some (n % c.Days) := if_pos ⟨by omega, by omega⟩
      generalize n % c.Days = d at *
      obtain ⟨dn, hdn⟩ : ∃ dn : Nat, d = dn := ⟨d.toNat, by omega⟩
      subst hdn
      have x1 := tick_at0 ho e0 e1
      have x2 := length_of ho e0 e1
      have hdn : ((dn : Int)).toNat = dn := by omega
      rw [hdn] at x1
      obtain ⟨l1, l2, l3, l4, l5⟩ := last_read o (d := dn) (by omega)
      have x3 := reading_of ho l2 l1
      generalize readR c (begR c dn + lenR c dn - 1) = R at *
      have bb := begR_b o dn
      have lb := o.lb dn
      have y1 : IntKind.i64.wrap (begR c dn + lenR c dn) = begR c dn + lenR c dn := wrap64 (by omega) (by omega)
      have y2 : IntKind.i64.wrap (begR c dn + lenR c dn - 1) = begR c dn + lenR c dn - 1 := wrap64 (by omega) (by omega)
      have y3 : IntKind.i64.wrap ((dn : Int) + 1) = dn + 1 := wrap64 (by omega) (by omega)
      have y4 : IntKind.i64.wrap (c.Hours - 1) = c.Hours - 1 := wrap64 (by omega) (by omega)
      have y5 : IntKind.i64.wrap (c.Minutes - 1) = c.Minutes - 1 := wrap64 (by omega) (by omega)
      by_cases hd : (dn : Int) + 1 < c.Days
      · have x4 := tick_at0 ho (d := (dn : Int) + 1) (by omega) hd
        simp (implicitDefEqProofs := false); refine .ofCut hc (VW.run good [] ?_); simp (implicitDefEqProofs := false) [enc_list, x0, x1, x2, x3, x4, l3, l4, l5, y1, y2, y3, y4, y5, hd, spliceV]
      · have x4 := tick_at0_no ho (d := (dn : Int) + 1) (by omega)
        simp (implicitDefEqProofs := false); refine .ofCut hc (VW.run good [] ?_); simp (implicitDefEqProofs := false) [enc_list, x0, x1, x2, x3, x4, l3, l4, l5, y1, y2, y3, y4, y5, hd, spliceV]
end Go.RS.DC

