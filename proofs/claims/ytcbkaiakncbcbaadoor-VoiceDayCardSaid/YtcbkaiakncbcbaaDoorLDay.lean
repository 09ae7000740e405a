/- Walks: the law VoiceDay. -/
import Derived.Test.YtcbkaiakncbcbaaDoorVla
import Derived.Test.YtcbkaiakncbcbaaDoorVpb
set_option linter.all false
namespace Go.RS.DC
open Go Go.RS
open Go.RS.Enc (enc dec)
variable {E : VEnv}
theorem words_read {c : Cal} (o : CalOk c) {t : Int} (h0 : 0 ≤ t) (h1 : t < allR c) : ∃ w, WordsR (readR c t) = (w, 0) := by
  have hv := (read_valid o h0 h1).1
  unfold validR at hv
  simp only [Bool.and_eq_true, wi_iff] at hv
  obtain ⟨⟨⟨v0, v1⟩, v2⟩, v3⟩ := hv
  have a1 := o.h2
  have a2 := o.m2
  have a3 := o.s2
  have sb : secsR c (readR c t).Day (minOf c (readR c t)) ≤ 61 := by
    have hd := v0.1
    have mb := o.mb (readR c t).Day.toNat
    rw [show (((readR c t).Day.toNat : Nat) : Int) = (readR c t).Day by omega] at mb
    unfold secsR; split <;> (try split) <;> omega
  have e1 : wi (readR c t).Hour 0 99 = true := (wi_iff _ _ _).2 ⟨v1.1, by omega⟩
  have e2 : wi (readR c t).Minute 0 99 = true := (wi_iff _ _ _).2 ⟨v2.1, by omega⟩
  have e3 : wi (readR c t).Second 0 99 = true := (wi_iff _ _ _).2 ⟨v3.1, by omega⟩
  exact ⟨_, by unfold WordsR; rw [e1, e2, e3]; rfl⟩
theorem next_all {c : Cal} (ho : okC c = true) {t each : Int} (h0 : 0 ≤ t) (h1 : t < allR c) (he : 1 ≤ each) (he' : each ≤ 60) : (∃ nx, NextR c (t + 1) each = (nx, 0) ∧ t < nx ∧ nx < allR c) ∨ (t + 1 < allR c ∧ NextR c (t + 1) each = (0, 4)) ∨ (¬ t + 1 < allR c ∧ (NextR c (t + 1) each).2 ≠ 0) := by
  unfold NextR
  rw [if_pos ho]
  by_cases h : t + 1 < allR c
  · have hw : (wi (t + 1) 0 (allR c - 1) && wi each 1 60) = true := by rw [Bool.and_eq_true, wi_iff, wi_iff]; omega
    rw [if_pos hw]
    rcases (next_ok (okC_ok ho) (each := each) (t := t + 1) (by omega) h).ok with ⟨h2, h3, h4, _⟩ | ⟨h2, _⟩
    · obtain ⟨r, hr⟩ : ∃ r, nextL c each (allR c - (t + 1)).toNat (t + 1) = r := ⟨_, rfl⟩
      rw [hr] at h2 h3 h4 ⊢
      obtain ⟨r1, r2⟩ := r
      simp only at h2 h3 h4
      subst h2
      exact .inl ⟨r1, rfl, by omega, h4⟩
    · exact .inr (.inl ⟨h, h2⟩)
  · have hw : ¬ (wi (t + 1) 0 (allR c - 1) && wi each 1 60) = true := by rw [Bool.and_eq_true, wi_iff, wi_iff]; omega
    rw [if_neg hw]
    exact .inr (.inr ⟨h, by simp⟩)
set_option maxHeartbeats 1600000 in
set_option maxRecDepth 20000 in
theorem l_Day (hE : E.env.fn = G) (hgl : E.gl 1 = some [f130v, f131v]) (hgl2 : E.gl 0 = some vparts) (b : Book) (c : Cal) (n0 n1 n2 : Int) : VP E 13 [enc b, enc c, .agg [.int .i64 n0, .int .i64 n1, .int .i64 n2]] (.bool true) := by
  have good := goodV_cons (w_TotalP hE) (goodV_cons (v_sound hE) (goodV_cons (w_Rest hE) (goodV_cons (v_Day hE hgl hgl2) (goodV_cons (w_NextP hE hgl) (goodV_cons (w_ReadingP hE hgl) (goodV_cons (v_Words hE hgl2) (goodV_cons (v_Plan hE) (goodV_cons (v_works hE hgl hgl2) goodV_nil))))))))
  obtain ⟨⟨A1, A2⟩, hA⟩ : ∃ r, TotalR c = r := ⟨_, rfl⟩
  cases ho : okB b
  · refine VP.run (A := F13) (good) [] (by rw [hE]; rfl) (by simp [F13]) ?_; unfold F13; simp (implicitDefEqProofs := false) [enc_list, hA, ho]
  · cases hc : okC c
    · have hA' : TotalR c = (0, 10) := by unfold TotalR; rw [hc]; rfl
      refine VP.run (A := F13) (good) [] (by rw [hE]; rfl) (by simp [F13]) ?_; unfold F13; simp (implicitDefEqProofs := false) [enc_list, hA', ho]
    · have oc := okC_ok hc
      obtain ⟨ab1, ab2⟩ := allR_b oc
      have hA' : TotalR c = (allR c, 0) := by unfold TotalR; rw [hc]; rfl
      clear hA
      obtain ⟨all, hall⟩ : ∃ all, allR c = all := ⟨_, rfl⟩
      have hnext := fun t each => next_all hc (t := t) (each := each)
      have hread : ∀ t, 0 ≤ t → t < all → ∃ rd w, ReadingR c t = (rd, 0) ∧ WordsR rd = (w, 0) := fun t h0 h1 => by
        rw [← hall] at h1
        obtain ⟨w, hw⟩ := words_read oc h0 h1
        refine ⟨readR c t, w, ?_, hw⟩
        unfold ReadingR
        rw [if_pos hc, if_pos ((wi_iff _ _ _).2 ⟨h0, by omega⟩)]
      rw [hall] at ab1 ab2 hA' hnext
      have na : ¬ all < 1 := by omega
      have r0 : restF n0 all = some (n0 % all) := if_pos ⟨by omega, by omega⟩
      have r1 : restF n1 60 = some (n1 % 60) := if_pos ⟨by omega, by omega⟩
      have r2 : restF n2 20 = some (n2 % 20) := if_pos ⟨by omega, by omega⟩
      have t0 := Int.emod_nonneg n0 (show all ≠ 0 by omega)
      have t1 := Int.emod_lt_of_pos n0 (show 0 < all by omega)
      have u0 := Int.emod_nonneg n1 (show (60 : Int) ≠ 0 by omega)
      have u1 := Int.emod_lt_of_pos n1 (show (0 : Int) < 60 by omega)
      have m0 := Int.emod_nonneg n2 (show (20 : Int) ≠ 0 by omega)
      have m1 := Int.emod_lt_of_pos n2 (show (0 : Int) < 20 by omega)
      obtain ⟨tick, htick⟩ : ∃ t, n0 % all = t := ⟨_, rfl⟩
      obtain ⟨ee, hee⟩ : ∃ t, n1 % 60 = t := ⟨_, rfl⟩
      obtain ⟨mm, hmm⟩ : ∃ t, n2 % 20 = t := ⟨_, rfl⟩
      rw [htick] at r0 t0 t1
      rw [hee] at r1 u0 u1
      rw [hmm] at r2 m0 m1
      obtain ⟨each, heach⟩ : ∃ e, 1 + ee = e := ⟨_, rfl⟩
      have v1 : IntKind.i64.wrap (1 + ee) = each := by rw [heach]; exact wrap64 (by omega) (by omega)
      obtain ⟨N, hN⟩ : ∃ N : Nat, 1 + mm = N := ⟨(1 + mm).toNat, by omega⟩
      have v2 : IntKind.i64.wrap (1 + mm) = (N : Int) := by rw [hN]; exact wrap64 (by omega) (by omega)
      obtain ⟨L, hL⟩ : ∃ L, dayV (numP b c) c each N tick = L := ⟨_, rfl⟩
      have hLl : L.length ≤ N := by rw [← hL]; exact dayV_len _ _ _ _ _
      have hD : DayP b c tick each N = (L, 0) := by
        obtain ⟨rd, w, h1, _⟩ := hread tick t0 t1
        have he : wi each 1 60 = true := (wi_iff _ _ _).2 ⟨by omega, by omega⟩
        have hm : wi (N : Int) 1 20 = true := (wi_iff _ _ _).2 ⟨by omega, by omega⟩
        unfold DayP dayOk
        simp [ho, h1, he, hm, hL]
      have hLn : ¬ (N < L.length) := by omega
      have hLn' : ¬ ((N : Int) < (L.length : Int)) := by omega
      refine VP.func (A := F13) (by rw [hE]; rfl) (by simp [F13]) ?_; unfold F13
      refine VW.seq (VW.run good [] ?_); simp (implicitDefEqProofs := false) [enc_list]
      refine VW.seq (VW.run good [] ?_); simp (implicitDefEqProofs := false) [enc_list, hA']
      refine VW.seq (VW.run good [] ?_); simp (implicitDefEqProofs := false) [enc_list, ho, na]
      refine VW.seq (VW.run good [] ?_); simp (implicitDefEqProofs := false) [enc_list, r0, r1, r2, v1, v2]
      refine VW.seq (VW.run good [] ?_); simp (implicitDefEqProofs := false) [enc_list, hD]
      refine VW.seq (VW.run good [] ?_); simp (implicitDefEqProofs := false) [enc_list, hLn, hLn']
      refine VW.seq (VW.seq (VW.run good [] ?_))
      simp (implicitDefEqProofs := false) [enc_list]
      refine VW.block ?_
      refine VW.loop_to 0 [(11, .int .i64 N), (12, enc L)] [bcl b, clc c, .cells [.int .i64 n0, .int .i64 n1, .int .i64 n2]] (L.length = N) ?_ (fun hp f m hc => ?_)
      · obtain ⟨Inv, hI⟩ : ∃ Inv : Nat → List (Nat × PV) → VM → Prop, ∀ k f m, Inv k f m ↔ (∃ (pre : List Int) (tk : Int), f = [(3, .ptr 0 6 0), (4, .ptr 1 5 0), (7, .int .i64 all), (9, .int .i64 tk), (10, .int .i64 each), (11, .int .i64 N), (12, enc L), (13, .int .i64 k)] ∧ m = [bcl b, clc c, .cells [.int .i64 n0, .int .i64 n1, .int .i64 n2]] ∧ L = pre ++ dayV (numP b c) c each (N - k) tk ∧ pre.length = k ∧ 0 ≤ tk ∧ tk < all) := ⟨_, fun _ _ _ => Iff.rfl⟩
        refine VW.loop_cut Inv N ?_ ?_ ?_
        · exact ⟨_, _, (hI _ _ _).2 ⟨[], tick, rfl, rfl, by simpa using hL.symm, rfl, t0, t1⟩, ⟨3, [], by simp [enc_list], by simp, by simp, by simp (implicitDefEqProofs := false) [enc_list], by simp (implicitDefEqProofs := false) [enc_list]⟩⟩
        · intro k f m hk hi
          obtain ⟨pre, tk, rfl, rfl, hpre, hlen, k0, k1⟩ := (hI _ _ _).1 hi
          have w1 : IntKind.i64.wrap ((k : Int) + 1) = k + 1 := wrap64 (by omega) (by omega)
          have w2 : IntKind.i64.wrap (tk + 1) = tk + 1 := wrap64 (by omega) (by omega)
          have w3 : IntKind.i64.wrap (100 * tk) = 100 * tk := wrap64 (by omega) (by omega)
          have hk' : (k : Int) < (N : Int) := by omega
          rw [show N - k = (N - (k + 1)) + 1 by omega, dayV] at hpre
          rcases hnext tk each k0 k1 (by omega) (by omega) with ⟨nx, h1, h2, h3⟩ | ⟨h1, h2⟩ | ⟨h1, h2⟩
          · have hlt : tk + 1 < all := by omega
            have w4 : IntKind.i64.wrap (100 * nx) = 100 * nx := wrap64 (by omega) (by omega)
            rw [h1, if_pos rfl] at hpre
            simp only at hpre
            obtain ⟨rd, w, q1, q2⟩ := hread nx (by omega) h3
            have hn1 : ¬ nx ≤ tk := by omega
            have hnum : numP b c tk nx = if (PlanPR b w (100 * tk) (100 * nx)).2 = 0 then ((PlanPR b w (100 * tk) (100 * nx)).1.length : Int) else -1 := by
              unfold numP textD
              rw [q1]
              simp only
              rw [q2]
            obtain ⟨⟨pl, pe⟩, hp⟩ : ∃ p, PlanPR b w (100 * tk) (100 * nx) = p := ⟨_, rfl⟩
            rw [hp] at hnum
            simp only at hnum
            have hkL : k < L.length := by rw [hpre]; simp; omega
            have hkL' : ((L.length : Int) ≤ (k : Int)) = False := eq_false (by omega)
            have hkL'' : (k : Int) < (L.length : Int) := by omega
            have hLk : L[k] = numP b c tk nx := by
              have e : L[k]? = some (numP b c tk nx) := by rw [hpre, List.getElem?_append_right (by omega), hlen]; simp
              rw [List.getElem?_eq_getElem hkL] at e
              exact Option.some.inj e
            have hg := get_Int L k hkL
            rw [hLk] at hg
            have hgo : L = (pre ++ [numP b c tk nx]) ++ dayV (numP b c) c each (N - (k + 1)) nx := by rw [hpre]; simp
            have hLl2 : ¬ L.length ≤ k := by omega
            by_cases hpe : pe = 0
            · rw [if_pos hpe] at hnum
              rw [hnum] at hg
              refine VW.run good [] ?_; simp (implicitDefEqProofs := false) [enc_list, hk', w1, w2, w3, w4, hlt, h1, q1, q2, hn1, hkL, hkL', hkL'', hLl2, hg, hp, hpe, spliceV]
              exact ⟨_, _, (hI _ _ _).2 ⟨pre ++ [numP b c tk nx], nx, rfl, rfl, hgo, by simp [hlen], by omega, h3⟩, ⟨3, [], by simp [enc_list], by simp, by simp, by simp (implicitDefEqProofs := false) [enc_list], by simp (implicitDefEqProofs := false) [enc_list]⟩⟩
            · rw [if_neg hpe] at hnum
              rw [hnum] at hg
              refine VW.run good [] ?_; simp (implicitDefEqProofs := false) [enc_list, hk', w1, w2, w3, w4, hlt, h1, q1, q2, hn1, hkL, hkL', hkL'', hLl2, hg, hp, hpe, spliceV]
              exact ⟨_, _, (hI _ _ _).2 ⟨pre ++ [numP b c tk nx], nx, rfl, rfl, hgo, by simp [hlen], by omega, h3⟩, ⟨3, [], by simp [enc_list], by simp, by simp, by simp (implicitDefEqProofs := false) [enc_list], by simp (implicitDefEqProofs := false) [enc_list]⟩⟩
          · rw [h2, if_neg (by simp), List.append_nil] at hpre
            subst hpre
            have hkk : ((L.length : Int) = (k : Int)) = True := eq_true (by omega)
            refine VW.run good [] ?_; simp (implicitDefEqProofs := false) [enc_list, hk', w1, w2, h1, h2, hlen]
            simp (implicitDefEqProofs := false) [enc_list, AExit.leave]
          · rw [if_neg h2, List.append_nil] at hpre
            subst hpre
            refine VW.run good [] ?_; simp (implicitDefEqProofs := false) [enc_list, hk', w1, w2, h1, hlen]
            simp (implicitDefEqProofs := false) [enc_list, AExit.leave]
        · intro f m hi
          obtain ⟨pre, tk, rfl, rfl, hpre, hlen, k0, k1⟩ := (hI _ _ _).1 hi
          rw [Nat.sub_self, dayV, List.append_nil] at hpre
          subst hpre
          refine VW.run good [] ?_; simp (implicitDefEqProofs := false) [enc_list]
          exact ⟨hlen, ⟨3, [], by simp [enc_list], by simp, by simp, by simp (implicitDefEqProofs := false) [enc_list], by simp (implicitDefEqProofs := false) [enc_list]⟩⟩
      · have hp' : ((L.length : Int) = (N : Int)) = True := eq_true (by omega)
        simp (implicitDefEqProofs := false) [enc_list, AExit.leave]
        refine .ofCut hc (VW.run good [] ?_)
        simp (implicitDefEqProofs := false) [enc_list, hp, hp']
end Go.RS.DC

