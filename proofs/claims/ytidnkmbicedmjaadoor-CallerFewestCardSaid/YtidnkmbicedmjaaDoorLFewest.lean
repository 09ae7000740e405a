/- Walks: the laws: CallerFewest. -/
import Derived.Test.YtidnkmbicedmjaaDoorLwv
import Derived.Test.YtidnkmbicedmjaaDoorPlq
import Derived.Test.YtidnkmbicedmjaaDoorWkc
import Derived.Test.YtidnkmbicedmjaaDoorWkd
set_option linter.all false
namespace Go.RS.CC
open Go Go.RS
open Go.RS.Enc (enc dec)
variable {E : VEnv}
theorem fewL_spec {b : Book} (h12 : enoughR b 12 = true) : ∀ (n : Nat) (c : Int), c ≤ 12 → 12 ≤ c + n → c ≤ fewL b n c ∧ fewL b n c ≤ 12 ∧ enoughR b (fewL b n c) = true ∧ (fewL b n c = c ∨ enoughR b (fewL b n c - 1) = false)
  | 0, c, h1, h2 => by
    obtain rfl : c = 12 := by omega
    exact ⟨Int.le_refl _, Int.le_refl _, h12, .inl rfl⟩
  | n + 1, c, h1, h2 => by
    rw [fewL]
    by_cases he : enoughR b c = true
    · rw [if_pos (by rw [he]; rfl)]
      exact ⟨Int.le_refl _, h1, he, .inl rfl⟩
    · have hc12 : c ≠ 12 := fun h => he (h ▸ h12)
      have hf : enoughR b c = false := by simpa using he
      rw [if_neg (by simp [hf]; omega)]
      obtain ⟨g1, g2, g3, g4⟩ := fewL_spec h12 n (c + 1) (by omega) (by omega)
      refine ⟨by omega, g2, g3, .inr ?_⟩
      rcases g4 with g4 | g4
      · rw [g4]; simpa using hf
      · exact g4
set_option maxHeartbeats 1600000 in
set_option maxRecDepth 20000 in
theorem l_Fewest (hE : E.env.fn = G) (hW : WorksOk E) (b : Book) (n : Int) : VP E 9 [enc b, .int .i64 n] (.bool true) := by
  have good := goodV_cons (w_FewestP hE) (goodV_cons (w_sound hE) (goodV_cons (w_works hW) (goodV_cons (w_LostP hE) (goodV_cons (w_ServeP hE) (goodV_cons (w_ChangeP hE) (goodV_cons (w_Lies hE) (goodV_cons (w_Rest hE) goodV_nil)))))))
  have hFe := Fewest_same b
  by_cases ho : okR b = true
  · have bo := okR_ok ho
    have hF : FewestPR b = (fewL b 20 1, 0) := by rw [hFe]; simp [FewestR, ho]
    obtain ⟨k1, k2, k3, k4⟩ := fewL_spec (enough_12 ho) 20 1 (by omega) (by omega)
    generalize fewL b 20 1 = K at *
    have l1 := bo.h1
    have l2 := bo.h2
    have u1 : wi K 1 12 = true := (wi_iff _ _ _).2 ⟨k1, k2⟩
    obtain ⟨any, hany⟩ : ∃ any : Nat → Bool, ∀ h, any h = (decide (K = 1) || (b.Hours.take h).any fun l => !decide ((lostL 0 (serveR b.Each (K - 1) [] l)).length = 0)) := ⟨_, fun _ => rfl⟩
    have hend : any b.Hours.length = true := by
      rw [hany, List.take_length]
      rcases k4 with k4 | k4
      · simp [k4]
      · rw [enoughR, List.all_eq_false] at k4
        obtain ⟨l, hl, hx⟩ := k4
        have : (b.Hours.any fun l => !decide ((lostL 0 (serveR b.Each (K - 1) [] l)).length = 0)) = true := List.any_eq_true.2 ⟨l, hl, by simpa using hx⟩
        rw [this, Bool.or_true]
    have w0 : IntKind.i64.wrap (K - 1) = K - 1 := wrap64 (by omega) (by omega)
    refine VP.run (A := F9) (good) [] (by rw [hE]; rfl) (by simp [F9]) ?_; unfold F9; simp (implicitDefEqProofs := false) [enc_list, spliceV, ho, hF, u1]
    refine VW.loop_to 0 [(1, .int .i64 n), (2, .ptr 0 6 0), (5, .int .i64 K), (7, .bool true)] [bkc b] (True) ?_ (fun hp f m hc => ?_)
    · obtain ⟨Inv, hI⟩ : ∃ Inv : Nat → List (Nat × PV) → VM → Prop, ∀ h f m, Inv h f m ↔ (f = [(1, .int .i64 n), (2, .ptr 0 6 0), (5, .int .i64 K), (7, .bool (any h)), (8, .int .i64 h)] ∧ m = [bkc b]) := ⟨_, fun _ _ _ => Iff.rfl⟩
      refine VW.loop_cut Inv b.Hours.length ?_ ?_ ?_
      · refine ⟨_, _, (hI _ _ _).2 ⟨rfl, rfl⟩, ⟨1, [], by simp [enc_list,  hany], by simp, by simp, by simp (implicitDefEqProofs := false) [enc_list,  hany], by simp (implicitDefEqProofs := false) [enc_list,  hany]⟩⟩
      · intro h f m hh hv
        obtain ⟨rfl, rfl⟩ := (hI _ _ _).1 hv
        have w1 : IntKind.i64.wrap ((h : Int) + 1) = h + 1 := wrap64 (by omega) (by omega)
        have hho : hourOf b h = b.Hours[h] := by simp [hourOf, hh]
        have ha1 := asked_of ho (H := h) (C := K) (by omega) (by omega) (by omega) (by omega)
        have hL1 := LostR_of ha1
        have hz1 : (lostL 0 (serveR b.Each K [] b.Hours[h])).length = 0 := by
          rw [enoughR, List.all_eq_true] at k3
          simpa using k3 _ (List.getElem_mem hh)
        have hz1' : lostL 0 (serveR b.Each K [] b.Hours[h]) = [] := List.eq_nil_of_length_eq_zero hz1
        rw [hho, hz1'] at hL1
        by_cases hK : 1 < K
        · have ha2 := asked_of ho (H := h) (C := K - 1) (by omega) (by omega) (by omega) (by omega)
          have hL2 := LostR_of ha2
          rw [hho] at hL2
          have hK1 : ¬ K = 1 := by omega
          have hstep : any (h + 1) = (any h || !decide ((lostL 0 (serveR b.Each (K - 1) [] b.Hours[h])).length = 0)) := by
            rw [hany, hany, List.take_succ_eq_append_getElem hh, List.any_append, Bool.or_assoc]; simp
          generalize lostL 0 (serveR b.Each (K - 1) [] b.Hours[h]) = L at *
          have hpos : (0 < L.length) = ¬ L.length = 0 := by apply propext; omega
          generalize hah : any h = A at *
          by_cases hLz : L = []
          · subst hLz
            simp at hstep
            cases A
            · refine VW.run good [] ?_; simp (implicitDefEqProofs := false) [enc_list, hh, hL1, hL2, hK, w0, w1]
              exact ⟨_, _, (hI _ _ _).2 ⟨rfl, rfl⟩, ⟨1, [], by simp [enc_list,  hstep], by simp, by simp, by simp (implicitDefEqProofs := false) [enc_list,  hstep], by simp (implicitDefEqProofs := false) [enc_list,  hstep]⟩⟩
            · refine VW.run good [] ?_; simp (implicitDefEqProofs := false) [enc_list, hh, hL1, hL2, hK, w0, w1]
              exact ⟨_, _, (hI _ _ _).2 ⟨rfl, rfl⟩, ⟨1, [], by simp [enc_list,  hstep], by simp, by simp, by simp (implicitDefEqProofs := false) [enc_list,  hstep], by simp (implicitDefEqProofs := false) [enc_list,  hstep]⟩⟩
          · have hLl : ¬ L.length = 0 := by simpa using hLz
            have hLp : 0 < L.length := by omega
            simp [hLz] at hstep
            cases A
            · refine VW.run good [] ?_; simp (implicitDefEqProofs := false) [enc_list, hh, hL1, hL2, hK, w0, w1, hLl, hLp]
              exact ⟨_, _, (hI _ _ _).2 ⟨rfl, rfl⟩, ⟨1, [], by simp [enc_list,  hstep], by simp, by simp, by simp (implicitDefEqProofs := false) [enc_list,  hstep], by simp (implicitDefEqProofs := false) [enc_list,  hstep]⟩⟩
            · refine VW.run good [] ?_; simp (implicitDefEqProofs := false) [enc_list, hh, hL1, hL2, hK, w0, w1, hLl, hLp]
              exact ⟨_, _, (hI _ _ _).2 ⟨rfl, rfl⟩, ⟨1, [], by simp [enc_list,  hstep], by simp, by simp, by simp (implicitDefEqProofs := false) [enc_list,  hstep], by simp (implicitDefEqProofs := false) [enc_list,  hstep]⟩⟩
        · have hstep : any (h + 1) = any h := by
            have : K = 1 := by omega
            rw [hany, hany]; simp [this]
          refine VW.run good [] ?_; simp (implicitDefEqProofs := false) [enc_list, hh, hL1, hK, w0, w1]
          exact ⟨_, _, (hI _ _ _).2 ⟨rfl, rfl⟩, ⟨1, [], by simp [enc_list,  hstep], by simp, by simp, by simp (implicitDefEqProofs := false) [enc_list,  hstep], by simp (implicitDefEqProofs := false) [enc_list,  hstep]⟩⟩
      · intro f m hv
        obtain ⟨rfl, rfl⟩ := (hI _ _ _).1 hv
        refine VW.run good [] ?_; simp (implicitDefEqProofs := false) [enc_list]
        exact ⟨1, [], by simp [enc_list,  hend], by simp, by simp, by simp (implicitDefEqProofs := false) [enc_list,  hend], by simp (implicitDefEqProofs := false) [enc_list,  hend]⟩
    · have a0 := Int.emod_nonneg n (show (b.Hours.length : Int) ≠ 0 by omega)
      have a1 := Int.emod_lt_of_pos n (show (0 : Int) < b.Hours.length by omega)
      have hr : restF n b.Hours.length = some (n % b.Hours.length) := if_pos ⟨by omega, by omega⟩
      generalize n % (b.Hours.length : Int) = H at *
      have w2 : IntKind.i64.wrap (K + 1) = K + 1 := wrap64 (by omega) (by omega)
      have ha1 := asked_of ho (H := H) (C := K) a0 a1 k1 (by omega)
      have ha2 := asked_of ho (H := H) (C := K + 1) a0 a1 (by omega) (by omega)
      obtain ⟨hm, hh, hd⟩ := hourOf_mem a0 a1
      have hS1 : ServeR b H K = (serveR b.Each K [] (hourOf b H), 0) := by rw [ServeR, if_pos ha1]
      have hS2 : ServeR b H (K + 1) = (serveR b.Each (K + 1) [] (hourOf b H), 0) := by rw [ServeR, if_pos ha2]
      have s1 := sched_of ho hm (ch := K)
      have s2 := sched_of ho hm (ch := K + 1)
      have hn : ∀ x ∈ serveR b.Each K [] (hourOf b H), 0 ≤ x.Joined := joined_of_lost _ 0 (by
        rw [enoughR, List.all_eq_true] at k3
        simpa using k3 _ hm)
      have hmore := s1.more s2 (by omega) hn
      have hl1 := s1.len
      have hl2 := s2.len
      have hq12 := bo.hl _ hm
      generalize hourOf b H = q at *
      generalize serveR b.Each K [] q = S at *
      generalize serveR b.Each (K + 1) [] q = T at *
      have hw : (chgL 0 S T).2 = [] := chg_worse S T 0 fun i g g' => by
        obtain ⟨m1, m2⟩ := hmore i g g'
        have := hn _ (List.getElem_mem g)
        simp [sooner]; intro _; omega
      have hC : ChangeR b H K = ⟨(chgL 0 S T).1, [], 0⟩ := by unfold ChangeR; rw [hS1, hS2, ← hw]; rfl
      have hST : S.length = T.length := by omega
      simp (implicitDefEqProofs := false); refine .ofCut hc (VW.run good [] ?_); simp (implicitDefEqProofs := false) [enc_list, hr, w2, hS1, hS2, hC, hl1, hl2]
      refine VW.loop_to 2 [(7, .bool true)] [] (True) ?_ (fun hp f m hc => ?_)
      · obtain ⟨Inv, hI⟩ : ∃ Inv : Nat → List (Nat × PV) → VM → Prop, ∀ i f m, Inv i f m ↔ (f = [(7, .bool true), (14, enc S), (15, enc T), (20, .int .i64 i)] ∧ m = []) := ⟨_, fun _ _ _ => Iff.rfl⟩
        refine VW.loop_cut Inv S.length ?_ ?_ ?_
        · exact ⟨_, _, (hI _ _ _).2 ⟨rfl, rfl⟩, ⟨0, [], by simp [enc_list,  hl1, hl2], by simp, by simp, by simp (implicitDefEqProofs := false) [enc_list,  hl1, hl2], by simp (implicitDefEqProofs := false) [enc_list,  hl1, hl2]⟩⟩
        · intro i f m hi hv
          obtain ⟨rfl, rfl⟩ := (hI _ _ _).1 hv
          have hi2 : i < T.length := by omega
          obtain ⟨m1, m2⟩ := hmore i hi hi2
          have g1 : ¬ T[i].Joined < 0 := by omega
          have g2 : ¬ S[i].Joined < T[i].Joined := by omega
          have w3 : IntKind.i64.wrap ((i : Int) + 1) = i + 1 := wrap64 (by omega) (by omega)
          refine VW.run good [] ?_; simp (implicitDefEqProofs := false) [enc_list, hi, hi2, get_Served S i hi, get_Served T i hi2, g1, g2, w3]
          exact ⟨_, _, (hI _ _ _).2 ⟨rfl, rfl⟩, ⟨0, [], by simp [enc_list], by simp, by simp, by simp (implicitDefEqProofs := false) [enc_list], by simp (implicitDefEqProofs := false) [enc_list]⟩⟩
        · intro f m hv
          obtain ⟨rfl, rfl⟩ := (hI _ _ _).1 hv
          refine VW.run good [] ?_; simp (implicitDefEqProofs := false) [enc_list]
          exact ⟨0, [], by simp [enc_list], by simp, by simp, by simp (implicitDefEqProofs := false) [enc_list], by simp (implicitDefEqProofs := false) [enc_list]⟩
      · simp (implicitDefEqProofs := false); refine .ofCut hc (VW.run good [] ?_); simp (implicitDefEqProofs := false) [enc_list]
  · have hF : FewestPR b = (0, 90) := by rw [hFe]; simp [FewestR, ho]
    refine VP.run (A := F9) (good) [] (by rw [hE]; rfl) (by simp [F9]) ?_; unfold F9; simp (implicitDefEqProofs := false) [enc_list, ho, hF]
end Go.RS.CC

