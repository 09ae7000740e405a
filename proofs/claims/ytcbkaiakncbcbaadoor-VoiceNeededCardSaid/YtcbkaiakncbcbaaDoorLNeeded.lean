/- Walks: the law VoiceNeeded. -/
import Derived.Test.YtcbkaiakncbcbaaDoorVla
set_option linter.all false
namespace Go.RS.DC
open Go Go.RS
open Go.RS.Enc (enc dec)
variable {E : VEnv}
theorem climbs_inc {n : Nat} (hn : n ≤ 10) : ∀ (l : List Int) (f : Nat), IncP n f l → climbsR (n : Int) (f : Int) l = true
  | [], _, _ => rfl
  | x :: l, f, h => by
    obtain ⟨h1, h2, h3⟩ := incP_cons.1 h
    have w1 : IntKind.i64.wrap ((n : Int) - 1) = n - 1 := wrap64 (by omega) (by omega)
    have w2 : IntKind.i64.wrap (x + 1) = ((x.toNat + 1 : Nat) : Int) := by rw [wrap64 (by omega) (by omega)]; omega
    rw [climbsR, w1, w2, climbs_inc hn l _ h3, (wi_iff _ _ _).2 ⟨h1, by omega⟩]
    rfl
theorem dtt (a b : List Int) : (dec (PV.lst true 2 1 [.lst false a.length 1 (encL a), .lst false b.length 1 (encL b)]) : Option (List (List Int))) = some [a, b] := by
  have h := dec_lst (α := List Int) true [a, b]
  exact h
set_option maxHeartbeats 1600000 in
set_option maxRecDepth 20000 in
theorem l_Needed (hE : E.env.fn = G) (hgl : E.gl 1 = some [f130v, f131v]) (hgl2 : E.gl 0 = some vparts) (b : Book) (x0 x1 : List Int) (set : Int) : VP E 9 [enc b, .agg (El.cells x0 ++ El.cells x1), .int .i64 set] (.bool true) := by
  have good := goodV_cons (v_sound hE) (goodV_cons (v_some hE) (goodV_cons (v_Needed hE) (goodV_cons (w_Climbs hE) (goodV_cons (v_enough hE) (goodV_cons (v_List hE) (goodV_cons (w_Rest hE) (goodV_cons (w_Ahead hE) (goodV_cons (v_works hE hgl hgl2) goodV_nil))))))))
  cases ho : okB b
  · refine VP.run (A := F9) (good) [] (by rw [hE]; rfl) (by simp [F9]) ?_; unfold F9; simp (implicitDefEqProofs := false) [enc_list, ho, El.cells]
  · have o := okB_ok ho
    have p1 := o.p1
    have p2 := o.p2
    have so1 := some_ok o x0
    have so2 := some_ok o x1
    have hS1 : someG b x0 = some (someF b x0) := if_pos ho
    have hS2 : someG b x1 = some (someF b x1) := if_pos ho
    obtain ⟨⟨t1, m1⟩, hsf1⟩ : ∃ s, someF b x0 = s := ⟨_, rfl⟩
    obtain ⟨⟨t2, m2⟩, hsf2⟩ : ∃ s, someF b x1 = s := ⟨_, rfl⟩
    rw [hsf1] at hS1 so1
    rw [hsf2] at hS2 so2
    obtain ⟨ht1, hr1, hl1⟩ := so1
    obtain ⟨ht2, hr2, hl2⟩ := so2
    simp only at ht1 hr1 hl1 ht2 hr2 hl2
    by_cases h01 : t1.length = 0
    · have h01' : t1 = [] := List.eq_nil_of_length_eq_zero h01
      refine VP.run (A := F9) (good) [] (by rw [hE]; rfl) (by simp [F9]) ?_; unfold F9; simp (implicitDefEqProofs := false) [enc_list, ho, hS1, hS2, h01, h01', El.cells]
    · have h01' : ¬ t1 = [] := fun h => h01 (by rw [h]; rfl)
      by_cases h02 : t2.length = 0
      · have h02' : t2 = [] := List.eq_nil_of_length_eq_zero h02
        refine VP.run (A := F9) (good) [] (by rw [hE]; rfl) (by simp [F9]) ?_; unfold F9; simp (implicitDefEqProofs := false) [enc_list, ho, hS1, hS2, h01, h01', h02, h02', El.cells]
      · have h02' : ¬ t2 = [] := fun h => h02 (by rw [h]; rfl)
        obtain ⟨l, n1, n2, n3, n4, n5, n6⟩ := needed_of ho hr1 hr2 (by rw [← ht1]; omega) (by rw [← ht1]; exact hl1) (by rw [← ht2]; omega) (by rw [← ht2]; exact hl2)
        rw [← ht1, ← ht2] at n1
        rw [← ht1] at n4
        rw [← ht2] at n5
        rw [← ht1, ← ht2] at n6
        have hll := incP_len' n3
        have hcl : climbsR b.Pieces.length 0 l = true := climbs_inc p2 l 0 n3
        have g1 : enoughG b l t1 = some true := by unfold enoughG; rw [if_pos ⟨ho, by omega⟩, n4]
        have g2 : enoughG b l t2 = some true := by unfold enoughG; rw [if_pos ⟨ho, by omega⟩, n5]
        have l0 : ¬ l.length = 0 := by omega
        have l0' : ¬ l = [] := fun h => l0 (by rw [h]; rfl)
        obtain ⟨P, hP⟩ : ∃ P : Nat, 2 ^ b.Pieces.length = P := ⟨_, rfl⟩
        have hPb : 1 ≤ P ∧ P ≤ 1024 := by
          rw [← hP]
          refine ⟨Nat.one_le_two_pow, ?_⟩
          have : 2 ^ b.Pieces.length ≤ 2 ^ 10 := Nat.pow_le_pow_right (by decide) p2
          simpa using this
        have hPi : (2 : Int) ^ b.Pieces.length = (P : Int) := by rw [← hP]; norm_cast
        have hmin : min b.Pieces.length IntKind.i64.bits = b.Pieces.length := by have : IntKind.i64.bits = 64 := rfl; omega
        have hneg : ((b.Pieces.length : Int) < 0) = False := eq_false (by omega)
        have hsh : IntKind.i64.wrap (P : Int) = P := wrap64 (by omega) (by omega)
        have hrs : restF set P = some (set % P) := if_pos ⟨by omega, by omega⟩
        have s0 := Int.emod_nonneg set (show (P : Int) ≠ 0 by omega)
        have s1 := Int.emod_lt_of_pos set (show (0 : Int) < P by omega)
        obtain ⟨S, hS⟩ : ∃ S : Nat, set % (P : Int) = S := ⟨(set % (P : Int)).toNat, by omega⟩
        rw [hS] at hrs s0 s1
        have hli : listG (S : Int) b.Pieces.length = some (listF S b.Pieces.length) := by
          unfold listG; rw [if_pos ⟨by omega, by omega, by omega, by omega⟩]; simp
        have n7 := n6 S
        have hol := listF_len S b.Pieces.length
        obtain ⟨ot, hot⟩ : ∃ ot, listF S b.Pieces.length = ot := ⟨_, rfl⟩
        rw [hot] at hli n7 hol
        have e1 : enoughG b ot t1 = some (enoughB b ot t1) := if_pos ⟨ho, by omega⟩
        have e2 : enoughG b ot t2 = some (enoughB b ot t2) := if_pos ⟨ho, by omega⟩
        refine VP.func (A := F9) (by rw [hE]; rfl) (by simp [F9]) ?_; unfold F9
        refine VW.seq (VW.run good [] ?_); simp (implicitDefEqProofs := false) [enc_list, El.cells]
        refine VW.seq (VW.run good [] ?_); simp (implicitDefEqProofs := false) [enc_list, ho]
        refine VW.seq (VW.run good [] ?_); simp (implicitDefEqProofs := false) [enc_list, hS1, El.cells]
        refine VW.seq (VW.run good [] ?_); simp (implicitDefEqProofs := false) [enc_list, hS2, El.cells]
        refine VW.seq (VW.run good [] ?_); simp (implicitDefEqProofs := false) [enc_list, h01, h01', h02, h02']
        refine VW.seq (VW.run good [] ?_); simp (implicitDefEqProofs := false) [enc_list, n1, dtt, spliceV, encL_isF]
        refine VW.seq (VW.run good [] ?_); simp (implicitDefEqProofs := false) [enc_list, l0, l0', hcl, g1, g2]
        refine VW.seq (VW.run good [] ?_); simp (implicitDefEqProofs := false) [enc_list, hmin, hneg, hPi, hsh, hrs, hli]
        by_cases c1 : ot.length = 0
        · have c1' : ot = [] := List.eq_nil_of_length_eq_zero c1
          refine VW.run good [] ?_; simp (implicitDefEqProofs := false) [enc_list, c1, c1']
        · have c1' : ¬ ot = [] := fun h => c1 (by rw [h]; rfl)
          by_cases c2 : l.length < ot.length
          · have c2' : (l.length : Int) < (ot.length : Int) := by omega
            refine VW.run good [] ?_; simp (implicitDefEqProofs := false) [enc_list, c1, c1', c2, c2']
          · have c2' : ¬ (l.length : Int) < (ot.length : Int) := by omega
            by_cases c3 : ot.length = l.length
            · have c3' : ((ot.length : Int) = (l.length : Int)) = True := eq_true (by omega)
              have c3'' : (ot.length = l.length) = True := eq_true c3
              cases c4 : aheadB ot l
              · refine VW.run good [] ?_; simp (implicitDefEqProofs := false) [enc_list, c1, c1', c2, c2', c3', c3'', c4]
              · have n8 := n7 (by omega) (.inr ⟨c3, c4⟩)
                rw [Bool.and_eq_false_iff] at n8
                cases q1 : enoughB b ot t1
                · rw [q1] at e1
                  refine VW.run good [] ?_; simp (implicitDefEqProofs := false) [enc_list, c1, c1', c2, c2', c3', c3'', c4, e1, e2]
                · rw [q1] at e1 n8
                  have q2 := n8.resolve_left (by simp)
                  rw [q2] at e2
                  refine VW.run good [] ?_; simp (implicitDefEqProofs := false) [enc_list, c1, c1', c2, c2', c3', c3'', c4, e1, e2]
            · have c3' : ¬ (ot.length : Int) = (l.length : Int) := by omega
              have n8 := n7 (by omega) (.inl (by omega))
              rw [Bool.and_eq_false_iff] at n8
              cases q1 : enoughB b ot t1
              · rw [q1] at e1
                refine VW.run good [] ?_; simp (implicitDefEqProofs := false) [enc_list, c1, c1', c2, c2', c3, c3', e1, e2]
              · rw [q1] at e1 n8
                have q2 := n8.resolve_left (by simp)
                rw [q2] at e2
                refine VW.run good [] ?_; simp (implicitDefEqProofs := false) [enc_list, c1, c1', c2, c2', c3, c3', e1, e2]
end Go.RS.DC

