/- Walks: the law DialNext. -/
import Derived.Test.YtenmjloiadkgjaaDoorDla
set_option linter.all false
namespace Go.RS.DC
open Go Go.RS
open Go.RS.Enc (enc dec)
variable {E : VEnv}
theorem next_val {c : Cal} (ho : okC c = true) {t each : Int} (h0 : 0 ≤ t) (h1 : t < allR c) (e0 : 1 ≤ each) (e1 : each ≤ 60) : NextR c t each = nextL c each (allR c - t).toNat t := by
  unfold NextR
  rw [ho, (wi_iff t 0 (allR c - 1)).2 ⟨h0, by omega⟩, (wi_iff each 1 60).2 ⟨e0, e1⟩]; rfl
set_option maxHeartbeats 3200000 in
set_option maxRecDepth 20000 in
theorem l_Next (hE : E.env.fn = G) (hgl : E.gl 0 = some [f130v, f131v]) (c : Cal) (n0 n1 n2 : Int) : VP E 11 [enc c, .agg [.int .i64 n0, .int .i64 n1, .int .i64 n2]] (.bool true) := by
  have good := goodV_cons (w_sound hE) (goodV_cons (w_ticksOf hE) (goodV_cons (w_Rest hE) (goodV_cons (w_NextP hE hgl) (goodV_cons (w_ReadingP hE hgl) (goodV_cons (w_To hE) (goodV_cons (w_From hE) (goodV_cons (w_works hE hgl) goodV_nil)))))))
  cases ho : okC c
  · refine VP.run (A := F11) (good) [] (by rw [hE]; rfl) (by simp [F11]) ?_; unfold F11; simp (implicitDefEqProofs := false) [enc_list, ho]
  · have o := okC_ok ho
    have ab := allR_b o
    have s1 := o.s1
    have s2 := o.s2
    have hT : ticksOfR c = (allR c, true) := if_pos ho
    obtain ⟨i1, i2, i3⟩ := all_mod o n0
    have r60 : restF n1 60 = some (n1 % 60) := if_pos (by decide)
    have c0 := Int.emod_nonneg n1 (show (60 : Int) ≠ 0 by decide)
    have c1 := Int.emod_lt_of_pos n1 (show (0 : Int) < 60 by decide)
    generalize n0 % allR c = i at *
    obtain ⟨D, hD⟩ : ∃ D, 1 + n1 % 60 = D := ⟨_, rfl⟩
    have w1 : IntKind.i64.wrap (1 + n1 % 60) = D := by rw [hD]; exact wrap64 (by omega) (by omega)
    have d1 : 1 ≤ D := by omega
    have d2 : D ≤ 60 := by omega
    have hN := next_val ho i2 i3 d1 d2
    have hNo := (next_ok o (each := D) i2 i3).ok
    have hag : ∀ j k, i ≤ j → j ≤ k → k < allR c → nextL c D (allR c - i).toNat i = (k, 0) → NextR c j D = (k, 0) := fun j k h1 h2 h3 h => by
      rw [next_val ho (by omega) (by omega) d1 d2]; exact next_again h1 h2 h3 h
    have hno : ∀ j, i ≤ j → j < allR c → nextL c D (allR c - i).toNat i = (0, 4) → NextR c j D = (0, 4) := fun j h1 h2 h => by
      rw [next_val ho (by omega) h2 d1 d2]; exact next_none h1 h2 h
    rw [← hN] at hNo hag hno
    generalize hR : NextR c i D = R at *
    obtain ⟨K, e⟩ := R
    have rd : ∀ j, 0 ≤ j → j < allR c → ReadingR c j = (readR c j, 0) := fun j h1 h2 => reading_of ho h1 h2
    have sec : ∀ j, 0 ≤ j → j < allR c → 0 ≤ (readR c j).Second := fun j h1 h2 => by
      have hv := (read_valid o h1 h2).1
      simp only [validR, Bool.and_eq_true, wi_iff] at hv
      exact hv.2.1
    have tm : ∀ j, 0 ≤ j → j < allR c → (readR c j).Second.tmod D = (readR c j).Second % D := fun j h1 h2 => Int.tmod_eq_emod_of_nonneg (sec j h1 h2)
    have dz : D ≠ 0 := by omega
    have wm : ∀ j, IntKind.i64.wrap ((readR c j).Second % D) = (readR c j).Second % D := fun j => by
      have := Int.emod_nonneg (readR c j).Second dz
      have := Int.emod_lt_of_pos (readR c j).Second (show 0 < D by omega)
      exact wrap64 (by omega) (by omega)
    generalize allR c = A at *
    have w2 : IntKind.i64.wrap (2 * c.Seconds) = 2 * c.Seconds := wrap64 (by omega) (by omega)
    have wA : IntKind.i64.wrap (A - 1) = A - 1 := wrap64 (by omega) (by omega)
    rcases hNo with ⟨e0, k1, k2, k3, k4, k5⟩ | ⟨e0, k1, k2⟩
    · simp only at e0 k1 k2 k3 k4 k5
      subst e0
      have u1 : ¬ K < i := by omega
      have u2 : ¬ A < K := by omega
      have u3 : ¬ 2 * c.Seconds < K - i := by omega
      have w3 : IntKind.i64.wrap (K - i) = K - i := wrap64 (by omega) (by omega)
      have mn : (if A - 1 < K then A - 1 else K) = K := if_neg (by omega)
      have fb := fromR_b ⟨i, K⟩ n2 k1
      have f1 : fromF ⟨i, K⟩ n2 = some (fromR ⟨i, K⟩ n2) := if_pos ⟨by show _ ≤ i; omega, by show K ≤ _; omega⟩
      have f2 := hag (fromR ⟨i, K⟩ n2) K fb.1 fb.2 k2 rfl
      generalize fromR ⟨i, K⟩ n2 = F at *
      have hrK := rd K (by omega) k2
      have htK := tm K (by omega) k2
      have hwK := wm K
      refine VP.run (A := F11) (good) [] (by rw [hE]; rfl) (by simp [F11]) ?_; unfold F11; simp (implicitDefEqProofs := false) [enc_list, ho, hT, i1, r60, w1, hR, w2, w3, u1, u2, u3]
      have hb0 : 0 ≤ K - i := by omega
      obtain ⟨N, hNU⟩ : ∃ N, (K - i).toNat = N := ⟨_, rfl⟩
      refine VW.loop_to 0 [(2, .ptr 0 5 0), (3, .ptr 1 3 0), (5, .int .i64 A), (7, .int .i64 i), (8, .int .i64 D), (9, .int .i64 K), (10, .int .i64 0), (11, .int .i64 K)] [clc c, .cells [.int .i64 n0, .int .i64 n1, .int .i64 n2]] (True) ?_ (fun hp f m hc => ?_)
      · obtain ⟨Inv, hI⟩ : ∃ Inv : Nat → List (Nat × PV) → VM → Prop, ∀ q f m, Inv q f m ↔ (f = [(2, .ptr 0 5 0), (3, .ptr 1 3 0), (5, .int .i64 A), (7, .int .i64 i), (8, .int .i64 D), (9, .int .i64 K), (10, .int .i64 0), (11, .int .i64 K), (12, .int .i64 (i + q))] ∧ m = [clc c, .cells [.int .i64 n0, .int .i64 n1, .int .i64 n2]]) := ⟨_, fun _ _ _ => Iff.rfl⟩
        refine VW.loop_cut Inv N ?_ ?_ ?_
        · exact ⟨_, _, (hI _ _ _).2 ⟨rfl, rfl⟩, ⟨2, [], by simp [enc_list], by simp, by simp, by simp (implicitDefEqProofs := false) [enc_list], by simp (implicitDefEqProofs := false) [enc_list]⟩⟩
        · intro q f m hq hv
          obtain ⟨rfl, rfl⟩ := (hI _ _ _).1 hv
          have q1 : i + q < K := by omega
          have q2 := rd (i + q) (by omega) (by omega)
          have q3 := tm (i + q) (by omega) (by omega)
          have q4 := wm (i + q)
          have q5 := k5 (i + q) (by omega) (by omega)
          have w4 : IntKind.i64.wrap (i + q + 1) = i + ((q : Nat) + 1) := by rw [Int.add_assoc]; exact wrap64 (by omega) (by omega)
          refine VW.run good [] ?_; simp (implicitDefEqProofs := false) [enc_list, q1, q2, q3, q4, q5, w4, dz, spliceV]
          exact ⟨_, _, (hI _ _ _).2 ⟨rfl, rfl⟩, ⟨2, [], by simp [enc_list], by simp, by simp, by simp (implicitDefEqProofs := false) [enc_list], by simp (implicitDefEqProofs := false) [enc_list]⟩⟩
        · intro f m hv
          obtain ⟨rfl, rfl⟩ := (hI _ _ _).1 hv
          have q1 : ¬ i + (N : Int) < K := by omega
          refine VW.run good [] ?_; simp (implicitDefEqProofs := false) [enc_list, q1]
          exact ⟨2, [], by simp [enc_list], by simp, by simp, by simp (implicitDefEqProofs := false) [enc_list], by simp (implicitDefEqProofs := false) [enc_list]⟩
      · simp (implicitDefEqProofs := false); refine .ofCut hc (VW.run good [] ?_); simp (implicitDefEqProofs := false) [enc_list, hrK, htK, hwK, k4, dz, wA, mn, f1, f2, hR, spliceV]
    · simp only [Prod.mk.injEq] at e0 k1 k2
      obtain ⟨rfl, rfl⟩ := e0
      have u1 : ¬ A < i := by omega
      have u3 : ¬ 2 * c.Seconds < A - i := by omega
      have w3 : IntKind.i64.wrap (A - i) = A - i := wrap64 (by omega) (by omega)
      have mn : (if A - 1 < A then A - 1 else A) = A - 1 := if_pos (by omega)
      have fb := fromR_b ⟨i, A - 1⟩ n2 (by show i ≤ A - 1; omega)
      have f1 : fromF ⟨i, A - 1⟩ n2 = some (fromR ⟨i, A - 1⟩ n2) := if_pos ⟨by show _ ≤ i; omega, by show A - 1 ≤ _; omega⟩
      have f2 := hno (fromR ⟨i, A - 1⟩ n2) fb.1 (by have := fb.2; simp only at this; omega) rfl
      generalize fromR ⟨i, A - 1⟩ n2 = F at *
      refine VP.run (A := F11) (good) [] (by rw [hE]; rfl) (by simp [F11]) ?_; unfold F11; simp (implicitDefEqProofs := false) [enc_list, ho, hT, i1, r60, w1, hR, w2, w3, u1, u3]
      have hb0 : 0 ≤ A - i := by omega
      obtain ⟨N, hNU⟩ : ∃ N, (A - i).toNat = N := ⟨_, rfl⟩
      refine VW.loop_to 0 [(2, .ptr 0 5 0), (3, .ptr 1 3 0), (5, .int .i64 A), (7, .int .i64 i), (8, .int .i64 D), (9, .int .i64 0), (10, .int .i64 4), (11, .int .i64 A)] [clc c, .cells [.int .i64 n0, .int .i64 n1, .int .i64 n2]] (True) ?_ (fun hp f m hc => ?_)
      · obtain ⟨Inv, hI⟩ : ∃ Inv : Nat → List (Nat × PV) → VM → Prop, ∀ q f m, Inv q f m ↔ (f = [(2, .ptr 0 5 0), (3, .ptr 1 3 0), (5, .int .i64 A), (7, .int .i64 i), (8, .int .i64 D), (9, .int .i64 0), (10, .int .i64 4), (11, .int .i64 A), (12, .int .i64 (i + q))] ∧ m = [clc c, .cells [.int .i64 n0, .int .i64 n1, .int .i64 n2]]) := ⟨_, fun _ _ _ => Iff.rfl⟩
        refine VW.loop_cut Inv N ?_ ?_ ?_
        · exact ⟨_, _, (hI _ _ _).2 ⟨rfl, rfl⟩, ⟨2, [], by simp [enc_list], by simp, by simp, by simp (implicitDefEqProofs := false) [enc_list], by simp (implicitDefEqProofs := false) [enc_list]⟩⟩
        · intro q f m hq hv
          obtain ⟨rfl, rfl⟩ := (hI _ _ _).1 hv
          have q1 : i + q < A := by omega
          have q2 := rd (i + q) (by omega) (by omega)
          have q3 := tm (i + q) (by omega) (by omega)
          have q4 := wm (i + q)
          have q5 := k2 (i + q) (by omega) (by omega)
          have w4 : IntKind.i64.wrap (i + q + 1) = i + ((q : Nat) + 1) := by rw [Int.add_assoc]; exact wrap64 (by omega) (by omega)
          refine VW.run good [] ?_; simp (implicitDefEqProofs := false) [enc_list, q1, q2, q3, q4, q5, w4, dz, spliceV]
          exact ⟨_, _, (hI _ _ _).2 ⟨rfl, rfl⟩, ⟨2, [], by simp [enc_list], by simp, by simp, by simp (implicitDefEqProofs := false) [enc_list], by simp (implicitDefEqProofs := false) [enc_list]⟩⟩
        · intro f m hv
          obtain ⟨rfl, rfl⟩ := (hI _ _ _).1 hv
          have q1 : ¬ i + (N : Int) < A := by omega
          refine VW.run good [] ?_; simp (implicitDefEqProofs := false) [enc_list, q1]
          exact ⟨2, [], by simp [enc_list], by simp, by simp, by simp (implicitDefEqProofs := false) [enc_list], by simp (implicitDefEqProofs := false) [enc_list]⟩
      · simp (implicitDefEqProofs := false); refine .ofCut hc (VW.run good [] ?_); simp (implicitDefEqProofs := false) [enc_list, wA, mn, f1, f2, hR, spliceV]
end Go.RS.DC

