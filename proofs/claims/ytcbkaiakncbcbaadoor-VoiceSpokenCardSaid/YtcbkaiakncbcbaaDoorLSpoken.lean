/- Walks: the law VoiceSpoken. -/
import Derived.Test.YtcbkaiakncbcbaaDoorVla
set_option linter.all false
namespace Go.RS.DC
open Go Go.RS
open Go.RS.Enc (enc dec)
variable {E : VEnv}
set_option maxHeartbeats 3200000 in
set_option maxRecDepth 20000 in
theorem l_Spoken (hE : E.env.fn = G) (hgl : E.gl 1 = some [f130v, f131v]) (hgl2 : E.gl 0 = some vparts) (b : Book) (bits : List Int) (n0 n1 : Int) : VP E 10 [enc b, enc bits, .agg [.int .i64 n0, .int .i64 n1]] (.bool true) := by
  have good := goodV_cons (v_sound hE) (goodV_cons (v_spoken hE) (goodV_cons (w_Rest hE) (goodV_cons (w_From hE) (goodV_cons (v_IsPlan hE) (goodV_cons (v_Plan hE) (goodV_cons (v_Latest hE) (goodV_cons (v_works hE hgl hgl2) goodV_nil)))))))
  cases ho : okB b
  · refine VP.run (A := F10) (good) [] (by rw [hE]; rfl) (by simp [F10]) ?_; unfold F10; simp (implicitDefEqProofs := false) [enc_list, ho]
  · have o := okB_ok ho
    have c0 := o.r0
    have c1 := o.r1
    have c2 := o.r2
    have r0 : restF n0 1000 = some (n0 % 1000) := if_pos ⟨by omega, by omega⟩
    have s0 := Int.emod_nonneg n0 (show (1000 : Int) ≠ 0 by omega)
    have s1 := Int.emod_lt_of_pos n0 (show (0 : Int) < 1000 by omega)
    obtain ⟨F, hF⟩ : ∃ F, n0 % 1000 = F := ⟨_, rfl⟩
    rw [hF] at r0 s0 s1
    have r1 : restF n1 50 = some (n1 % 50) := if_pos ⟨by omega, by omega⟩
    have u0 := Int.emod_nonneg n1 (show (50 : Int) ≠ 0 by omega)
    have u1 := Int.emod_lt_of_pos n1 (show (0 : Int) < 50 by omega)
    obtain ⟨D, hD⟩ : ∃ D, n1 % 50 = D := ⟨_, rfl⟩
    rw [hD] at r1 u0 u1
    have hq : fromF b.Rest n1 = some (fromR b.Rest n1) := if_pos ⟨by omega, by omega⟩
    obtain ⟨q0, q1⟩ := fromR_b b.Rest n1 c1
    obtain ⟨q, hqe⟩ : ∃ q, fromR b.Rest n1 = q := ⟨_, rfl⟩
    rw [hqe] at hq q0 q1
    have so := some_ok o bits
    obtain ⟨⟨t, m⟩, hsf⟩ : ∃ s, someF b bits = s := ⟨_, rfl⟩
    have hG : spokenG b F bits = (match spokenL b true F m with
      | none => some ⟨[], [], 0, false⟩
      | some r => some ⟨r.1, t, r.2, decide (0 < r.1.length)⟩) := by
      unfold spokenG; rw [if_pos ⟨ho, s0, by omega⟩, hsf]
      simp only
      cases spokenL b true F m <;> rfl
    rw [hsf] at so
    obtain ⟨ht, hir, hl8⟩ := so
    simp only at ht hir hl8
    have hm8 : m.length ≤ 8 := by have := words_len o hir; rw [← ht] at this; omega
    have wq : IntKind.i64.wrap q = q := wrap64 (by omega) (by omega)
    cases hsL : spokenL b true F m with
    | none =>
      rw [hsL] at hG
      refine VP.run (A := F10) (good) [] (by rw [hE]; rfl) (by simp [F10]) ?_; unfold F10; simp (implicitDefEqProofs := false) [enc_list, ho, r0, hG, hq, wq]
    | some r =>
      obtain ⟨plan, ended⟩ := r
      rw [hsL] at hG
      simp only at hG
      cases plan with
      | nil =>
        refine VP.run (A := F10) (good) [] (by rw [hE]; rfl) (by simp [F10]) ?_; unfold F10; simp (implicitDefEqProofs := false) [enc_list, ho, r0, hG, hq]
      | cons y plan =>
        have hne : m ≠ [] := fun h => by rw [h] at hsL; simp [spokenL] at hsL
        have hpl := fun pip => spoken_plan o (pip := pip) hir hne s0 hsL
        obtain ⟨P, hP⟩ : ∃ P, ended + q = P := ⟨_, rfl⟩
        obtain ⟨hp, e1, e2, e3⟩ := hpl P ⟨by omega, by omega⟩
        rw [← ht] at hp
        have hml : (m.length : Int) ≤ 8 := by omega
        have h1t : 1 ≤ t.length := by
          have := words_len o hir
          rw [← ht] at this
          have : m.length ≠ 0 := fun h => hne (List.eq_nil_of_length_eq_zero h)
          omega
        have hw : wordsOk t 8 = true := wordsOk_of h1t hl8 (by rw [ht]; exact words_range o hir)
        have wP : IntKind.i64.wrap (ended + q) = P := by rw [wrap64 (by omega) (by omega)]; exact hP
        have wd : IntKind.i64.wrap (P - F) = P - F := wrap64 (by omega) (by omega)
        by_cases h3 : P - F ≤ 6100
        · have isp := isPlan_of ho hw s0 (by omega) (by omega) h3 hp
          obtain ⟨x, l, late, z, mm, k1, k2, k3, k4, k5, k6, k7, k8, k9, k10, k11, k12⟩ := pip_law ho hw hp s0 (by omega) h3
          have h3' : ¬ 6100 < P - F := by omega
          obtain ⟨g, hg⟩ : ∃ g, (if D < F then F - D else 0) = g := ⟨_, rfl⟩
          have hg0 : 0 ≤ g ∧ g ≤ F ∧ F - D ≤ g := by rw [← hg]; split <;> omega
          have wF : IntKind.i64.wrap (F - D) = F - D := wrap64 (by omega) (by omega)
          have wg : IntKind.i64.wrap (P - g) = P - g := wrap64 (by omega) (by omega)
          have wl : IntKind.i64.wrap (late + 1) = late + 1 := wrap64 (by omega) (by omega)
          have hmin : (if late + 1 < P then late + 1 else P) = late + 1 := by split <;> omega
          have n1 : ¬ plan.length < l.length := by omega
          have n2 : ¬ late < y.At := by omega
          have n3 : ¬ late < x.At := by omega
          have n4 : ¬ mm.length < l.length := by omega
          have n5 : ∀ (a : Start) (l : List Start), List.drop 1 (encL (a :: l)) = PV.int .i64 a.At :: encL l := fun a l => rfl
          have n7 : ∀ n : Nat, ((n : Int) + 1 = 0) = False := fun n => eq_false (by omega)
          have n6 : ∀ n : Nat, (1 ≤ (n + 1) * 2) = True := fun n => eq_true (by omega)
          have gy := get_Start (y :: plan) 0 (by simp)
          have gx := get_Start (x :: l) 0 (by simp)
          have gz := get_Start (z :: mm) 0 (by simp)
          by_cases h4 : 6100 < P - g
          · obtain ⟨⟨bb, ee⟩, hb⟩ : ∃ r, IsPlanR b t g P (y :: plan) = r := ⟨_, rfl⟩
            refine VP.run (A := F10) (good) [] (by rw [hE]; rfl) (by simp [F10]) ?_; unfold F10; simp (implicitDefEqProofs := false) [enc_list, ho, r0, r1, hG, hq, wP, wd, h3', isp, hb, wF, hg, wg, h4, k1, k2, k3, k7, k9, k11, n1, n2, n3, n4, n5, n6, n7, wl, hmin]
          · have hb := isPlan_of ho hw hg0.1 (by omega) (by omega) (by omega) (plan_from hp hg0.2.1)
            refine VP.run (A := F10) (good) [] (by rw [hE]; rfl) (by simp [F10]) ?_; unfold F10; simp (implicitDefEqProofs := false) [enc_list, ho, r0, r1, hG, hq, wP, wd, h3', isp, hb, wF, hg, wg, h4, k1, k2, k3, k7, k9, k11, n1, n2, n3, n4, n5, n6, n7, wl, hmin]
        · have h3' : 6100 < P - F := by omega
          refine VP.run (A := F10) (good) [] (by rw [hE]; rfl) (by simp [F10]) ?_; unfold F10; simp (implicitDefEqProofs := false) [enc_list, ho, r0, hG, hq, wP, wd, h3']
end Go.RS.DC

