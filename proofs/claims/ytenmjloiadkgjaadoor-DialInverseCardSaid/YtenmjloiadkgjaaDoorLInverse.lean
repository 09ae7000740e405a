/- Walks: the law DialInverse. -/
import Derived.Test.YtenmjloiadkgjaaDoorDla
set_option linter.all false
namespace Go.RS.DC
open Go Go.RS
open Go.RS.Enc (enc dec)
variable {E : VEnv}
set_option maxHeartbeats 3200000 in
set_option maxRecDepth 20000 in
theorem l_Inverse (hE : E.env.fn = G) (hgl : E.gl 0 = some [f130v, f131v]) (c : Cal) (n0 n1 : Int) : VP E 7 [enc c, .agg [.int .i64 n0, .int .i64 n1]] (.bool true) := by
  have good := goodV_cons (w_sound hE) (goodV_cons (w_ticksOf hE) (goodV_cons (w_Rest hE) (goodV_cons (w_ReadingP hE hgl) (goodV_cons (w_TickP hE hgl) (goodV_cons (w_later hE) (goodV_cons (w_Lies hE) (goodV_cons (w_works hE hgl) goodV_nil)))))))
  cases ho : okC c
  · refine VP.run (A := F7) (good) [] (by rw [hE]; rfl) (by simp [F7]) ?_; unfold F7; simp (implicitDefEqProofs := false) [enc_list, ho]
  · have o := okC_ok ho
    have ab := allR_b o
    have hT : ticksOfR c = (allR c, true) := if_pos ho
    obtain ⟨i1, i2, i3⟩ := all_mod o n0
    obtain ⟨k1, k2, k3⟩ := all_mod o n1
    generalize n0 % allR c = i at *
    generalize n1 % allR c = k at *
    have r1 := reading_of ho i2 i3
    have r2 := reading_of ho k2 k3
    have t1 := tick_of ho i2 i3
    have L1 : i < k → aheadB (listR (readR c i)) (listR (readR c k)) = true := fun h => (later_iff _ _).2 (read_later o i2 h k3)
    have L2 : k < i → aheadB (listR (readR c k)) (listR (readR c i)) = true := fun h => (later_iff _ _).2 (read_later o k2 h i3)
    have hv := (read_valid o i2 i3).1
    simp only [validR, Bool.and_eq_true, wi_iff] at hv
    have mb := o.mb (readR c i).Day
    have hsec : secsR c (readR c i).Day (minOf c (readR c i)) ≤ c.Seconds + 1 := by unfold secsR; split <;> omega
    have s0 : wi (readR c i).Second 0 c.Seconds = true := (wi_iff _ _ _).2 ⟨hv.2.1, by omega⟩
    have s1 := o.s1
    have s2 := o.s2
    have w1 : IntKind.i64.wrap (i + 1) = i + 1 := wrap64 (by omega) (by omega)
    have w2 : IntKind.i64.wrap ((readR c i).Second + 1) = (readR c i).Second + 1 := wrap64 (by omega) (by omega)
    have w3 : IntKind.i64.wrap (c.Seconds - 2) = c.Seconds - 2 := wrap64 (by omega) (by omega)
    have sec0 := hv.2.1
    have nxt : i + 1 < allR c → readR c (i + 1) = ⟨(readR c i).Day, (readR c i).Hour, (readR c i).Minute, (readR c i).Second + 1⟩ ∨ ((readR c (i + 1)).Second = 0 ∧ c.Seconds - 2 ≤ (readR c i).Second) := fun h => read_next o i2 h
    have r3 : i + 1 < allR c → ReadingR c (i + 1) = (readR c (i + 1), 0) := fun h => reading_of ho (by omega) h
    have r4 : ReadingR c (allR c) = (zeroRd, 11) := reading_out ho (.inr (Int.le_refl _))
    have L3 : i + 1 < allR c → aheadB (listR (readR c i)) (listR (readR c (i + 1))) = true := fun h => (later_iff _ _).2 (read_later o i2 (by omega) h)
    have hik : i = k → readR c k = readR c i := fun h => by rw [h]
    generalize readR c i = r at *
    generalize readR c k = s at *
    generalize readR c (i + 1) = q at *
    generalize allR c = A at *
    have hcmp : (i < k ∧ ¬ k < i ∧ ¬ i = k ∧ aheadB (listR r) (listR s) = true) ∨ (¬ i < k ∧ k < i ∧ ¬ i = k ∧ aheadB (listR s) (listR r) = true) ∨ (¬ i < k ∧ ¬ k < i ∧ i = k ∧ s = r) := by
      by_cases h : i < k
      · exact .inl ⟨h, by omega, by omega, L1 h⟩
      · by_cases h2 : k < i
        · exact .inr (.inl ⟨h, h2, by omega, L2 h2⟩)
        · have : i = k := by omega
          exact .inr (.inr ⟨h, h2, this, hik this⟩)
    have hend : i + 1 = A ∨ ¬ i + 1 = A ∧ ReadingR c (i + 1) = (q, 0) ∧ aheadB (listR r) (listR q) = true ∧ (q = ⟨r.Day, r.Hour, r.Minute, r.Second + 1⟩ ∨ (q.Second = 0 ∧ c.Seconds - 2 ≤ r.Second)) := by
      by_cases h : i + 1 = A
      · exact .inl h
      · exact .inr ⟨h, r3 (by omega), L3 (by omega), nxt (by omega)⟩
    clear L1 L2 L3 hik nxt r3
    have wA : IntKind.i64.wrap A = A := wrap64 (by omega) (by omega)
    have hne : (0 == r.Second + 1) = false := by simp; omega
    refine VP.func (A := F7) (by rw [hE]; rfl) (by simp [F7]) ?_; unfold F7
    rcases hend with he | ⟨he, r3, L3, hq⟩
    · rcases hcmp with ⟨g1, g2, g3, g4⟩ | ⟨g1, g2, g3, g4⟩ | ⟨g1, g2, rfl, rfl⟩
      · refine VW.run good [] ?_; simp (implicitDefEqProofs := false) [enc_list, ho, hT, i1, k1, r1, r2, t1, r4, g1, g2, g3, g4, s0, w1, he, wA, spliceV, zeroRd]
      · refine VW.run good [] ?_; simp (implicitDefEqProofs := false) [enc_list, ho, hT, i1, k1, r1, r2, t1, r4, g1, g2, g3, g4, s0, w1, he, wA, spliceV, zeroRd]
      · refine VW.run good [] ?_; simp (implicitDefEqProofs := false) [enc_list, ho, hT, i1, k1, r1, r2, t1, r4, g1, g2, s0, w1, he, wA, spliceV, zeroRd]
    · rcases hq with rfl | ⟨hq1, hq2⟩
      · rcases hcmp with ⟨g1, g2, g3, g4⟩ | ⟨g1, g2, g3, g4⟩ | ⟨g1, g2, rfl, rfl⟩
        · refine VW.run good [] ?_; simp (implicitDefEqProofs := false) [enc_list, ho, hT, i1, k1, r1, r2, t1, r3, g1, g2, g3, g4, s0, w1, w2, he, spliceV]
        · refine VW.run good [] ?_; simp (implicitDefEqProofs := false) [enc_list, ho, hT, i1, k1, r1, r2, t1, r3, g1, g2, g3, g4, s0, w1, w2, he, spliceV]
        · refine VW.run good [] ?_; simp (implicitDefEqProofs := false) [enc_list, ho, hT, i1, k1, r1, r2, t1, r3, g1, g2, s0, w1, w2, he, spliceV]
      · obtain ⟨qd, qh, qm, qs⟩ := q
        obtain rfl : qs = 0 := hq1
        rcases hcmp with ⟨g1, g2, g3, g4⟩ | ⟨g1, g2, g3, g4⟩ | ⟨g1, g2, rfl, rfl⟩
        · refine VW.run good [] ?_; simp (implicitDefEqProofs := false) [enc_list, ho, hT, i1, k1, r1, r2, t1, r3, g1, g2, g3, g4, s0, w1, w2, w3, he, hq2, L3, hne, spliceV]
        · refine VW.run good [] ?_; simp (implicitDefEqProofs := false) [enc_list, ho, hT, i1, k1, r1, r2, t1, r3, g1, g2, g3, g4, s0, w1, w2, w3, he, hq2, L3, hne, spliceV]
        · refine VW.run good [] ?_; simp (implicitDefEqProofs := false) [enc_list, ho, hT, i1, k1, r1, r2, t1, r3, g1, g2, s0, w1, w2, w3, he, hq2, L3, hne, spliceV]
end Go.RS.DC

