/- Walks: the law CourtStricter. -/
import Derived.Test.YtmlogniaahnamaaDoorCla
set_option linter.all false
namespace Go.RS.DC
open Go Go.RS
open Go.RS.Enc (enc dec)
variable {E : VEnv}
theorem claimG_ok {c : Case} (o : CaseOk c) (k : K4) : claimOk c (claimG c (allR c.Calendar) k) = true ∧ -3 ≤ (claimG c (allR c.Calendar) k).Ticks ∧ (claimG c (allR c.Calendar) k).Ticks ≤ 5 := by
  have a1 := o.a1
  have b0 := Int.emod_nonneg (kAt k 0) (show allR c.Calendar ≠ 0 by omega)
  have b1 := Int.emod_lt_of_pos (kAt k 0) (show 0 < allR c.Calendar by omega)
  have b2 := Int.emod_nonneg (kAt k 2) (show (200 : Int) ≠ 0 by omega)
  have b4 := Int.emod_nonneg (kAt k 1) (show (3 : Int) ≠ 0 by omega)
  have b5 := Int.emod_lt_of_pos (kAt k 1) (show (0 : Int) < 3 by omega)
  have b6 := fromR_b ⟨-3, 5⟩ (kAt k 3) (by decide)
  simp only at b6
  refine ⟨?_, b6.1, b6.2⟩
  rw [claimOk_iff]
  unfold claimG clLow
  simp only
  generalize kAt k 0 % allR c.Calendar = low at *
  generalize kAt k 2 % 200 = wd at *
  generalize fromR ⟨-3, 5⟩ (kAt k 3) = tk at *
  omega
def easyK (n : Int) (k : K4) (x : Claim) : Claim :=
  if x.Kind = 0 then ⟨x.Kind, ⟨max 0 (x.When.Low - kAt k 3 % 9), min (n - 1) (x.When.High + kAt k 2 % 9)⟩, x.Reading, x.Ticks⟩
  else if x.Kind = 1 then ⟨x.Kind, ⟨x.When.Low, fromR x.When (kAt k 3)⟩, x.Reading, x.Ticks - kAt k 2 % 3⟩
  else ⟨x.Kind, ⟨fromR x.When (kAt k 3), x.When.High⟩, x.Reading, x.Ticks + kAt k 2 % 3⟩
theorem easy_law {c : Case} (h : okK c = true) (k : K4) {x : Claim} (hx : claimOk c x = true) (h3 : -3 ≤ x.Ticks ∧ x.Ticks ≤ 5) :
    (VerdictR c x = (0, 102) ∧ VerdictR c (easyK (allR c.Calendar) k x) = (0, 102)) ∨ (∃ a b, VerdictR c x = (a, 0) ∧ VerdictR c (easyK (allR c.Calendar) k x) = (b, 0) ∧ a ≤ b) := by
  have hc := (claimOk_iff).1 hx
  obtain ⟨c1, c2, c3, c4⟩ := hc
  have b1 := Int.emod_nonneg (kAt k 3) (show (9 : Int) ≠ 0 by omega)
  have b2 := Int.emod_nonneg (kAt k 2) (show (9 : Int) ≠ 0 by omega)
  have b3 := Int.emod_nonneg (kAt k 2) (show (3 : Int) ≠ 0 by omega)
  have b4 := Int.emod_lt_of_pos (kAt k 2) (show (0 : Int) < 3 by omega)
  have b5 := fromR_b x.When (kAt k 3) c2.2.1
  have key : claimOk c (easyK (allR c.Calendar) k x) = true ∧ (easyK (allR c.Calendar) k x).Kind = x.Kind ∧ (easyK (allR c.Calendar) k x).Reading = x.Reading ∧ (x.Kind = 0 → (easyK (allR c.Calendar) k x).When.Low ≤ x.When.Low ∧ x.When.High ≤ (easyK (allR c.Calendar) k x).When.High) ∧ (x.Kind ≠ 0 → x.When.Low ≤ (easyK (allR c.Calendar) k x).When.Low ∧ (easyK (allR c.Calendar) k x).When.High ≤ x.When.High) ∧ (x.Kind = 1 → (easyK (allR c.Calendar) k x).Ticks ≤ x.Ticks) ∧ (x.Kind = 2 → x.Ticks ≤ (easyK (allR c.Calendar) k x).Ticks) := by
    rw [claimOk_iff]
    unfold easyK
    generalize fromR x.When (kAt k 3) = fr at *
    by_cases k0 : x.Kind = 0
    · rw [if_pos k0]
      exact ⟨by simp only; omega, rfl, rfl, fun _ => by simp only; omega, fun h => absurd k0 h, fun h => by omega, fun h => by omega⟩
    · rw [if_neg k0]
      by_cases k1 : x.Kind = 1
      · rw [if_pos k1]
        refine ⟨?_, rfl, rfl, fun h => absurd h k0, fun _ => ?_, fun _ => ?_, fun h => by omega⟩ <;> simp only <;> omega
      · rw [if_neg k1]
        refine ⟨?_, rfl, rfl, fun h => absurd h k0, fun _ => ?_, fun h => absurd h k1, fun _ => ?_⟩ <;> simp only <;> omega
  obtain ⟨q1, q2, q3, q4, q5, q6, q7⟩ := key
  rcases strict_law h hx q1 q2 q3 q4 q5 q6 q7 with h | ⟨h1, h2, h3⟩
  · exact .inl h
  · exact .inr ⟨_, _, h1, h2, h3⟩
set_option maxHeartbeats 1600000 in
set_option maxRecDepth 20000 in
theorem l_Stricter (hE : E.env.fn = G) (hgl : E.gl 1 = some [f130v, f131v]) (hgk : E.gl 0 = some kindsV) (c : Case) (k : K4) : VP E 7 [enc c, enc k] (.bool true) := by
  have good := goodV_cons (k_sound hE) (goodV_cons (k_works hE hgl hgk) (goodV_cons (k_claimed hE hgl) (goodV_cons (w_Rest hE) (goodV_cons (w_To hE) (goodV_cons (w_From hE) (goodV_cons (k_Verdict hE hgl hgk) goodV_nil))))))
  have h4 := k4_cells k
  have hdk : (dec (PV.agg [.int .i64 (kAt k 0), .int .i64 (kAt k 1), .int .i64 (kAt k 2), .int .i64 (kAt k 3)]) : Option K4) = some k := by rw [← h4, ← enc_Arr]; exact Enc.dec_enc _
  cases ho : okK c
  · have hs : soundK c = 0 := by unfold soundK; rw [ho]; rfl
    refine VP.run (A := F7) (good) [] (by rw [hE]; rfl) (by simp [F7]) ?_; unfold F7; simp (implicitDefEqProofs := false) [enc_list, enc_Arr, h4, hs]
  · have hs : soundK c = allR c.Calendar := by unfold soundK; rw [ho]; rfl
    have o := okK_ok ho
    have a1 := o.a1
    have a2 := o.a2
    have hn0 : ¬ allR c.Calendar = 0 := by omega
    have hcl : claimGF c (allR c.Calendar) k = some (claimG c (allR c.Calendar) k) := if_pos ⟨by omega, by omega⟩
    obtain ⟨hx, hx3⟩ := claimG_ok o k
    have hlaw := easy_law ho k hx hx3
    obtain ⟨c1, c2, c3, c4⟩ := (claimOk_iff).1 hx
    generalize claimG c (allR c.Calendar) k = x at *
    have b1 := Int.emod_nonneg (kAt k 3) (show (9 : Int) ≠ 0 by omega)
    have b1' := Int.emod_lt_of_pos (kAt k 3) (show (0 : Int) < 9 by omega)
    have b2 := Int.emod_nonneg (kAt k 2) (show (9 : Int) ≠ 0 by omega)
    have b2' := Int.emod_lt_of_pos (kAt k 2) (show (0 : Int) < 9 by omega)
    have b3 := Int.emod_nonneg (kAt k 2) (show (3 : Int) ≠ 0 by omega)
    have b4 := Int.emod_lt_of_pos (kAt k 2) (show (0 : Int) < 3 by omega)
    have r1 : restF (kAt k 3) 9 = some (kAt k 3 % 9) := if_pos ⟨by omega, by omega⟩
    have r2 : restF (kAt k 2) 9 = some (kAt k 2 % 9) := if_pos ⟨by omega, by omega⟩
    have r3 : restF (kAt k 2) 3 = some (kAt k 2 % 3) := if_pos ⟨by omega, by omega⟩
    have r4 : fromF x.When (kAt k 3) = some (fromR x.When (kAt k 3)) := if_pos ⟨by omega, by omega⟩
    have w0 : IntKind.i64.wrap (allR c.Calendar - 1) = allR c.Calendar - 1 := wrap64 (by omega) (by omega)
    have w1 : IntKind.i64.wrap (x.When.Low - kAt k 3 % 9) = x.When.Low - kAt k 3 % 9 := wrap64 (by omega) (by omega)
    have w2 : IntKind.i64.wrap (x.When.High + kAt k 2 % 9) = x.When.High + kAt k 2 % 9 := wrap64 (by omega) (by omega)
    have w3 : IntKind.i64.wrap (x.Ticks - kAt k 2 % 3) = x.Ticks - kAt k 2 % 3 := wrap64 (by omega) (by omega)
    have w4 : IntKind.i64.wrap (x.Ticks + kAt k 2 % 3) = x.Ticks + kAt k 2 % 3 := wrap64 (by omega) (by omega)
    obtain ⟨y, hy⟩ : ∃ y, easyK (allR c.Calendar) k x = y := ⟨_, rfl⟩
    rw [hy] at hlaw
    refine VP.func (A := F7) (by rw [hE]; rfl) (by simp [F7]) ?_; unfold F7
    refine VW.seq (VW.run good [] ?_); simp (implicitDefEqProofs := false) [enc_list, enc_Arr, h4]
    refine VW.seq (VW.run good [] ?_); simp (implicitDefEqProofs := false) [enc_list, hs]
    refine VW.seq (VW.run good [] ?_); simp (implicitDefEqProofs := false) [enc_list, hn0]
    refine VW.seq (VW.run good [] ?_); simp (implicitDefEqProofs := false) [enc_list, hdk, hcl, spliceV]
    refine VW.seq (VW.run good [] ?_); simp (implicitDefEqProofs := false) [enc_list, spliceV]
    refine VW.seq_cut [(2, .ptr 0 12 0), (6, .ptr 2 8 0), (7, .ptr 3 8 0)] [ccl c, .cells [.int .i64 (kAt k 0), .int .i64 (kAt k 1), .int .i64 (kAt k 2), .int .i64 (kAt k 3)], .cells (clmC x), .cells (clmC y)] (VW.run good [] ?_) ?_
    · unfold easyK at hy
      by_cases k0 : x.Kind = 0
      · rw [if_pos k0] at hy
        subst hy
        have m1 : (if kAt k 3 % 9 < x.When.Low then x.When.Low - kAt k 3 % 9 else 0) = max 0 (x.When.Low - kAt k 3 % 9) := by split <;> omega
        have m2 : (if x.When.High + kAt k 2 % 9 < allR c.Calendar - 1 then x.When.High + kAt k 2 % 9 else allR c.Calendar - 1) = min (allR c.Calendar - 1) (x.When.High + kAt k 2 % 9) := by split <;> omega
        simp (implicitDefEqProofs := false) [enc_list, k0, r1, r2, w0, w1, w2, m1, m2, spliceV]
        exact ⟨4, [], by simp [enc_list,  k0], by simp, by simp, by simp (implicitDefEqProofs := false) [enc_list,  k0], by simp (implicitDefEqProofs := false) [enc_list,  k0]⟩
      · rw [if_neg k0] at hy
        by_cases k1 : x.Kind = 1
        · rw [if_pos k1] at hy
          subst hy
          simp (implicitDefEqProofs := false) [enc_list, k1, r3, r4, w3, spliceV]
          exact ⟨4, [], by simp [enc_list,  k1], by simp, by simp, by simp (implicitDefEqProofs := false) [enc_list,  k1], by simp (implicitDefEqProofs := false) [enc_list,  k1]⟩
        · rw [if_neg k1] at hy
          subst hy
          simp (implicitDefEqProofs := false) [enc_list, k0, k1, r3, r4, w4, spliceV]
          exact ⟨4, [], by simp [enc_list], by simp, by simp, by simp (implicitDefEqProofs := false) [enc_list], by simp (implicitDefEqProofs := false) [enc_list]⟩
    · rcases hlaw with ⟨h1, h2⟩ | ⟨a, b, h1, h2, h3⟩
      · refine VW.seq (VW.run good [] ?_); simp (implicitDefEqProofs := false) [enc_list, h1]
        refine VW.seq (VW.run good [] ?_); simp (implicitDefEqProofs := false) [enc_list, h2]
        refine VW.run good [] ?_; simp (implicitDefEqProofs := false) [enc_list]
      · refine VW.seq (VW.run good [] ?_); simp (implicitDefEqProofs := false) [enc_list, h1]
        refine VW.seq (VW.run good [] ?_); simp (implicitDefEqProofs := false) [enc_list, h2]
        refine VW.run good [] ?_; simp (implicitDefEqProofs := false) [enc_list, h3]
end Go.RS.DC

