/- Walks: the law VoiceLater. -/
import Derived.Test.YtcbkaiakncbcbaaDoorVla
import Derived.Test.YtcbkaiakncbcbaaDoorVpb
set_option linter.all false
namespace Go.RS.DC
open Go Go.RS
open Go.RS.Enc (enc dec)
variable {E : VEnv}
set_option maxHeartbeats 3200000 in
set_option maxRecDepth 20000 in
theorem l_Later (hE : E.env.fn = G) (hgl : E.gl 1 = some [f130v, f131v]) (hgl2 : E.gl 0 = some vparts) (b : Book) (x : Asked) (hxp : x.Pip < 9223372036854775808) (n0 n1 : Int) : VP E 11 [enc b, enc x, .agg [.int .i64 n0, .int .i64 n1]] (.bool true) := by
  have good := goodV_cons (v_sound hE) (goodV_cons (v_can hE) (goodV_cons (v_Plan hE) (goodV_cons (v_Latest hE) (goodV_cons (v_IsPlan hE) (goodV_cons (w_Rest hE) (goodV_cons (w_To hE) (goodV_cons (v_works hE hgl hgl2) goodV_nil)))))))
  have hcg : canG x = some (canB x) := if_pos hxp
  cases ho : okB b
  · refine VP.run (A := F11) (good) [] (by rw [hE]; rfl) (by simp [F11]) ?_; unfold F11; simp (implicitDefEqProofs := false) [enc_list, ho]
  · cases hcb : canB x
    · rw [hcb] at hcg
      refine VP.run (A := F11) (good) [] (by rw [hE]; rfl) (by simp [F11]) ?_; unfold F11; simp (implicitDefEqProofs := false) [enc_list, ho, hcg]
    · rw [hcb] at hcg
      have o := okB_ok ho
      have d2 := o.d2
      unfold canB at hcb
      simp only [Bool.and_eq_true, decide_eq_true_eq] at hcb
      obtain ⟨⟨⟨⟨hw, h0⟩, h1⟩, h3⟩, h2⟩ := hcb
      obtain ⟨text, from_, pip⟩ := x
      simp only at hw h0 h1 h2 h3 hxp
      -- the wider book
      have s0 := Int.emod_nonneg n0 (show (9 : Int) ≠ 0 by omega)
      have s1 := Int.emod_nonneg n1 (show (9 : Int) ≠ 0 by omega)
      have s2 := Int.emod_nonneg n0 (show (7 : Int) ≠ 0 by omega)
      have s3 := Int.emod_nonneg n1 (show (7 : Int) ≠ 0 by omega)
      have e0 := Int.emod_lt_of_pos n0 (show (0 : Int) < 9 by omega)
      have e1 := Int.emod_lt_of_pos n1 (show (0 : Int) < 9 by omega)
      have e2 := Int.emod_lt_of_pos n0 (show (0 : Int) < 7 by omega)
      have e3 := Int.emod_lt_of_pos n1 (show (0 : Int) < 7 by omega)
      have r0 : restF n0 9 = some (n0 % 9) := if_pos ⟨by omega, by omega⟩
      have r1 : restF n1 9 = some (n1 % 9) := if_pos ⟨by omega, by omega⟩
      have r2 : restF n0 7 = some (n0 % 7) := if_pos ⟨by omega, by omega⟩
      have r3 : restF n1 7 = some (n1 % 7) := if_pos ⟨by omega, by omega⟩
      obtain ⟨q0, hq0⟩ : ∃ q, n0 % 9 = q := ⟨_, rfl⟩
      obtain ⟨q1, hq1⟩ : ∃ q, n1 % 9 = q := ⟨_, rfl⟩
      obtain ⟨q2, hq2⟩ : ∃ q, n0 % 7 = q := ⟨_, rfl⟩
      obtain ⟨q3, hq3⟩ : ∃ q, n1 % 7 = q := ⟨_, rfl⟩
      rw [hq0] at r0 s0 e0
      rw [hq1] at r1 s1 e1
      rw [hq2] at r2 s2 e2
      rw [hq3] at r3 s3 e3
      obtain ⟨hwid, hoy⟩ := wide_ok ho s0 s1 s2 s3
      have hwl := wider_law ho hoy hwid hw h0 h1 h2 h3
      have hlat := fun P d0 hD h => later_law (D := P) ho hw h0 h1 h3 d0 hD h
      have htold := told ho hw h0 h1 h2 h3
      -- the plan, and the latest time
      have key : ∃ l e late, PlanPR b text from_ pip = (l, e) ∧ LatestPR b text from_ pip = (late, e) ∧ ((e = 4 ∧ l = [] ∧ late = 0) ∨ e = 0) ∧ (∀ s ∈ l, 0 ≤ s.At ∧ s.At ≤ 100000000) ∧ l.length ≤ 8 ∧ 0 ≤ late ∧ late ≤ 100000000 := by
        rcases htold with ⟨t1, t2, _⟩ | ⟨z, l, late, t1, t2, t3, _, ⟨s, q, t5, t6⟩, _⟩
        · exact ⟨_, _, _, t1, t2, .inl ⟨rfl, rfl, rfl⟩, by simp, by simp, by omega, by omega⟩
        · have hs := t5.2 s (by simp)
          refine ⟨_, _, _, t1, t2, .inr rfl, fun s hs => ?_, ?_, by omega, by omega⟩
          · have := t3.2 s hs
            omega
          · have := cont_len o t3.1 (Nat.zero_le _)
            have := (words_of hw).2
            omega
      obtain ⟨l, e, late, k1, k2, k3, k4, k5, k6, k7⟩ := key
      have ke : (e = 0 ∨ e = 4) := by rcases k3 with h | h; exact .inr h.1; exact .inl h
      refine VP.func (A := F11) (by rw [hE]; rfl) (by simp [F11]) ?_; unfold F11
      refine VW.seq (VW.run good [] ?_); simp (implicitDefEqProofs := false) [enc_list]
      refine VW.seq (VW.run good [] ?_); simp (implicitDefEqProofs := false) [enc_list, ho, hcg]
      refine VW.seq (VW.run good [] ?_); simp (implicitDefEqProofs := false) [enc_list]
      refine VW.seq (VW.seq (VW.run good [] ?_))
      simp (implicitDefEqProofs := false) [enc_list]
      refine VW.block ?_
      refine VW.loop_toE 0 (fun (P : Int) => [(3, .ptr 0 6 0), (4, .ptr 1 3 0), (5, .ptr 2 2 0), (7, .int .i64 P)]) (fun (P : Int) => [bcl b, .cells [enc text, .int .i64 from_, .int .i64 pip], .cells [.int .i64 n0, .int .i64 n1]]) (fun (P : Int) => prodF b.Discs 1 = some P) ?_ (fun P hp f m hc => ?_)
      · obtain ⟨Inv, hI⟩ : ∃ Inv : Nat → List (Nat × PV) → VM → Prop, ∀ k f m, Inv k f m ↔ (∃ D, f = [(3, .ptr 0 6 0), (4, .ptr 1 3 0), (5, .ptr 2 2 0), (7, .int .i64 D), (8, .int .i64 k)] ∧ m = [bcl b, .cells [enc text, .int .i64 from_, .int .i64 pip], .cells [.int .i64 n0, .int .i64 n1]] ∧ prodF (b.Discs.drop k) D = prodF b.Discs 1 ∧ 1 ≤ D ∧ D ≤ 1000000) := ⟨_, fun _ _ _ => Iff.rfl⟩
        refine VW.loop_cut Inv b.Discs.length ?_ ?_ ?_
        · exact ⟨_, _, (hI _ _ _).2 ⟨1, rfl, rfl, rfl, by omega, by omega⟩, ⟨3, [], by simp [enc_list], by simp, by simp, by simp (implicitDefEqProofs := false) [enc_list], by simp (implicitDefEqProofs := false) [enc_list]⟩⟩
        · intro k f m hk hi
          obtain ⟨D, rfl, rfl, hp, hD1, hD2⟩ := (hI _ _ _).1 hi
          have w1 : IntKind.i64.wrap ((k : Int) + 1) = k + 1 := wrap64 (by omega) (by omega)
          have hk' : (k : Int) < b.Discs.length := by omega
          rw [List.drop_eq_getElem_cons hk, prodF] at hp
          have hd := o.ds _ (List.getElem_mem hk)
          have hg := get_Int b.Discs k hk
          generalize b.Discs[k] = d at *
          have hm1 : D * d ≤ 1000000 * 500 := Int.mul_le_mul hD2 hd.2 (by omega) (by omega)
          have hm0 : 1 ≤ D * d := by
            have := Int.mul_le_mul hD1 hd.1 (by decide) (by omega)
            simpa using this
          obtain ⟨M, hM⟩ : ∃ M, D * d = M := ⟨_, rfl⟩
          rw [hM] at hp hm1 hm0
          have w2 : IntKind.i64.wrap (D * d) = M := by rw [hM]; exact wrap64 (by omega) (by omega)
          by_cases hgt : 1000000 < M
          · refine VW.run good [] ?_; simp (implicitDefEqProofs := false) [enc_list, hk, hk', hg, w1, w2, hgt]
            simp (implicitDefEqProofs := false) [enc_list, AExit.leave]
          · rw [if_neg hgt] at hp
            refine VW.run good [] ?_; simp (implicitDefEqProofs := false) [enc_list, hk, hk', hg, w1, w2, hgt]
            exact ⟨_, _, (hI _ _ _).2 ⟨M, rfl, rfl, hp, hm0, by omega⟩, ⟨3, [], by simp [enc_list], by simp, by simp, by simp (implicitDefEqProofs := false) [enc_list], by simp (implicitDefEqProofs := false) [enc_list]⟩⟩
        · intro f m hi
          obtain ⟨D, rfl, rfl, hp, hD1, hD2⟩ := (hI _ _ _).1 hi
          rw [List.drop_length, prodF] at hp
          refine VW.run good [] ?_; simp (implicitDefEqProofs := false) [enc_list]
          exact ⟨D, hp.symm, ⟨3, [], by simp [enc_list], by simp, by simp, by simp (implicitDefEqProofs := false) [enc_list], by simp (implicitDefEqProofs := false) [enc_list]⟩⟩
      · obtain ⟨P1, P2, _, P4⟩ := prodF_ok _ _ (fun n hn => (o.ds n hn).1) (by decide) (by decide) hp
        simp (implicitDefEqProofs := false) [enc_list, AExit.leave]
        refine .ofCut hc ?_
        refine VW.seq (VW.run good [] ?_); simp (implicitDefEqProofs := false) [enc_list, k1]
        refine VW.seq (VW.run good [] ?_); simp (implicitDefEqProofs := false) [enc_list, k2]
        refine VW.seq_cut [(3, .ptr 0 6 0), (4, .ptr 1 3 0), (5, .ptr 2 2 0), (7, .int .i64 P), (9, enc l), (10, .int .i64 e), (11, .int .i64 late)] [bcl b, .cells [enc text, .int .i64 from_, .int .i64 pip], .cells [.int .i64 n0, .int .i64 n1]] (VW.run good [] ?_) ?_
        · rcases ke with rfl | rfl
          · simp (implicitDefEqProofs := false) [enc_list]
            exact ⟨3, [], by simp [enc_list], by simp, by simp, by simp (implicitDefEqProofs := false) [enc_list], by simp (implicitDefEqProofs := false) [enc_list]⟩
          · simp (implicitDefEqProofs := false) [enc_list]
            exact ⟨3, [], by simp [enc_list], by simp, by simp, by simp (implicitDefEqProofs := false) [enc_list], by simp (implicitDefEqProofs := false) [enc_list]⟩
        refine VW.seq_cut [(3, .ptr 0 6 0), (4, .ptr 1 3 0), (5, .ptr 2 2 0), (9, enc l), (10, .int .i64 e)] [bcl b, .cells [enc text, .int .i64 from_, .int .i64 pip], .cells [.int .i64 n0, .int .i64 n1]] ?_ ?_
        · have w5 : IntKind.i64.wrap (pip + P) = pip + P := wrap64 (by omega) (by omega)
          have w6 : IntKind.i64.wrap (from_ + P) = from_ + P := wrap64 (by omega) (by omega)
          have w7 : IntKind.i64.wrap (late + P) = late + P := wrap64 (by omega) (by omega)
          by_cases hq5 : pip + P ≤ 100000000
          · have hl5 : ∃ m late', PlanPR b text (from_ + P) (pip + P) = (m, e) ∧ LatestPR b text (from_ + P) (pip + P) = (late', e) ∧ m.length = l.length ∧ (e = 0 → late' = late + P) ∧ IsPlanR b text (from_ + P) (pip + P) (shiftS P l) = (decide (e = 0), 0) := by
              rcases hlat P (by omega) P4 hq5 with ⟨c1, c2, c3, c4, c5⟩ | ⟨l', m, late', c1, c2, c3, c4, c5, c6⟩
              · rw [k1] at c1; cases c1
                exact ⟨_, _, c3, c4, rfl, fun h => by simp at h, c5⟩
              · rw [k1] at c1; cases c1
                rw [k2] at c2; cases c2
                exact ⟨_, _, c3, c4, c5, fun _ => rfl, c6⟩
            obtain ⟨m, late', j1, j2, j3, j4, j5⟩ := hl5
            refine VW.seq (VW.run good [] ?_)
            simp (implicitDefEqProofs := false) [enc_list, w5, hq5]
            refine VW.cond (t := true) (by simp) (fun _ => ?_) (fun h => by cases h)
            refine VW.seq (VW.run good [] ?_); simp (implicitDefEqProofs := false) [enc_list, w5, w6, j1]
            refine VW.seq (VW.run good [] ?_); simp (implicitDefEqProofs := false) [enc_list, w5, w6, j2]
            refine VW.seq_cut [(3, .ptr 0 6 0), (4, .ptr 1 3 0), (5, .ptr 2 2 0), (7, .int .i64 P), (9, enc l), (10, .int .i64 e)] [bcl b, .cells [enc text, .int .i64 from_, .int .i64 pip], .cells [.int .i64 n0, .int .i64 n1]] (VW.run good [] ?_) ?_
            · have j3' : (m.length : Int) = (l.length : Int) := by omega
              rcases ke with rfl | rfl
              · have j4' := j4 rfl
                simp (implicitDefEqProofs := false) [enc_list, j3, j3', j4', w7]
                exact ⟨3, [], by simp [enc_list], by simp, by simp, by simp (implicitDefEqProofs := false) [enc_list], by simp (implicitDefEqProofs := false) [enc_list]⟩
              · simp (implicitDefEqProofs := false) [enc_list, j3, j3']
                exact ⟨3, [], by simp [enc_list], by simp, by simp, by simp (implicitDefEqProofs := false) [enc_list], by simp (implicitDefEqProofs := false) [enc_list]⟩
            refine VW.seq (VW.run good [] ?_); simp (implicitDefEqProofs := false) [enc_list]
            refine VW.declare 17 2 (by simp) ?_
            refine VW.seq_cut [(3, .ptr 0 6 0), (4, .ptr 1 3 0), (5, .ptr 2 2 0), (7, .int .i64 P), (10, .int .i64 e), (9, enc l), (17, .sl 3 ((shiftS P l).length * 2) 0 (shiftS P l).length (openCap + 2) 2)] [bcl b, .cells [enc text, .int .i64 from_, .int .i64 pip], .cells [.int .i64 n0, .int .i64 n1], .vec (encL (shiftS P l))] ?_ ?_
            · refine VW.seq (VW.run good [] ?_)
              simp (implicitDefEqProofs := false) [enc_list]
              refine VW.block ?_
              refine VW.loop_to 2 [(3, .ptr 0 6 0), (4, .ptr 1 3 0), (5, .ptr 2 2 0), (7, .int .i64 P), (10, .int .i64 e), (9, enc l), (17, .sl 3 ((shiftS P l).length * 2) 0 (shiftS P l).length (openCap + 2) 2)] [bcl b, .cells [enc text, .int .i64 from_, .int .i64 pip], .cells [.int .i64 n0, .int .i64 n1], .vec (encL (shiftS P l))] (True) ?_ (fun hp f m hc => ?_)
              · obtain ⟨Inv, hI⟩ : ∃ Inv : Nat → List (Nat × PV) → VM → Prop, ∀ k f m, Inv k f m ↔ (∃ out : List Start, f = [(3, .ptr 0 6 0), (4, .ptr 1 3 0), (5, .ptr 2 2 0), (7, .int .i64 P), (10, .int .i64 e), (9, enc l), (17, .sl 3 (out.length * 2) 0 out.length (openCap + 2) 2), (18, .int .i64 k)] ∧ m = [bcl b, .cells [enc text, .int .i64 from_, .int .i64 pip], .cells [.int .i64 n0, .int .i64 n1], .vec (encL out)] ∧ out = shiftS P (l.take k) ∧ out.length = k) := ⟨_, fun _ _ _ => Iff.rfl⟩
                refine VW.loop_cut Inv l.length ?_ ?_ ?_
                · exact ⟨_, _, (hI _ _ _).2 ⟨[], rfl, rfl, rfl, rfl⟩, ⟨4, [], by simp [enc_list], by simp, by simp, by simp (implicitDefEqProofs := false) [enc_list], by simp (implicitDefEqProofs := false) [enc_list]⟩⟩
                · intro k f m hk hi
                  obtain ⟨out, rfl, rfl, hout, hol⟩ := (hI _ _ _).1 hi
                  have v1 : IntKind.i64.wrap ((k : Int) + 1) = k + 1 := wrap64 (by omega) (by omega)
                  have hk' : (k : Int) < l.length := by omega
                  have htk : l.take (k + 1) = l.take k ++ [l[k]] := by rw [List.take_add_one, List.getElem?_eq_getElem hk]; rfl
                  have hb := k4 _ (List.getElem_mem hk)
                  have hg := get_Start l k hk
                  have hst : shiftS P (l.take (k + 1)) = out ++ [⟨l[k].Piece, l[k].At + P⟩] := by rw [htk, hout]; unfold shiftS; rw [List.map_append]; rfl
                  generalize l[k] = y at *
                  have v2 : IntKind.i64.wrap (y.At + P) = y.At + P := wrap64 (by omega) (by omega)
                  have hf : fits (out.length + 1) 16 = true := by unfold fits; simp; omega
                  have hap := app_Start [bcl b, .cells [.lst false text.length 1 (encL text), .int .i64 from_, .int .i64 pip], .cells [.int .i64 n0, .int .i64 n1], .vec (encL out)] 3 16 out ⟨y.Piece, y.At + P⟩ rfl hf
                  simp only at hap
                  refine VW.run good [] ?_; simp (implicitDefEqProofs := false) [enc_list, hk, hk', hg, v1, v2, hap, spliceV]
                  exact ⟨_, _, (hI _ _ _).2 ⟨out ++ [⟨y.Piece, y.At + P⟩], rfl, rfl, hst.symm, by simp [hol]⟩, ⟨4, [], by simp [enc_list], by simp, by simp, by simp (implicitDefEqProofs := false) [enc_list], by simp (implicitDefEqProofs := false) [enc_list]⟩⟩
                · intro f m hi
                  obtain ⟨out, rfl, rfl, hout, hol⟩ := (hI _ _ _).1 hi
                  rw [List.take_length] at hout
                  subst hout
                  refine VW.run good [] ?_; simp (implicitDefEqProofs := false) [enc_list]
                  exact ⟨4, [], by simp [enc_list], by simp, by simp, by simp (implicitDefEqProofs := false) [enc_list], by simp (implicitDefEqProofs := false) [enc_list]⟩
              · simp (implicitDefEqProofs := false) [enc_list, AExit.leave]
                exact hc
            refine VW.run good [] ?_
            rcases ke with rfl | rfl
            · simp (implicitDefEqProofs := false) [enc_list, w5, w6, j5]
              exact ⟨3, [], by simp [enc_list], by simp, by simp, by simp (implicitDefEqProofs := false) [enc_list], by simp (implicitDefEqProofs := false) [enc_list]⟩
            · simp (implicitDefEqProofs := false) [enc_list, w5, w6, j5]
              exact ⟨3, [], by simp [enc_list], by simp, by simp, by simp (implicitDefEqProofs := false) [enc_list], by simp (implicitDefEqProofs := false) [enc_list]⟩
          · refine VW.run good [] ?_
            simp (implicitDefEqProofs := false) [enc_list, w5, hq5]
            exact ⟨3, [], by simp [enc_list], by simp, by simp, by simp (implicitDefEqProofs := false) [enc_list], by simp (implicitDefEqProofs := false) [enc_list]⟩
        have oa0 := o.a0
        have oa1 := o.a1
        have oa2 := o.a2
        have oc0 := o.r0
        have oc1 := o.r1
        have oc2 := o.r2
        have z1 : IntKind.i64.wrap (b.Pause.Low - q0) = b.Pause.Low - q0 := wrap64 (by omega) (by omega)
        have z2 : IntKind.i64.wrap (b.Pause.High + q1) = b.Pause.High + q1 := wrap64 (by omega) (by omega)
        have z3 : IntKind.i64.wrap (b.Rest.Low - q3) = b.Rest.Low - q3 := wrap64 (by omega) (by omega)
        have z4 : IntKind.i64.wrap (b.Rest.High + q2) = b.Rest.High + q2 := wrap64 (by omega) (by omega)
        have mm1 : (if q0 < b.Pause.Low then b.Pause.Low - q0 else 0) = max 0 (b.Pause.Low - q0) := by rw [Int.max_def]; split <;> split <;> omega
        have mm2 : (if b.Pause.High + q1 < 200 then b.Pause.High + q1 else 200) = min 200 (b.Pause.High + q1) := by rw [Int.min_def]; split <;> split <;> omega
        have mm3 : (if q3 < b.Rest.Low then b.Rest.Low - q3 else 0) = max 0 (b.Rest.Low - q3) := by rw [Int.max_def]; split <;> split <;> omega
        have mm4 : (if b.Rest.High + q2 < 500 then b.Rest.High + q2 else 500) = min 500 (b.Rest.High + q2) := by rw [Int.min_def]; split <;> split <;> omega
        refine VW.seq (VW.run good [] ?_); simp (implicitDefEqProofs := false) [enc_list, spliceV]
        refine VW.seq (VW.run good [] ?_); simp (implicitDefEqProofs := false) [enc_list, r0, r1, z1, z2, mm1, mm2, spliceV]
        refine VW.seq_cut [(3, .ptr 0 6 0), (4, .ptr 1 3 0), (5, .ptr 2 2 0), (9, enc l), (10, .int .i64 e), (20, .ptr 3 6 0)] [bcl b, .cells [enc text, .int .i64 from_, .int .i64 pip], .cells [.int .i64 n0, .int .i64 n1], bcl (wideB b q0 q1 q2 q3)] (VW.run good [] ?_) ?_
        · simp (implicitDefEqProofs := false) [enc_list, r2, r3, z3, z4, mm3, mm4, spliceV]
          rw [show bcl (wideB b q0 q1 q2 q3) = .cells [enc b.Discs, enc b.Pieces, .int .i64 (max 0 (b.Pause.Low - q0)), .int .i64 (min 200 (b.Pause.High + q1)), .int .i64 (max 0 (b.Rest.Low - q3)), .int .i64 (min 500 (b.Rest.High + q2))] from rfl]
          exact ⟨4, [], by simp [enc_list], by simp, by simp, by simp (implicitDefEqProofs := false) [enc_list], by simp (implicitDefEqProofs := false) [enc_list]⟩
        generalize wideB b q0 q1 q2 q3 = y at *
        rcases hwl with ⟨u1, u2, u3⟩ | ⟨l', m, u1, u2, u3, u4⟩
        · obtain ⟨hle, rfl⟩ := Prod.mk.inj (k1.symm.trans u1)
          rw [← hle] at u2
          obtain ⟨⟨m, em⟩, hpm⟩ : ∃ pm, PlanPR y text from_ pip = pm := ⟨_, rfl⟩
          rw [hpm] at u3
          simp only at u3
          refine VW.seq (VW.run good [] ?_); simp (implicitDefEqProofs := false) [enc_list, u2]
          refine VW.seq (VW.run good [] ?_); simp (implicitDefEqProofs := false) [enc_list, hpm]
          rcases u3 with rfl | rfl
          · refine VW.run good [] ?_; simp (implicitDefEqProofs := false) [enc_list]
          · refine VW.run good [] ?_; simp (implicitDefEqProofs := false) [enc_list]
        · rw [k1] at u1
          cases u1
          have u4' : (m.length : Int) ≤ l.length := by omega
          refine VW.seq (VW.run good [] ?_); simp (implicitDefEqProofs := false) [enc_list, u2]
          refine VW.seq (VW.run good [] ?_); simp (implicitDefEqProofs := false) [enc_list, u3]
          refine VW.run good [] ?_; simp (implicitDefEqProofs := false) [enc_list, u4']
end Go.RS.DC

