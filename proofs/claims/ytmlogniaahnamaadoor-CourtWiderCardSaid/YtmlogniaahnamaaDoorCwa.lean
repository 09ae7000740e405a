/- Walks: the program (1): cases. -/
import Derived.Test.YtmlogniaahnamaaDoorCpa
import Derived.Test.YtmlogniaahnamaaDoorDxc
import Derived.Test.YtmlogniaahnamaaDoorPvc
import Derived.Test.YtmlogniaahnamaaDoorDxb
import Derived.Test.YtmlogniaahnamaaDoorCpb
set_option linter.all false
namespace Go.RS.DC
open Go Go.RS
open Go.RS.Enc (enc dec)
variable {E : VEnv}
theorem k_lies (hE : E.env.fn = G) : Ok E 39 (s3 fun n a b => some (wi n a b)) := by
  refine ok3 fun n a b r hr => ?_
  cases hr
  refine VP.run (A := F39) (goodV_nil) [] (by rw [hE]; rfl) (by simp [F39]) ?_; unfold F39; simp (implicitDefEqProofs := false) [enc_list, wi]
  repeat' (first | (refine vstep_split (fun hb => ?_) (fun hb => ?_) <;> (try simp only [Bool.not_eq_eq_eq_not, Bool.not_true, Bool.not_false, decide_eq_true_eq, decide_eq_false_iff_not] at hb) <;> simp (implicitDefEqProofs := false) [hb, enc_list]) | (refine vcond_split (fun hb => ?_) (fun hb => ?_) <;> (try simp only [Bool.not_eq_eq_eq_not, Bool.not_true, Bool.not_false, decide_eq_true_eq, decide_eq_false_iff_not] at hb) <;> simp (implicitDefEqProofs := false) [hb, enc_list]))
theorem k_isSpan (hE : E.env.fn = G) : Ok E 40 (s3 fun (s : Span) a b => some (spanOk s a b)) := by
  refine ok3 fun s a b r hr => ?_
  cases hr
  refine VP.run (A := F40) (goodV_nil) [] (by rw [hE]; rfl) (by simp [F40]) ?_; unfold F40; simp (implicitDefEqProofs := false) [enc_list, spanOk]
  repeat' (first | (refine vstep_split (fun hb => ?_) (fun hb => ?_) <;> (try simp only [Bool.not_eq_eq_eq_not, Bool.not_true, Bool.not_false, decide_eq_true_eq, decide_eq_false_iff_not] at hb) <;> simp (implicitDefEqProofs := false) [hb, enc_list]) | (refine vcond_split (fun hb => ?_) (fun hb => ?_) <;> (try simp only [Bool.not_eq_eq_eq_not, Bool.not_true, Bool.not_false, decide_eq_true_eq, decide_eq_false_iff_not] at hb) <;> simp (implicitDefEqProofs := false) [hb, enc_list]))
abbrev ccl (c : Case) : VObj := .cells [enc c.Calendar.Hours, enc c.Calendar.Minutes, enc c.Calendar.Seconds, enc c.Calendar.Days, enc c.Calendar.Decrees, enc c.Town.Ahead, enc c.Town.Changes, enc c.Each, enc c.Step, enc c.First.Low, enc c.First.High, enc c.Log]
def stagesF (c : Case) (n : Int) : Option Int := if 1 ≤ c.Each ∧ 1 ≤ n ∧ n ≤ 864010 then some ((n - 1) / c.Each + 1) else none
theorem k_stages (hE : E.env.fn = G) : Ok E 62 (s2 stagesF) := by
  refine ok2 fun c n r hr => ?_
  unfold stagesF at hr
  split at hr
  · rename_i hc
    obtain ⟨h1, h2, h3⟩ := hc
    cases hr
    have q0 : 0 ≤ (n - 1) / c.Each := Int.ediv_nonneg (by omega) (by omega)
    have q1 : (n - 1) / c.Each ≤ n - 1 := Int.ediv_le_self _ (by omega)
    have ht : (n - 1).tdiv c.Each = (n - 1) / c.Each := Int.tdiv_eq_ediv_of_nonneg (by omega)
    have e0 : ¬ c.Each = 0 := by omega
    have w1 : IntKind.i64.wrap (n - 1) = n - 1 := wrap64 (by omega) (by omega)
    have w2 : IntKind.i64.wrap ((n - 1) / c.Each) = (n - 1) / c.Each := wrap64 (by omega) (by omega)
    have w3 : IntKind.i64.wrap ((n - 1) / c.Each + 1) = (n - 1) / c.Each + 1 := wrap64 (by omega) (by omega)
    refine VP.run (A := F62) (goodV_nil) [] (by rw [hE]; rfl) (by simp [F62]) ?_; unfold F62; simp (implicitDefEqProofs := false) [enc_list, ht, e0, w1, w2, w3]
  · cases hr
set_option maxRecDepth 20000 in
theorem k_Check (hE : E.env.fn = G) : Ok E 30 (s1 fun c => some (checkK c)) := by
  refine ok1 fun c r hr => ?_
  cases hr
  refine VP.bound fun hb => ?_
  simp [enc_list] at hb
  have good := goodV_cons (w_TotalP hE) (goodV_cons (w_CheckTownP hE) (goodV_cons (k_lies hE) (goodV_cons (k_isSpan hE) (goodV_cons (k_stages hE) goodV_nil))))
  obtain ⟨⟨n, e⟩, hT⟩ : ∃ r, TotalR c.Calendar = r := ⟨_, rfl⟩
  have hTt : CheckTownR c.Calendar c.Town = 0 → e = 0 ∧ n = allR c.Calendar ∧ 1 ≤ n ∧ n ≤ 864010 := fun h => by
    obtain ⟨h1, _⟩ := checkTown_zero h
    have := allR_b (okC_ok h1)
    unfold TotalR at hT
    rw [if_pos h1] at hT
    cases hT
    exact ⟨rfl, rfl, this⟩
  obtain ⟨H, hH⟩ : ∃ H, headK c = H := ⟨_, rfl⟩
  obtain ⟨H2, hH2⟩ : ∃ H, (headK c && decide (stagesI c ≤ 40)) = H := ⟨_, rfl⟩
  have hTi : headK c = true → n = allR c.Calendar ∧ 1 ≤ n ∧ n ≤ 864010 ∧ 1 ≤ c.Each := fun h => by
    unfold headK at h
    simp only [Bool.and_eq_true, decide_eq_true_eq, wi_iff] at h
    obtain ⟨⟨⟨⟨h1, h2⟩, _⟩, _⟩, _⟩ := h
    have := hTt h1
    exact ⟨this.2.1, this.2.2.1, this.2.2.2, h2.1⟩
  obtain ⟨R, hR⟩ : ∃ R, okK c = R := ⟨_, rfl⟩
  have hck : checkK c = if R then 0 else 100 := by unfold checkK; rw [hR]
  have hRr : R = (H2 && c.Log.all (entOk (allR c.Calendar))) := by rw [← hR, ← hH2]; rfl
  rw [hck]
  refine VP.func (A := F30) (by rw [hE]; rfl) (by simp [F30]) ?_; unfold F30
  refine VW.seq (VW.run good [] ?_); simp (implicitDefEqProofs := false) [enc_list]
  refine VW.seq (VW.run good [] ?_); simp (implicitDefEqProofs := false) [enc_list, hT]
  refine VW.seq_cut [(1, .ptr 0 12 0), (3, .int .i64 n), (5, .bool H)] [ccl c] (VW.run good [] ?_) ?_; simp (implicitDefEqProofs := false) [enc_list]
  · unfold headK at hH
    by_cases hct : CheckTownR c.Calendar c.Town = 0
    · obtain ⟨rfl, _, _⟩ := hTt hct
      rw [decide_eq_true hct, Bool.true_and] at hH
      simp (implicitDefEqProofs := false) [enc_list, hct]
      cases h1 : wi c.Each 1 1000000
      · rw [h1] at hH
        simp only [Bool.false_and] at hH
        subst hH
        simp (implicitDefEqProofs := false) [enc_list, h1]
        exact ⟨1, [], by simp [enc_list], by simp, by simp, by simp (implicitDefEqProofs := false) [enc_list], by simp (implicitDefEqProofs := false) [enc_list]⟩
      · cases h2 : wi c.Step 0 3
        · rw [h1, h2] at hH
          simp only [Bool.true_and, Bool.false_and] at hH
          subst hH
          simp (implicitDefEqProofs := false) [enc_list, h1, h2]
          exact ⟨1, [], by simp [enc_list], by simp, by simp, by simp (implicitDefEqProofs := false) [enc_list], by simp (implicitDefEqProofs := false) [enc_list]⟩
        · cases h3 : spanOk c.First (-30) 30
          · rw [h1, h2, h3] at hH
            simp only [Bool.true_and, Bool.false_and] at hH
            subst hH
            simp (implicitDefEqProofs := false) [enc_list, h1, h2, h3]
            exact ⟨1, [], by simp [enc_list], by simp, by simp, by simp (implicitDefEqProofs := false) [enc_list], by simp (implicitDefEqProofs := false) [enc_list]⟩
          · rw [h1, h2, h3] at hH
            simp only [Bool.true_and] at hH
            have hl : decide ((c.Log.length : Int) ≤ 6) = H := by rw [← hH]; exact decide_eq_decide.2 (by omega)
            simp (implicitDefEqProofs := false) [enc_list, h1, h2, h3, hH, hl]
            exact ⟨1, [], by simp [enc_list], by simp, by simp, by simp (implicitDefEqProofs := false) [enc_list], by simp (implicitDefEqProofs := false) [enc_list]⟩
    · rw [decide_eq_false hct] at hH
      simp only [Bool.false_and] at hH
      subst hH
      by_cases he : e = 0
      · simp (implicitDefEqProofs := false) [enc_list, he, hct]
        exact ⟨1, [], by simp [enc_list], by simp, by simp, by simp (implicitDefEqProofs := false) [enc_list], by simp (implicitDefEqProofs := false) [enc_list]⟩
      · simp (implicitDefEqProofs := false) [enc_list, he, hct]
        exact ⟨1, [], by simp [enc_list], by simp, by simp, by simp (implicitDefEqProofs := false) [enc_list], by simp (implicitDefEqProofs := false) [enc_list]⟩
  refine VW.seq_cut [(1, .ptr 0 12 0), (3, .int .i64 n), (5, .bool H2)] [ccl c] (VW.run good [] ?_) ?_; simp (implicitDefEqProofs := false) [enc_list]
  · cases H
    · rw [hH, Bool.false_and] at hH2
      subst hH2
      simp (implicitDefEqProofs := false) [enc_list]
      exact ⟨1, [], by simp [enc_list], by simp, by simp, by simp (implicitDefEqProofs := false) [enc_list], by simp (implicitDefEqProofs := false) [enc_list]⟩
    · obtain ⟨g1, g2, g3, g4⟩ := hTi hH
      have hs : stagesF c n = some (stagesI c) := by unfold stagesF stagesI; rw [if_pos ⟨g4, g2, g3⟩, g1]
      rw [hH, Bool.true_and] at hH2
      simp (implicitDefEqProofs := false) [enc_list, hs, hH2]
      exact ⟨1, [], by simp [enc_list], by simp, by simp, by simp (implicitDefEqProofs := false) [enc_list], by simp (implicitDefEqProofs := false) [enc_list]⟩
  refine VW.run good [] ?_; simp (implicitDefEqProofs := false) [enc_list]
  refine VW.loop_to 0 [(1, .ptr 0 12 0), (5, .bool R)] [ccl c] (True) ?_ (fun hp f m hc => ?_)
  · obtain ⟨Inv, hI⟩ : ∃ Inv : Nat → List (Nat × PV) → VM → Prop, ∀ k f m, Inv k f m ↔ (∃ s : Bool, f = [(1, .ptr 0 12 0), (3, .int .i64 n), (5, .bool s), (53, enc c.Log), (54, .int .i64 c.Log.length), (55, .int .i64 k)] ∧ m = [ccl c] ∧ R = (s && (c.Log.drop k).all (entOk (allR c.Calendar))) ∧ (s = true → n = allR c.Calendar ∧ 1 ≤ n ∧ n ≤ 864010)) := ⟨_, fun _ _ _ => Iff.rfl⟩
    refine VW.loop_cut Inv c.Log.length ?_ ?_ ?_
    · refine ⟨_, _, (hI _ _ _).2 ⟨H2, rfl, rfl, hRr, fun h => ?_⟩, ⟨1, [], by simp [enc_list], by simp, by simp, by simp (implicitDefEqProofs := false) [enc_list], by simp (implicitDefEqProofs := false) [enc_list]⟩⟩
      rw [h, Bool.and_eq_true] at hH2
      have := hTi hH2.1
      exact ⟨this.1, this.2.1, this.2.2.1⟩
    · intro k f m hk hi
      obtain ⟨s, rfl, rfl, hs, hn⟩ := (hI _ _ _).1 hi
      have w1 : IntKind.i64.wrap ((k : Int) + 1) = k + 1 := wrap64 (by omega) (by omega)
      rw [List.drop_eq_getElem_cons hk, List.all_cons] at hs
      have hg := get_Entry c.Log k hk
      generalize c.Log[k] = x at *
      cases s
      · refine VW.run good [] ?_; simp (implicitDefEqProofs := false) [enc_list, hk, hg, w1, spliceV]
        exact ⟨_, _, (hI _ _ _).2 ⟨false, rfl, rfl, by rw [hs]; rfl, fun h => by cases h⟩, ⟨1, [], by simp [enc_list], by simp, by simp, by simp (implicitDefEqProofs := false) [enc_list], by simp (implicitDefEqProofs := false) [enc_list]⟩⟩
      · obtain ⟨n1, n2, n3⟩ := hn rfl
        have wn : IntKind.i64.wrap (n - 1) = n - 1 := wrap64 (by omega) (by omega)
        unfold entOk at hs
        subst n1
        cases h1 : spanOk x.When 0 (allR c.Calendar - 1)
        · rw [h1] at hs
          refine VW.run good [] ?_; simp (implicitDefEqProofs := false) [enc_list, hk, hg, w1, wn, h1, spliceV]
          exact ⟨_, _, (hI _ _ _).2 ⟨false, rfl, rfl, by rw [hs]; rfl, fun h => by cases h⟩, ⟨1, [], by simp [enc_list], by simp, by simp, by simp (implicitDefEqProofs := false) [enc_list], by simp (implicitDefEqProofs := false) [enc_list]⟩⟩
        · rw [h1, Bool.true_and] at hs
          refine VW.run good [] ?_; simp (implicitDefEqProofs := false) [enc_list, hk, hg, w1, wn, h1, spliceV]
          exact ⟨_, _, (hI _ _ _).2 ⟨_, rfl, rfl, hs, fun _ => ⟨rfl, n2, n3⟩⟩, ⟨1, [], by simp [enc_list], by simp, by simp, by simp (implicitDefEqProofs := false) [enc_list], by simp (implicitDefEqProofs := false) [enc_list]⟩⟩
    · intro f m hi
      obtain ⟨s, rfl, rfl, hs, _⟩ := (hI _ _ _).1 hi
      rw [List.drop_length, List.all_nil, Bool.and_true] at hs
      subst hs
      refine VW.run good [] ?_; simp (implicitDefEqProofs := false) [enc_list]
      exact ⟨1, [], by simp [enc_list], by simp, by simp, by simp (implicitDefEqProofs := false) [enc_list], by simp (implicitDefEqProofs := false) [enc_list]⟩
  · simp (implicitDefEqProofs := false); refine .ofCut hc (VW.run good [] ?_); simp (implicitDefEqProofs := false) [enc_list]
    cases R <;> simp (implicitDefEqProofs := false) [enc_list]
end Go.RS.DC

/- Walks: the program (2): cases in the calculation. -/
namespace Go.RS.DC
open Go Go.RS
open Go.RS.Enc (enc dec)
variable {E : VEnv}
/-- A trial as it is looked at: its case, how many ticks, and a map that is not looked at. -/
abbrev triK (c : Case) (n : Int) : Tri := ⟨c, n, .mk⟩
abbrev triC (c : Case) (n : Int) (mt : Nat) : List PV := [enc c.Calendar.Hours, enc c.Calendar.Minutes, enc c.Calendar.Seconds, enc c.Calendar.Days, enc c.Calendar.Decrees, enc c.Town.Ahead, enc c.Town.Changes, enc c.Each, enc c.Step, enc c.First.Low, enc c.First.High, enc c.Log, .int .i64 n, .map mt]
abbrev triV (c : Case) (n : Int) (mt : Nat) : PV := .agg (triC c n mt)
def stageF (t : Tri) (k : Int) : Option Int := if 1 ≤ t.C.Each ∧ 0 ≤ k ∧ k ≤ 900000 then some (k / t.C.Each) else none
theorem k_stage (hE : E.env.fn = G) : Ok E 48 (s2 stageF) := by
  refine ok2 fun t k r hr => ?_
  unfold stageF at hr
  split at hr
  · rename_i hc
    obtain ⟨h1, h2, h3⟩ := hc
    cases hr
    have q0 : 0 ≤ k / t.C.Each := Int.ediv_nonneg (by omega) (by omega)
    have q1 : k / t.C.Each ≤ k := Int.ediv_le_self _ (by omega)
    have ht : k.tdiv t.C.Each = k / t.C.Each := Int.tdiv_eq_ediv_of_nonneg (by omega)
    have e0 : ¬ t.C.Each = 0 := by omega
    have w2 : IntKind.i64.wrap (k / t.C.Each) = k / t.C.Each := wrap64 (by omega) (by omega)
    refine VP.run (A := F48) (goodV_nil) [] (by rw [hE]; rfl) (by simp [F48]) ?_; unfold F48; simp (implicitDefEqProofs := false) [enc_list, ht, e0, w2]
  · cases hr
def lastF (t : Tri) : Option Int := if okK t.C = true ∧ t.total = allR t.C.Calendar then some (lastN t.C : Nat) else none
theorem k_last (hE : E.env.fn = G) : Ok E 57 (s1 lastF) := by
  refine ok1 fun t r hr => ?_
  unfold lastF at hr
  split at hr
  · rename_i hc
    obtain ⟨h1, h2⟩ := hc
    cases hr
    have o := okK_ok h1
    have a1 := o.a1
    have a2 := o.a2
    have e1 := o.e1
    have st := o.st
    have hl := lastN_cast o
    have hs : stagesF t.C t.total = some (((lastN t.C : Nat) : Int) + 1) := by
      unfold stagesF
      rw [if_pos ⟨e1, by omega, by omega⟩, h2, hl]
    have w : IntKind.i64.wrap ((lastN t.C : Nat) : Int) = ((lastN t.C : Nat) : Int) := wrap64 (by omega) (by omega)
    refine VP.run (A := F57) ((goodV_cons (k_stages hE) goodV_nil)) [] (by rw [hE]; rfl) (by simp [F57]) ?_; unfold F57; simp (implicitDefEqProofs := false) [enc_list, hs, w]
  · cases hr
def fullF (t : Tri) : Option Int := if t.C.Log.length ≤ 6 then some (fullK t.C : Nat) else none
theorem k_full (hE : E.env.fn = G) : Ok E 43 (s1 fullF) := by
  refine ok1 fun t r hr => ?_
  unfold fullF at hr
  split at hr
  · rename_i hc
    cases hr
    have h1 := i_shl (n := t.C.Log.length) (by omega)
    have h2 : (2 : Nat) ^ t.C.Log.length ≤ 2 ^ 6 := Nat.pow_le_pow_right (by decide) hc
    have h3 : 0 < (2 : Nat) ^ t.C.Log.length := Nat.pow_pos (by decide)
    have w : IntKind.i64.wrap (((p2 t.C.Log.length : Nat) : Int) - 1) = ((fullK t.C : Nat) : Int) := by
      unfold fullK p2
      generalize 2 ^ t.C.Log.length = m at h2 h3
      rw [wrap64 (by omega) (by omega)]; omega
    refine VP.run (A := F43) (goodV_nil) [] (by rw [hE]; rfl) (by simp [F43]) ?_; unfold F43; simp (implicitDefEqProofs := false) [enc_list, -binInt_shl, h1, w]
  · cases hr
abbrev beginK : SpotK := ⟨-1, 0⟩
theorem k_begin (hE : E.env.fn = G) : Ok E 58 (s0 (some beginK)) := by
  refine ok0 fun r hr => ?_
  cases hr
  refine VP.run (A := F58) (goodV_nil) [] (by rw [hE]; rfl) (by simp [F58]) ?_; unfold F58; simp (implicitDefEqProofs := false) [enc_list, spliceV]
theorem k_whatever (hE : E.env.fn = G) : Ok E 44 (s1 fun (x : SpotK) => some true) := by
  refine ok1 fun x r hr => ?_
  cases hr
  refine VP.run (A := F44) (goodV_nil) [] (by rw [hE]; rfl) (by simp [F44]) ?_; unfold F44; simp (implicitDefEqProofs := false) [enc_list]
theorem k_anything (hE : E.env.fn = G) : Ok E 51 (s1 fun (x : Tri) => some true) := by
  refine ok1 fun x r hr => ?_
  cases hr
  refine VP.run (A := F51) (goodV_nil) [] (by rw [hE]; rfl) (by simp [F51]) ?_; unfold F51; simp (implicitDefEqProofs := false) [enc_list]
end Go.RS.DC

/- Walks: the program (3): what is said, as a map. -/
namespace Go.RS.DC
open Go Go.RS
open Go.RS.Enc (enc dec)
variable {E : VEnv}
abbrev K2 : KS := .agg [.int, .int]
abbrev keyS (a : Int × Int) : PV := .agg [.int .i64 a.1, .int .i64 a.2]
theorem key_S (a b : Int × Int) : keyEqV K2 (keyS a) (keyS b) = some (decide (a = b)) := by
  simp [keyEqV, atomsEqV, atomEqV]
  rw [Bool.eq_iff_iff]
  simp only [Bool.and_eq_true, beq_iff_eq, decide_eq_true_eq, Prod.ext_iff]
theorem keyS_inj {a b : Int × Int} (h : keyS a = keyS b) : a = b := by
  simp only [keyS, PV.agg.injEq, List.cons.injEq, PV.int.injEq, true_and, and_true] at h
  exact Prod.ext h.1 h.2
theorem keyOk_S (a : Int × Int) : keyOkV K2 (keyS a) = true := by unfold keyOkV; rw [key_S]; simp
/-- A map that says, for each key, a set; a key that is not there says nothing. -/
structure SayM (S : Says2) (es : List (PV × PV × Nat)) (clock : Nat) : Prop where
  ok : ∀ (i : Nat) (e : PV × PV × Nat), es[i]? = some e → ∃ a : Int × Int, e.1 = keyS a ∧ e.2.1 = .int .i64 ((S a.1 a.2 : Nat) : Int) ∧ e.2.2 < clock
  nk : ∀ (i j : Nat) (e f : PV × PV × Nat), es[i]? = some e → es[j]? = some f → e.1 = f.1 → i = j
  nd : ∀ (i j : Nat) (e f : PV × PV × Nat), es[i]? = some e → es[j]? = some f → e.2.2 = f.2.2 → i = j
  no : ∀ a : Int × Int, (∀ e ∈ es, e.1 ≠ keyS a) → S a.1 a.2 = 0
theorem sayM_nil : SayM (fun _ _ => 0) [] 0 := ⟨fun i e h => by simp at h, fun i j e f h => by simp at h, fun i j e f h => by simp at h, fun _ _ => rfl⟩
theorem find_S (x : Int × Int) : ∀ (es : List (PV × PV × Nat)) (j : Nat), (∀ e ∈ es, ∃ a : Int × Int, e.1 = keyS a) →
    (findKV K2 (keyS x) es j = some none ∧ ∀ e ∈ es, e.1 ≠ keyS x) ∨ ∃ i e, es[i]? = some e ∧ e.1 = keyS x ∧ findKV K2 (keyS x) es j = some (some (j + i, e.2.1))
  | [], j, _ => .inl ⟨rfl, by simp⟩
  | e :: es, j, h => by
    obtain ⟨a, ha⟩ := h e (by simp)
    rw [findKV, ha, key_S]
    by_cases hx : x = a
    · subst hx
      exact .inr ⟨0, e, rfl, ha, by simp⟩
    · rw [decide_eq_false hx]
      simp only
      rcases find_S x es (j + 1) (fun e he => h e (by simp [he])) with ⟨h1, h2⟩ | ⟨i, f, h1, h2, h3⟩
      · left
        refine ⟨h1, fun f hf => ?_⟩
        rcases List.mem_cons.1 hf with rfl | hf
        · rw [ha]; exact fun he => hx (keyS_inj he).symm
        · exact h2 f hf
      · right
        exact ⟨i + 1, f, by simpa using h1, h2, by rw [h3, show j + 1 + i = j + (i + 1) by omega]⟩
def setS (S : Says2) (a : Int × Int) (w : Nat) : Says2 := fun k x => if (k, x) = a then w else S k x
theorem say_look {S : Says2} {es : List (PV × PV × Nat)} {clock : Nat} (h : SayM S es clock) (a : Int × Int) : ∃ f, findKV K2 (keyS a) es 0 = some f ∧ lookResV false (.int .i64 0) f = .int .i64 ((S a.1 a.2 : Nat) : Int) := by
  rcases find_S a es 0 (fun e he => by
    obtain ⟨i, hi⟩ := List.getElem?_of_mem he
    obtain ⟨b, hb, _⟩ := h.ok i e hi
    exact ⟨b, hb⟩) with ⟨h1, h2⟩ | ⟨i, e, h1, h2, h3⟩
  · exact ⟨none, h1, by rw [h.no a h2]; rfl⟩
  · obtain ⟨b, hb, hv, _⟩ := h.ok i e h1
    obtain rfl : b = a := keyS_inj (hb.symm.trans h2)
    exact ⟨_, h3, by rw [hv]; rfl⟩
theorem findIdx_of {es : List (PV × PV × Nat)} {i : Nat} {e : PV × PV × Nat} (hi : es[i]? = some e) (nd : ∀ (i j : Nat) (e f : PV × PV × Nat), es[i]? = some e → es[j]? = some f → e.2.2 = f.2.2 → i = j) {b : Nat} (hb : e.2.2 = b) : es.findIdx? (fun e => ((e.2.2 : Nat) : Int) == (b : Int)) = some i := by
  have hl := (List.getElem?_eq_some_iff.1 hi).1
  have hg := (List.getElem?_eq_some_iff.1 hi).2
  rw [List.findIdx?_eq_some_iff_getElem]
  refine ⟨hl, by rw [hg, hb]; simp, fun j hj => ?_⟩
  have hjl : j < es.length := by omega
  simp only [beq_iff_eq, Int.natCast_inj]
  intro he
  have := nd i j e es[j] hi (List.getElem?_eq_getElem hjl) (by rw [hb]; omega)
  omega
/-- A set is put at a key. -/
theorem say_put {S : Says2} {es : List (PV × PV × Nat)} {clock : Nat} (h : SayM S es clock) (a : Int × Int) (w : Nat) :
    ∃ f, findKV K2 (keyS a) es 0 = some f ∧ lookResV false (.int .i64 0) f = .int .i64 ((S a.1 a.2 : Nat) : Int) ∧ (∀ (M : VM) (t : Nat), M[t]? = some (.map es clock) → lookAtomV M K2 (.map t) (keyS a) = true) ∧
      ∃ es1 clock1 born i, (∀ (M : VM) (t : Nat), entMapV M t es clock (keyS a) (.int .i64 0) f = (.tup [.int .i64 ((S a.1 a.2 : Nat) : Int), .int .i64 ((born : Nat) : Int)], M.set t (.map es1 clock1))) ∧
        es1.findIdx? (fun e => ((e.2.2 : Nat) : Int) == (born : Int)) = some i ∧ SayM (setS S a w) (es1.modify i fun e => (e.1, .int .i64 (w : Int), e.2.2)) clock1 := by
  have mod : ∀ {es1 : List (PV × PV × Nat)} {clock1 i : Nat} {e : PV × PV × Nat}, SayM S es1 clock1 → es1[i]? = some e → e.1 = keyS a → SayM (setS S a w) (es1.modify i fun e => (e.1, .int .i64 (w : Int), e.2.2)) clock1 := by
    intro es1 clock1 i e h1 hi hk
    have get : ∀ (j : Nat) (f : PV × PV × Nat), (es1.modify i fun e => (e.1, .int .i64 (w : Int), e.2.2))[j]? = some f → ∃ g, es1[j]? = some g ∧ f.1 = g.1 ∧ f.2.2 = g.2.2 ∧ ((j = i ∧ f.2.1 = .int .i64 (w : Int)) ∨ (j ≠ i ∧ f.2.1 = g.2.1)) := by
      intro j f hf
      rw [List.getElem?_modify] at hf
      cases hg : es1[j]? with
      | none => rw [hg] at hf; simp at hf
      | some g =>
        rw [hg] at hf
        simp only [Option.map_eq_map, Option.map_some, Option.some.injEq] at hf
        by_cases hij : i = j
        · rw [if_pos hij] at hf
          subst hf
          exact ⟨g, rfl, rfl, rfl, .inl ⟨hij.symm, rfl⟩⟩
        · rw [if_neg hij] at hf
          subst hf
          exact ⟨g, rfl, rfl, rfl, .inr ⟨fun h => hij h.symm, rfl⟩⟩
    refine ⟨fun j f hf => ?_, fun j k f g hf hg he => ?_, fun j k f g hf hg he => ?_, fun b hb => ?_⟩
    · obtain ⟨g, g1, g2, g3, g4⟩ := get j f hf
      obtain ⟨b, k1, k2, k3⟩ := h1.ok j g g1
      refine ⟨b, by rw [g2, k1], ?_, by omega⟩
      rcases g4 with ⟨rfl, g4⟩ | ⟨g5, g4⟩
      · rw [hi] at g1; cases g1
        obtain rfl : b = a := keyS_inj (k1.symm.trans hk)
        rw [g4]; unfold setS; simp
      · have hne : b ≠ a := by
          rintro rfl
          exact g5 (h1.nk j i g e g1 hi (by rw [k1, hk]))
        rw [g4, k2]
        unfold setS
        rw [if_neg (fun h => hne h)]
    · obtain ⟨f', f1, f2, _⟩ := get j f hf
      obtain ⟨g', g1, g2, _⟩ := get k g hg
      exact h1.nk j k f' g' f1 g1 (by rw [← f2, ← g2, he])
    · obtain ⟨f', f1, _, f2, _⟩ := get j f hf
      obtain ⟨g', g1, _, g2, _⟩ := get k g hg
      exact h1.nd j k f' g' f1 g1 (by rw [← f2, ← g2, he])
    · have hne : ∀ e ∈ es1, e.1 ≠ keyS b := by
        intro g hg
        obtain ⟨j, hj⟩ := List.getElem?_of_mem hg
        have hm : (es1.modify i fun e => (e.1, .int .i64 (w : Int), e.2.2))[j]? = some (if i = j then (g.1, .int .i64 (w : Int), g.2.2) else g) := by
          rw [List.getElem?_modify, hj]; simp
        have := hb _ (List.mem_of_getElem? hm)
        split at this <;> exact this
      have hba : b ≠ a := by
        rintro rfl
        exact hne e (List.mem_of_getElem? hi) hk
      unfold setS
      rw [if_neg (fun h => hba h)]
      exact h1.no b hne
  rcases find_S a es 0 (fun e he => by
    obtain ⟨i, hi⟩ := List.getElem?_of_mem he
    obtain ⟨b, hb, _⟩ := h.ok i e hi
    exact ⟨b, hb⟩) with ⟨h1, h2⟩ | ⟨i, e, h1, h2, h3⟩
  · refine ⟨none, h1, by rw [h.no a h2]; rfl, fun M t ht => by unfold lookAtomV mapEsV; simp only [ht, h1], es ++ [(keyS a, .int .i64 0, clock)], clock + 1, clock, es.length, fun M t => by rw [h.no a h2]; rfl, ?_, ?_⟩
    all_goals
      have hS : SayM S (es ++ [(keyS a, .int .i64 0, clock)]) (clock + 1) := by
        have get : ∀ (j : Nat) (f : PV × PV × Nat), (es ++ [(keyS a, PV.int .i64 0, clock)])[j]? = some f → es[j]? = some f ∨ (j = es.length ∧ f = (keyS a, .int .i64 0, clock)) := by
          intro j f hf
          by_cases hj : j < es.length
          · rw [List.getElem?_append_left hj] at hf; exact .inl hf
          · rw [List.getElem?_append_right (by omega)] at hf
            have hl := (List.getElem?_eq_some_iff.1 hf).1
            simp only [List.length_singleton] at hl
            have : j - es.length = 0 := by omega
            rw [this] at hf
            simp only [List.getElem?_cons_zero, Option.some.injEq] at hf
            exact .inr ⟨by omega, hf.symm⟩
        refine ⟨fun j f hf => ?_, fun j k f g hf hg he => ?_, fun j k f g hf hg he => ?_, fun b hb => h.no b fun e he => hb e (by simp [he])⟩
        · rcases get j f hf with h4 | ⟨rfl, rfl⟩
          · obtain ⟨b, k1, k2, k3⟩ := h.ok j f h4
            exact ⟨b, k1, k2, by omega⟩
          · exact ⟨a, rfl, by rw [h.no a h2]; rfl, by simp⟩
        · rcases get j f hf with h4 | ⟨rfl, rfl⟩ <;> rcases get k g hg with h5 | ⟨rfl, rfl⟩
          · exact h.nk j k f g h4 h5 he
          · exact absurd he (h2 f (List.mem_of_getElem? h4))
          · exact absurd he.symm (h2 g (List.mem_of_getElem? h5))
          · rfl
        · rcases get j f hf with h4 | ⟨rfl, rfl⟩ <;> rcases get k g hg with h5 | ⟨rfl, rfl⟩
          · exact h.nd j k f g h4 h5 he
          · obtain ⟨_, _, _, k3⟩ := h.ok j f h4
            simp only at he; omega
          · obtain ⟨_, _, _, k3⟩ := h.ok k g h5
            simp only at he; omega
          · rfl
      have hg : (es ++ [(keyS a, PV.int .i64 0, clock)])[es.length]? = some (keyS a, .int .i64 0, clock) := by simp
    · exact findIdx_of hg hS.nd rfl
    · exact mod hS hg rfl
  · obtain ⟨b, hb, hv, _⟩ := h.ok i e h1
    obtain rfl : b = a := keyS_inj (hb.symm.trans h2)
    rw [Nat.zero_add] at h3
    have hsame : (es.modify i fun e => (keyS b, e.2)) = es := by
      apply List.ext_getElem?
      intro j
      rw [List.getElem?_modify]
      by_cases hij : i = j
      · subst hij; rw [h1]; simp only [if_true, Option.map_eq_map, Option.map_some]; rw [← h2]
      · simp only [if_neg hij]; cases es[j]? <;> rfl
    refine ⟨_, h3, by rw [hv]; rfl, fun M t ht => by unfold lookAtomV mapEsV; simp only [ht, h3, hv]; rfl, es, clock, e.2.2, i, fun M t => ?_, findIdx_of h1 h.nd rfl, mod h h1 h2⟩
    unfold entMapV
    simp only [hsame, hv, h1, Option.map_some, Option.getD_some]
end Go.RS.DC

/- Walks: the program (4): what an entry says; cases opened. -/
namespace Go.RS.DC
open Go Go.RS
open Go.RS.Enc (enc dec)
variable {E : VEnv}
theorem und_any {j j' : Nat} (h : j ≤ j') : ∀ {v : PV}, v.und j = true → v.und j' = true := by
  have key : (∀ v : PV, v.und j = true → v.und j' = true) := by
    intro v
    refine PV.rec (motive_1 := fun v => v.und j = true → v.und j' = true) (motive_2 := fun l => PV.undL j l = true → PV.undL j' l = true) ?_ ?_ ?_ ?_ ?_ ?_ ?_ ?_ ?_ ?_ ?_ ?_ ?_ ?_ ?_ ?_ ?_ ?_ ?_ ?_ v
    all_goals intros
    all_goals simp only [PV.und, PV.undL, Bool.and_eq_true, decide_eq_true_eq] at *
    all_goals first | trivial | omega | (rename_i h1 h2 h3; exact ⟨h1 h3.1, h2 h3.2⟩) | (rename_i h1 h2; exact h1 h2)
  exact fun {v} => key v
theorem objs_any {j j' : Nat} (h : j ≤ j') {o : VObj} (ho : o.und j) : o.und j' := by
  cases o with
  | cells c => exact fun v hv => und_any h (ho v hv)
  | vec c => trivial
  | map es k => exact fun e he => ⟨und_any h (ho e he).1, und_any h (ho e he).2⟩
  | loop L => exact fun i => und_any h (ho i)
  | gone => trivial
theorem sayM_und {S : Says2} {es : List (PV × PV × Nat)} {clock : Nat} (h : SayM S es clock) (k j : Nat) : (VObj.map es k).und j := fun e he => by
  obtain ⟨i, hi⟩ := List.getElem?_of_mem he
  obtain ⟨a, ha, hv, _⟩ := h.ok i e hi
  rw [ha, hv]
  exact ⟨rfl, rfl⟩
theorem hr_set {α : Type} {pre : List α} {b : Nat} (h : b < pre.length) (l : List α) (x : α) : (pre ++ l).set b x = pre.set b x ++ l := List.set_append_left _ _ h
/-- The spots at which a reading is shown, as they are found. -/
def innerL (each lo hi at_ : Int) : Nat → Int → List (Int × Int)
  | 0, _ => []
  | n + 1, off => if wi (at_ - off) lo hi then ((at_ - off) / each, off) :: innerL each lo hi at_ n (off + 1) else innerL each lo hi at_ n (off + 1)
def outerL (each lo hi : Int) (l : List Int) : List (Int × Int) := l.flatMap fun t => innerL each lo hi t 61 (-30)
theorem mem_innerL {each lo hi at_ : Int} {p : Int × Int} : ∀ (n : Nat) (off : Int), p ∈ innerL each lo hi at_ n off ↔ off ≤ p.2 ∧ p.2 < off + n ∧ wi (at_ - p.2) lo hi = true ∧ p.1 = (at_ - p.2) / each
  | 0, off => by simp [innerL]; omega
  | n + 1, off => by
    have ih := mem_innerL (each := each) (lo := lo) (hi := hi) (at_ := at_) (p := p) n (off + 1)
    rw [innerL]
    by_cases hw : wi (at_ - off) lo hi = true
    · rw [if_pos hw, List.mem_cons, ih]
      constructor
      · rintro (rfl | ⟨h1, h2, h3, h4⟩)
        · exact ⟨Int.le_refl _, by simp only; omega, hw, rfl⟩
        · exact ⟨by omega, by omega, h3, h4⟩
      · rintro ⟨h1, h2, h3, h4⟩
        by_cases ho : p.2 = off
        · left; exact Prod.ext (by rw [h4, ho]) ho
        · right; exact ⟨by omega, by omega, h3, h4⟩
    · rw [if_neg hw, ih]
      constructor
      · rintro ⟨h1, h2, h3, h4⟩; exact ⟨by omega, by omega, h3, h4⟩
      · rintro ⟨h1, h2, h3, h4⟩
        have : p.2 ≠ off := fun ho => hw (by rw [← ho]; exact h3)
        exact ⟨by omega, by omega, h3, h4⟩
theorem contains_say (c : Case) (r : Reading) (a b k x : Int) : (outerL c.Each (max 0 a) (min (allR c.Calendar - 1) b) (ticksR c.Calendar c.Town r)).contains (k, x) = sayB c r a b k x := by
  rw [Bool.eq_iff_iff, List.contains_iff_mem]
  unfold outerL sayB
  rw [List.mem_flatMap]
  simp only [mem_innerL, Bool.and_eq_true, wi_iff, List.any_eq_true, decide_eq_true_eq]
  constructor
  · rintro ⟨t, ht, h1, h2, h3, h4⟩; exact ⟨⟨h1, by omega⟩, t, ht, h3, h4.symm⟩
  · rintro ⟨⟨h1, h2⟩, t, ht, h3, h4⟩; exact ⟨t, ht, h1, by omega, h3, h4.symm⟩
def hasP (D : List (Int × Int)) : Int → Int → Bool := fun k x => D.contains (k, x)
theorem orS_step (S : Says2) (n : Nat) (D : List (Int × Int)) (p : Int × Int) : setS (orS S n (hasP D)) p (orS S n (hasP D) p.1 p.2 ||| 2 ^ n) = orS S n (hasP (D ++ [p])) := by
  funext k x
  unfold setS orS
  unfold hasP
  show (if (k, x) = p then (if D.contains (p.1, p.2) = true then S p.1 p.2 ||| 2 ^ n else S p.1 p.2) ||| 2 ^ n else if D.contains (k, x) = true then S k x ||| 2 ^ n else S k x) = if (D ++ [p]).contains (k, x) = true then S k x ||| 2 ^ n else S k x
  by_cases h : (k, x) = p
  · rw [if_pos h]
    subst h
    have e2 : (D ++ [(k, x)]).contains (k, x) = true := by simp
    rw [if_pos e2]
    by_cases hd : D.contains (k, x) = true
    · rw [if_pos hd, Nat.or_assoc, Nat.or_self]
    · rw [if_neg hd]
  · rw [if_neg h]
    have e2 : (D ++ [p]).contains (k, x) = D.contains (k, x) := by
      rw [Bool.eq_iff_iff, List.contains_iff_mem, List.contains_iff_mem]; simp [h]
    rw [e2]
abbrev rcells (r : Reading) : List PV := [.int .i64 r.Day, .int .i64 r.Hour, .int .i64 r.Minute, .int .i64 r.Second]
@[simp] theorem eta_Case2 (c : Case) : Case.mk c.Calendar c.Town c.Each c.Step c.First c.Log = c := rfl
@[simp] theorem eta_Entry2 (e : Entry) : Entry.mk e.When e.Late e.Reading = e := rfl
@[simp] theorem eta_Claim2 (x : Claim) : Claim.mk x.Kind x.When x.Reading x.Ticks = x := rfl
theorem ticksL_len (c : Cal) (r : Reading) : ∀ (l : List Change) (from_ by_ : Int), (ticksL c r from_ by_ l).length ≤ l.length + 1
  | [], f, b => by rw [ticksL]; unfold oneL; split <;> simp
  | x :: l, f, b => by
    rw [ticksL, List.length_append]
    have := ticksL_len c r l x.Tick x.Ahead
    have h1 : (oneL c r f b x.Tick).length ≤ 1 := by unfold oneL; split <;> simp
    simp only [List.length_cons]
    omega
theorem ticksR_len {c : Cal} {t : Town} (h : CheckTownR c t = 0) (r : Reading) : (ticksR c t r).length ≤ 7 := by
  obtain ⟨_, h2⟩ := checkTown_zero h
  simp only [okT, Bool.and_eq_true, decide_eq_true_eq] at h2
  unfold ticksR
  split
  · have := ticksL_len c r t.Changes 0 t.Ahead; omega
  · simp
set_option maxHeartbeats 3200000 in
set_option maxRecDepth 20000 in
theorem vc_say (hE : E.env.fn = G) (hgl : E.gl 1 = some [f130v, f131v]) {c : Case} (ho : okK c = true) {M : VM} {mt num : Nat} {es : List (PV × PV × Nat)} {clock : Nat} {S : Says2} {r : Reading} {a b : Int} {K : PV → VM → Prop}
    (hn : num ≤ 6) (hS : ∀ k x, S k x < 2 ^ 61) (hM : M[mt]? = some (.map es clock)) (hs : SayM S es clock) (hu : ∀ o ∈ M, o.und M.length) (ha : -2000000 ≤ a ∧ a ≤ 2000000) (hb : -2000000 ≤ b ∧ b ≤ 2000000)
    (hK : ∀ es' clock' ext, SayM (orS S num (sayB c r a b)) es' clock' → K (.tup []) (M.set mt (.map es' clock') ++ ext)) :
    VC E false (.func 73 [] []) [triV c (allR c.Calendar) mt, .int .i64 num, .agg (rcells r), .int .i64 a, .int .i64 b] M K := by
  have o := okK_ok ho
  have a1 := o.a1
  have a2 := o.a2
  have e1 := o.e1
  have lm := (List.getElem?_eq_some_iff.1 hM).1
  have good := goodV_cons (w_TicksP hE hgl) (goodV_cons (k_lies hE) (goodV_cons (k_stage hE) goodV_nil))
  have hT : TicksR c.Calendar c.Town r = (ticksR c.Calendar c.Town r, 0) := by unfold TicksR; rw [if_pos o.ct]
  have hin : ∀ t ∈ ticksR c.Calendar c.Town r, 0 ≤ t ∧ t < allR c.Calendar := fun t ht => by have := (mem_ticksR o.o o.ot r t).1 ht; exact ⟨this.1, this.2.1⟩
  have hll := ticksR_len o.ct r
  obtain ⟨lo, hlo⟩ : ∃ lo, max 0 a = lo := ⟨_, rfl⟩
  obtain ⟨hi, hhi⟩ : ∃ hi, min (allR c.Calendar - 1) b = hi := ⟨_, rfl⟩
  have hlo2 : (if 0 < a then a else 0) = lo := by rw [← hlo]; split <;> omega
  have hhi2 : (if b < allR c.Calendar - 1 then b else allR c.Calendar - 1) = hi := by rw [← hhi]; split <;> omega
  have hlo0 : 0 ≤ lo := by omega
  have hhi0 : hi < allR c.Calendar := by omega
  have wall : IntKind.i64.wrap (allR c.Calendar - 1) = allR c.Calendar - 1 := wrap64 (by omega) (by omega)
  obtain ⟨T, hTo⟩ : ∃ T, outerL c.Each lo hi (ticksR c.Calendar c.Town r) = T := ⟨_, rfl⟩
  have hfin : orS S num (sayB c r a b) = orS S num (hasP T) := by
    congr 1; funext k x; unfold hasP; rw [← hTo, ← hlo, ← hhi, contains_say]
  rw [hfin] at hK
  generalize ticksR c.Calendar c.Town r = L at *
  have hst : ∀ k, 0 ≤ k → k < allR c.Calendar → stageF (triK c (allR c.Calendar)) k = some (k / c.Each) := fun k k0 k1 => if_pos ⟨e1, k0, by omega⟩
  generalize allR c.Calendar = all at *
  refine VC.func (A := F73) (by rw [hE]; rfl) (by simp [F73]) ?_
  unfold F73
  generalize hnl : M.length = n at *
  have hMs : M.set mt (.map es clock) = M := set_get_same hM
  have hPl : ∀ x : VObj, (M.set mt x).length = n := fun x => by simp [hnl]
  have hund : ∀ {S' es' clock'}, SayM S' es' clock' → ∀ j, n ≤ j → ∀ o ∈ M.set mt (.map es' clock'), o.und j := fun h j hj => set_und (fun o ho => objs_any hj (hu o ho)) (sayM_und h _ _)
  refine VW.run good [] ?_
  simp (implicitDefEqProofs := false) [enc_list, hT, get_pre hnl, get_pre0 hnl]
  have hcut : ∀ {S' : Says2} {es' : List (PV × PV × Nat)} {cl' : Nat} (fr : VFr) (l : List (Nat × PV)) (ext : VM), SayM S' es' cl' → (∀ p ∈ l, (fr p.1).le p.2 ∧ p.2.und (n + 1) = true) → Cut n fr (M.set mt (.map es' cl') ++ (.cells (triC c all mt) :: ext)) l (M.set mt (.map es' cl') ++ [.cells (triC c all mt)]) := by
    intro S' es' cl' fr l ext h1 h2
    rw [show M.set mt (.map es' cl') ++ (.cells (triC c all mt) :: ext) = (M.set mt (.map es' cl') ++ [.cells (triC c all mt)]) ++ ext by simp]
    refine cut_pre' (n := n + 1) (by simp [hnl]) (by omega) ?_ h2
    intro x hx
    rcases List.mem_append.1 hx with hx | hx
    · exact hund h1 (n + 1) (by omega) x hx
    · rw [List.mem_singleton] at hx; subst hx
      simp (implicitDefEqProofs := false) [enc_list]
      omega
  obtain ⟨Inv, hI⟩ : ∃ Inv : Nat → List (Nat × PV) → VM → Prop, ∀ i f m, Inv i f m ↔ (∃ D es' clock', f = [(1, .int .i64 num), (3, .int .i64 a), (4, .int .i64 b), (5, .ptr n 14 0), (27, enc L), (28, .int .i64 L.length), (29, .int .i64 i)] ∧ m = M.set mt (.map es' clock') ++ [.cells (triC c all mt)] ∧ D ++ outerL c.Each lo hi (L.drop i) = T ∧ SayM (orS S num (hasP D)) es' clock') := ⟨_, fun _ _ _ => Iff.rfl⟩
  refine VW.loop_cut Inv L.length ?_ ?_ ?_
  · have h0 : (orS S num (hasP ([] : List (Int × Int)))) = S := by funext k x; rfl
    refine ⟨_, _, (hI _ _ _).2 ⟨[], es, clock, rfl, rfl, by rw [List.drop_zero]; exact hTo, by rw [h0]; exact hs⟩, ?_⟩
    have := fun fr l => hcut fr l [.cells (rcells r)] hs
    rw [hMs] at this
    rw [hMs]
    rw [hnl]
    refine this _ _ (by simp (implicitDefEqProofs := false) [enc_list])
  · intro i f m hi2 hv
    obtain ⟨D, es1, cl1, rfl, rfl, hD, hs1⟩ := (hI _ _ _).1 hv
    have w1 : IntKind.i64.wrap ((i : Int) + 1) = i + 1 := wrap64 (by omega) (by omega)
    have hi' : (i : Int) < L.length := by omega
    rw [List.drop_eq_getElem_cons hi2] at hD
    have hin2 := hin L[i] (List.getElem_mem hi2)
    have hg := get_Int L i hi2
    generalize L[i] = t at *
    have hD : D ++ (innerL c.Each lo hi t 61 (-30) ++ outerL c.Each lo hi (L.drop (i + 1))) = T := hD
    refine VW.run good [] ?_; simp (implicitDefEqProofs := false) [enc_list, hi2, hi', hg]
    refine VW.loop_toE 2 (fun (x : (List (PV × PV × Nat) × Nat) × List (Int × Int)) => [(1, .int .i64 num), (3, .int .i64 a), (4, .int .i64 b), (5, .ptr n 14 0), (27, enc L), (28, .int .i64 L.length), (29, .int .i64 i)]) (fun (x : (List (PV × PV × Nat) × Nat) × List (Int × Int)) => M.set mt (.map x.1.1 x.1.2) ++ [.cells (triC c all mt)]) (fun (x : (List (PV × PV × Nat) × Nat) × List (Int × Int)) => x.2 ++ outerL c.Each lo hi (L.drop (i + 1)) = T ∧ SayM (orS S num (hasP x.2)) x.1.1 x.1.2) ?_ (fun x hp f m hc => ?_)
    · obtain ⟨Inv2, hI2⟩ : ∃ Inv : Nat → List (Nat × PV) → VM → Prop, ∀ q f m, Inv q f m ↔ (∃ D es' clock', f = [(1, .int .i64 num), (3, .int .i64 a), (4, .int .i64 b), (5, .ptr n 14 0), (13, .int .i64 t), (14, .int .i64 (-30 + (q : Int))), (27, enc L), (28, .int .i64 L.length), (29, .int .i64 i)] ∧ m = M.set mt (.map es' clock') ++ [.cells (triC c all mt)] ∧ D ++ (innerL c.Each lo hi t (61 - q) (-30 + (q : Int)) ++ outerL c.Each lo hi (L.drop (i + 1))) = T ∧ SayM (orS S num (hasP D)) es' clock') := ⟨_, fun _ _ _ => Iff.rfl⟩
      refine VW.loop_cut Inv2 61 ?_ ?_ ?_
      · exact ⟨_, _, (hI2 _ _ _).2 ⟨D, es1, cl1, rfl, rfl, hD, hs1⟩, hcut _ _ _ hs1 (by simp (implicitDefEqProofs := false) [enc_list])⟩
      · intro q f m hq hv2
        obtain ⟨D, es1, cl1, rfl, rfl, hD, hs1⟩ := (hI2 _ _ _).1 hv2
        rw [show 61 - q = (61 - (q + 1)) + 1 by omega, innerL] at hD
        obtain ⟨off, hoff⟩ : ∃ off, -30 + (q : Int) = off := ⟨_, rfl⟩
        rw [hoff] at hD ⊢
        have hoff2 : -30 + ((q + 1 : Nat) : Int) = off + 1 := by omega
        have hq30 : off ≤ 30 := by omega
        have wo : IntKind.i64.wrap (off + 1) = off + 1 := wrap64 (by omega) (by omega)
        have wt : IntKind.i64.wrap (t - off) = t - off := wrap64 (by omega) (by omega)
        have hP := hPl (.map es1 cl1)
        have hmP : (M.set mt (.map es1 cl1))[mt]? = some (.map es1 cl1) := List.getElem?_set_self (by omega)
        have hsP : ∀ x, (M.set mt (.map es1 cl1)).set mt x = M.set mt x := fun x => by rw [List.set_set]
        obtain ⟨P, hPP⟩ : ∃ P, M.set mt (.map es1 cl1) = P := ⟨_, rfl⟩
        have hcutP := fun {S'} fr l ext h => hcut (S' := S') (es' := es1) (cl' := cl1) fr l ext h
        rw [hPP] at hP hmP hsP hcutP ⊢
        have hz0 : PV.ofV E (Value.int .i64 0) = .int .i64 0 := rfl
        have lmP : mt < P.length := by omega
        cases hw : wi (t - off) lo hi
        · rw [hw, if_neg (by simp)] at hD
          refine VW.run good [] ?_; simp (implicitDefEqProofs := false) [enc_list, hq30, wt, wo, get_pre hP, get_pre0 hP, hlo2, hhi2, wall, hw]
          refine ⟨_, _, (hI2 _ _ _).2 ⟨D, es1, cl1, rfl, by rw [hPP], by rw [hoff2]; exact hD, hs1⟩, ?_⟩
          rw [hoff2]
          exact hcutP _ _ [] hs1 (by simp (implicitDefEqProofs := false) [enc_list])
        · rw [hw, if_pos rfl] at hD
          obtain ⟨hw0, hw1⟩ := (wi_iff _ _ _).1 hw
          have hstg := hst (t - off) (by omega) (by omega)
          obtain ⟨kk, hkk⟩ : ∃ kk, (t - off) / c.Each = kk := ⟨_, rfl⟩
          rw [hkk] at hD hstg
          obtain ⟨f, hf1, hf2, hf3, es2, cl2, born, ix, hf4, hf5, hf6⟩ := say_put hs1 (kk, off) (orS S num (hasP D) kk off ||| 2 ^ num)
          rw [orS_step] at hf6
          simp only at hf2 hf4
          have hlt : orS S num (hasP D) kk off < 2 ^ 61 := by
            unfold orS
            split
            · exact Nat.or_lt_two_pow (hS _ _) (Nat.pow_lt_pow_right (by decide) (by omega))
            · exact hS _ _
          have hor := i_or (a := orS S num (hasP D) kk off) (b := p2 num) (by omega) (p2_lt (by omega))
          have hor2 : (orS S num (hasP D) kk off ||| p2 num) = (orS S num (hasP D) kk off ||| 2 ^ num) := rfl
          rw [hor2] at hor
          have hshl := i_shl (n := num) (by omega)
          have hkok := keyOk_S (kk, off)
          have hmQ : (M.set mt (.map es2 cl2))[mt]? = some (.map es2 cl2) := List.getElem?_set_self (by omega)
          have hQ : ∀ (y x : VObj) (l : VM), (M.set mt y ++ l).set mt x = M.set mt x ++ l := fun y x l => by rw [hr_set (by rw [List.length_set]; omega), List.set_set]
          generalize orS S num (hasP D) kk off = W at hf2 hf4 hor hlt hf6
          generalize W ||| 2 ^ num = W2 at *
          refine VW.run good [] ?_; simp (implicitDefEqProofs := false) [enc_list, hq30, wt, wo, get_pre hP, get_pre0 hP, hlo2, hhi2, wall, hw, hstg, spliceV, mapEsV, get_hr hmP, hf1, hf2, hf3, hf4, hf5, hkok, -binInt_or, -binInt_shl, hor, hshl, hr_set lmP, hsP, -lookAtomV, hz0, get_hr hmQ, hQ]
          refine ⟨_, _, (hI2 _ _ _).2 ⟨D ++ [(kk, off)], _, cl2, rfl, rfl, ?_, hf6⟩, ?_⟩
          · rw [hoff2, List.append_assoc]; exact hD
          · rw [hoff2]
            exact hcut _ _ [] hf6 (by simp (implicitDefEqProofs := false) [enc_list])
      · intro f m hv2
        obtain ⟨D, es1, cl1, rfl, rfl, hD, hs1⟩ := (hI2 _ _ _).1 hv2
        refine VW.run good [] ?_; simp (implicitDefEqProofs := false) [enc_list]
        exact ⟨es1, cl1, ⟨D, by simpa [innerL] using hD, hs1⟩, hcut _ _ [] hs1 (by simp (implicitDefEqProofs := false) [enc_list])⟩
    · obtain ⟨⟨es2, cl2⟩, D2⟩ := x
      simp only at hp hc
      simp (implicitDefEqProofs := false) [enc_list, AExit.leave]
      refine .ofCut hc (VW.run good [] ?_)
      simp (implicitDefEqProofs := false) [enc_list, w1]
      exact ⟨_, _, (hI _ _ _).2 ⟨D2, es2, cl2, rfl, rfl, hp.1, hp.2⟩, hcut _ _ [] hp.2 (by simp (implicitDefEqProofs := false) [enc_list])⟩
  · intro f m hv
    obtain ⟨D, es1, cl1, rfl, rfl, hD, hs1⟩ := (hI _ _ _).1 hv
    rw [List.drop_length] at hD
    have hD : D = T := by rw [← hD]; simp [outerL]
    subst hD
    refine VW.run good [] ?_; simp (implicitDefEqProofs := false) [enc_list]
    exact hK es1 cl1 _ hs1
end Go.RS.DC

/- Walks: the program (5): cases opened. -/
namespace Go.RS.DC
open Go Go.RS
open Go.RS.Enc (enc dec)
variable {E : VEnv}
abbrev zeroC : List PV := [.int .i64 0, .int .i64 0, .int .i64 0, .int .i64 0, .nilS, .int .i64 0, .nilS, .int .i64 0, .int .i64 0, .int .i64 0, .int .i64 0, .nilS, .int .i64 0, .nilM]
abbrev entC (x : Entry) : List PV := [.int .i64 x.When.Low, .int .i64 x.When.High, .int .i64 x.Late.Low, .int .i64 x.Late.High, .int .i64 x.Reading.Day, .int .i64 x.Reading.Hour, .int .i64 x.Reading.Minute, .int .i64 x.Reading.Second]
theorem orS_lt {S : Says2} {n m : Nat} {p : Int → Int → Bool} (hn : n < m) (h : ∀ k x, S k x < 2 ^ m) : ∀ k x, orS S n p k x < 2 ^ m := fun k x => by
  unfold orS
  split
  · exact Nat.or_lt_two_pow (h k x) (Nat.pow_lt_pow_right (by decide) hn)
  · exact h k x
set_option maxHeartbeats 3200000 in
set_option maxRecDepth 20000 in
theorem vc_opened (hE : E.env.fn = G) (hgl : E.gl 1 = some [f130v, f131v]) {c : Case} {M : VM} {n : Nat} {K : PV → VM → Prop} (hn : M.length = n) (hu : ∀ o ∈ M, o.und n)
    (hK0 : okK c = false → K (.tup [.agg zeroC, .int .i64 100]) (M ++ [ccl c, .cells zeroC]))
    (hK1 : okK c = true → ∀ es cl, SayM (saysK c) es cl → K (.tup [triV c (allR c.Calendar) (n + 2), .int .i64 0]) (M ++ [ccl c, .cells (triC c (allR c.Calendar) (n + 2)), .map es cl, .cells (triC c (allR c.Calendar) (n + 2))])) :
    VC E false (.func 56 [] []) [enc c] M K := by
  have good := goodV_cons (k_Check hE) (goodV_cons (w_TotalP hE) goodV_nil)
  refine VC.func (A := F56) (by rw [hE]; rfl) (by simp [F56]) ?_
  unfold F56
  cases ho : okK c
  · have hck : checkK c = 100 := by unfold checkK; rw [ho]; rfl
    have hK := hK0 ho
    refine VW.run good [] ?_
    simp (implicitDefEqProofs := false) [enc_list, hn, get_pre hn, get_pre0 hn, set_pre hn, set_pre0 hn, hck, spliceV]
    exact hK
  · have hck : checkK c = 0 := by unfold checkK; rw [ho]; rfl
    have o := okK_ok ho
    have l6 := o.l6
    have hTt : TotalR c.Calendar = (allR c.Calendar, 0) := by
      obtain ⟨h1, _⟩ := checkTown_zero o.ct
      unfold TotalR; rw [if_pos h1]
    have hK := hK1 ho
    have a2 := o.a2
    have hen := o.en
    obtain ⟨all, hall⟩ : ∃ all, allR c.Calendar = all := ⟨_, rfl⟩
    have hsay := fun {M mt num es clock S r a b K} => vc_say (E := E) (c := c) (M := M) (mt := mt) (num := num) (es := es) (clock := clock) (S := S) (r := r) (a := a) (b := b) (K := K) hE hgl ho
    rw [hall] at hTt hK hen hsay
    have hS0 : openL c 0 (c.Log.drop 0) (fun _ _ => 0) = saysK c := by rw [List.drop_zero]; rfl
    refine VW.run good [] ?_
    simp (implicitDefEqProofs := false) [enc_list, hn, get_pre hn, get_pre0 hn, set_pre hn, set_pre0 hn, hck, hTt, spliceV]
    refine VW.loop_toE 0 (fun (x : List (PV × PV × Nat) × Nat) => [(2, .ptr (n + 1) 14 0), (7, .ptr (n + 3) 14 0)]) (fun (x : List (PV × PV × Nat) × Nat) => M ++ [ccl c, .cells zeroC, .map x.1 x.2, .cells (triC c all (n + 2))]) (fun (x : List (PV × PV × Nat) × Nat) => SayM (saysK c) x.1 x.2) ?_ (fun x hp f m hc => ?_)
    · have hu4 : ∀ {S : Says2} {es : List (PV × PV × Nat)} {cl : Nat}, SayM S es cl → ∀ o ∈ M ++ [ccl c, .cells zeroC, .map es cl, .cells (triC c all (n + 2))], o.und (n + 4) := by
        intro S es cl hs o hx
        rcases List.mem_append.1 hx with hx | hx
        · exact objs_any (by omega) (hu o hx)
        · simp only [List.mem_cons, List.not_mem_nil, or_false] at hx
          rcases hx with rfl | rfl | rfl | rfl
          · simp (implicitDefEqProofs := false) [enc_list]
          · simp (implicitDefEqProofs := false)
          · exact sayM_und hs _ _
          · simp (implicitDefEqProofs := false) [enc_list]
      have hcut : ∀ {S : Says2} {es : List (PV × PV × Nat)} {cl : Nat} (fr : VFr) (l : List (Nat × PV)) (ext : VM), SayM S es cl → (∀ p ∈ l, (fr p.1).le p.2 ∧ p.2.und (n + 4) = true) → Cut n fr (M ++ (ccl c :: .cells zeroC :: .map es cl :: .cells (triC c all (n + 2)) :: ext)) l (M ++ [ccl c, .cells zeroC, .map es cl, .cells (triC c all (n + 2))]) := by
        intro S es cl fr l ext h1 h2
        rw [show M ++ (ccl c :: .cells zeroC :: .map es cl :: .cells (triC c all (n + 2)) :: ext) = (M ++ [ccl c, .cells zeroC, .map es cl, .cells (triC c all (n + 2))]) ++ ext by simp]
        exact cut_pre' (n := n + 4) (by simp [hn]) (by omega) (hu4 h1) h2
      obtain ⟨Inv, hI⟩ : ∃ Inv : Nat → List (Nat × PV) → VM → Prop, ∀ i f m, Inv i f m ↔ (∃ S es cl, f = [(2, .ptr (n + 1) 14 0), (7, .ptr (n + 3) 14 0), (27, enc c.Log), (28, .int .i64 c.Log.length), (29, .int .i64 i)] ∧ m = M ++ [ccl c, .cells zeroC, .map es cl, .cells (triC c all (n + 2))] ∧ SayM S es cl ∧ openL c i (c.Log.drop i) S = saysK c ∧ ∀ k x, S k x < 2 ^ 61) := ⟨_, fun _ _ _ => Iff.rfl⟩
      refine VW.loop_cut Inv c.Log.length ?_ ?_ ?_
      · exact ⟨_, _, (hI _ _ _).2 ⟨_, [], 0, rfl, rfl, sayM_nil, hS0, fun _ _ => Nat.pow_pos (by decide)⟩, hcut _ _ [] sayM_nil (by simp (implicitDefEqProofs := false) [enc_list])⟩
      · intro i f m hi hv
        obtain ⟨S, es, cl, rfl, rfl, hs, hop, hlt⟩ := (hI _ _ _).1 hv
        have w1 : IntKind.i64.wrap ((i : Int) + 1) = i + 1 := wrap64 (by omega) (by omega)
        have hi' : (i : Int) < c.Log.length := by omega
        rw [List.drop_eq_getElem_cons hi, openL] at hop
        obtain ⟨x0, x1, x2, x3, x4, x5⟩ := hen c.Log[i] (List.getElem_mem hi)
        have hg := get_Entry c.Log i hi
        have hent : entB c c.Log[i] = sayB c c.Log[i].Reading (c.Log[i].When.Low - c.Log[i].Late.High) (c.Log[i].When.High - c.Log[i].Late.Low) := rfl
        rw [hent] at hop
        generalize c.Log[i] = x at *
        have wa : IntKind.i64.wrap (x.When.Low - x.Late.High) = x.When.Low - x.Late.High := wrap64 (by omega) (by omega)
        have wb : IntKind.i64.wrap (x.When.High - x.Late.Low) = x.When.High - x.Late.Low := wrap64 (by omega) (by omega)
        refine VW.run good [] ?_; simp (implicitDefEqProofs := false) [enc_list, hi, hi', hg, spliceV, get_pre hn, get_pre0 hn, set_pre hn, set_pre0 hn, wa, wb]
        unfold VCo
        have hM9 : (M ++ [ccl c, .cells zeroC, .map es cl, .cells (triC c all (n + 2)), .cells (entC x)])[n + 2]? = some (.map es cl) := by rw [get_pre hn]; rfl
        refine hsay (by omega) hlt hM9 hs ?_ (by omega) (by omega) ?_
        · intro o hx
          rw [show M ++ [ccl c, .cells zeroC, .map es cl, .cells (triC c all (n + 2)), .cells (entC x)] = (M ++ [ccl c, .cells zeroC, .map es cl, .cells (triC c all (n + 2))]) ++ [.cells (entC x)] by simp] at hx
          rcases List.mem_append.1 hx with hx | hx
          · exact objs_any (by simp [hn]) (hu4 hs o hx)
          · rw [List.mem_singleton] at hx
            subst hx
            simp (implicitDefEqProofs := false)
        · intro es2 cl2 ext hs2
          rw [set_pre hn]
          simp (implicitDefEqProofs := false) [enc_list, AExit.leave, w1]
          exact ⟨_, _, (hI _ _ _).2 ⟨_, es2, cl2, rfl, rfl, hs2, hop, orS_lt (by omega) hlt⟩, hcut _ _ _ hs2 (by simp (implicitDefEqProofs := false) [enc_list])⟩
      · intro f m hv
        obtain ⟨S, es, cl, rfl, rfl, hs, hop, hlt⟩ := (hI _ _ _).1 hv
        rw [List.drop_length, openL] at hop
        subst hop
        refine VW.run good [] ?_; simp (implicitDefEqProofs := false) [enc_list]
        exact ⟨es, cl, hs, hcut _ _ [] hs (by simp (implicitDefEqProofs := false))⟩
    · obtain ⟨es, cl⟩ := x
      simp only at hp hc
      simp (implicitDefEqProofs := false); refine .ofCut hc (VW.run good [] ?_); simp (implicitDefEqProofs := false) [enc_list, get_pre hn, get_pre0 hn, set_pre hn, set_pre0 hn, spliceV]
      exact hK es cl hp
end Go.RS.DC

/- Walks: the program (6): the spots that can follow one. -/
namespace Go.RS.DC
open Go Go.RS
open Go.RS.Enc (enc dec)
variable {E : VEnv}
theorem k_greatest (hE : E.env.fn = G) : Ok E 75 (s2 fun (n : Int) (l : List Int) => some (l.foldl max n)) := by
  refine ok2 fun n l r hr => ?_
  cases hr
  refine VP.bound fun hb => ?_
  simp [enc_list] at hb
  generalize hT : l.foldl max n = T
  refine VP.run (A := F75) (goodV_nil) [] (by rw [hE]; rfl) (by simp [F75]) ?_; unfold F75; simp (implicitDefEqProofs := false) [enc_list]
  refine VW.loop_to 0 [(0, .int .i64 T)] [] (True) ?_ (fun hp f m hc => ?_)
  · obtain ⟨Inv, hI⟩ : ∃ Inv : Nat → List (Nat × PV) → VM → Prop, ∀ k f m, Inv k f m ↔ (∃ a : Int, f = [(0, .int .i64 a), (7, enc l), (8, .int .i64 l.length), (9, .int .i64 k)] ∧ m = [] ∧ T = (l.drop k).foldl max a) := ⟨_, fun _ _ _ => Iff.rfl⟩
    refine VW.loop_cut Inv l.length ?_ ?_ ?_
    · exact ⟨_, _, (hI _ _ _).2 ⟨n, rfl, rfl, hT.symm⟩, ⟨0, [], by simp [enc_list], by simp, by simp, by simp (implicitDefEqProofs := false) [enc_list], by simp (implicitDefEqProofs := false) [enc_list]⟩⟩
    · intro k f m hk hi
      obtain ⟨a, rfl, rfl, hs⟩ := (hI _ _ _).1 hi
      have w1 : IntKind.i64.wrap ((k : Int) + 1) = k + 1 := wrap64 (by omega) (by omega)
      rw [List.drop_eq_getElem_cons hk, List.foldl_cons] at hs
      have hm : (if a < l[k] then l[k] else a) = max a l[k] := by rw [Int.max_def]; split <;> split <;> omega
      refine VW.run goodV_nil [] ?_; simp (implicitDefEqProofs := false) [enc_list, hk, get_Int l k hk, w1, minmaxV, hm]
      exact ⟨_, _, (hI _ _ _).2 ⟨_, rfl, rfl, hs⟩, ⟨0, [], by simp [enc_list], by simp, by simp, by simp (implicitDefEqProofs := false) [enc_list], by simp (implicitDefEqProofs := false) [enc_list]⟩⟩
    · intro f m hi
      obtain ⟨a, rfl, rfl, hs⟩ := (hI _ _ _).1 hi
      rw [List.drop_length, List.foldl_nil] at hs
      subst hs
      refine VW.run goodV_nil [] ?_; simp (implicitDefEqProofs := false) [enc_list]
      exact ⟨0, [], by simp [enc_list], by simp, by simp, by simp (implicitDefEqProofs := false) [enc_list], by simp (implicitDefEqProofs := false) [enc_list]⟩
  · simp (implicitDefEqProofs := false); refine .ofCut hc (VW.run goodV_nil [] ?_); simp (implicitDefEqProofs := false) [enc_list]
abbrev spotV (k x : Int) : PV := .agg [.int .i64 k, .int .i64 x]
abbrev folC (tb xb : Nat) : PV := .func 74 [] [.ptr tb 14 0, .ptr xb 2 0]
theorem vc_follow (hE : E.env.fn = G) {g : Bool} {M : VM} {c : Case} {all : Int} {mt : Nat} {k x : Int} {K : PV → VM → Prop} (hg : g = false)
    (hk : K (folC M.length (M.length + 1)) (M ++ [.cells (triC c all mt), .cells [.int .i64 k, .int .i64 x]])) :
    VC E g (.func 59 [] []) [triV c all mt, spotV k x] M K := by
  subst hg
  refine VC.func (A := F59) (by rw [hE]; rfl) (by simp [F59]) ?_
  unfold F59
  refine VW.run goodV_nil [] ?_
  simp (implicitDefEqProofs := false) [enc_list]
  exact hk
/-- The errors that can follow: those of the first stage, behind none. -/
def folL (c : Case) (k x : Int) : List Int := if 0 ≤ k then nextO c x else firstO c
theorem offsL_get {lo hi : Int} {i : Nat} (h : i < (offsL lo hi).length) : (offsL lo hi)[i] = lo + i := by simp [offsL]
theorem offsL_len (lo hi : Int) : (offsL lo hi).length = (hi - lo + 1).toNat := by simp [offsL]
set_option maxHeartbeats 1600000 in
set_option maxRecDepth 20000 in
theorem VW.rangeFollow (hE : E.env.fn = G) {f : Opd} {ps : List Nat} {assign body : ACode} {kk tb xb n0 mt : Nat} {c : Case} {all k x : Int} {fr : VFr} {M : VM} {Q : AExit → VFr → VM → Prop} (J : Nat → VM → Prop) (D : AExit → VM → Prop)
    (hf : f.evV E fr = folC tb xb) (o : CaseOk c) (hk : -1 ≤ k ∧ k ≤ 100) (hx : -30 ≤ x ∧ x ≤ 30) (hps : ps.length = 1) (hfr : ∀ i, (fr i).und (n0 + 1) = true) (hM : M.length = n0) (h0 : J 0 M)
    (hJ : ∀ i pre, J i pre → pre.length = n0 ∧ pre[tb]? = some (.cells (triC c all mt)) ∧ pre[xb]? = some (.cells [.int .i64 k, .int .i64 x]) ∧ ∀ o ∈ pre, o.und (n0 + 1))
    (step : ∀ (i : Nat) pre, (hi : i < (folL c k x).length) → J i pre → ∀ (Lr Lb : VObj), (∀ n, (∀ i, (fr i).und n = true) → Lb.und n) →
      VW E (n0 + 1) assign (setParamsV fr ps [spotV (k + 1) (folL c k x)[i]]) (pre ++ [Lr]) fun e fr1 M1 => e = .normal ∧ ∃ ext, M1 = pre ++ ([Lr] ++ ext) ∧
        VW E (n0 + 1) body fr1 (pre ++ ([Lb] ++ ext)) fun e fr2 M2 => ∃ pre2 ext2, M2 = pre2 ++ Lb :: ext2 ∧ pre2.length = n0 ∧ ((e = .normal ∧ J (i + 1) pre2) ∨ (e ≠ .normal ∧ D e pre2)))
    (fin : ∀ pre L ext, J (folL c k x).length pre → Q .normal fr (pre ++ .loop L :: ext))
    (out : ∀ e pre L ext, D e pre → pre.length = n0 → e ≠ .normal → Q e fr (pre ++ .loop L :: ext)) : VW E kk (.rangeFunc f ps assign body) fr M Q := by
  have good := goodV_cons (k_greatest hE) goodV_nil
  have s0 := o.s0
  have s3 := o.s3
  have f0 := o.f0
  have f1 := o.f1
  have f2 := o.f2
  refine VW.rangeFunc hf (VC.func (A := F74) (by rw [hE]; rfl) (by simp [F74]) ?_)
  obtain ⟨hl0, ht0, hx0, hu0⟩ := hJ 0 M h0
  have hlen : (M ++ [VObj.loop ⟨fr, ps, assign, body, .ready, none⟩]).length = n0 + 1 := by simp [hM]
  rw [hlen, hM]
  generalize hL0 : VObj.loop ⟨fr, ps, assign, body, .ready, none⟩ = L0 at *
  have hu : L0.und (n0 + 1) := by rw [← hL0]; exact hfr
  have hb1 : tb < n0 + 1 := by have := (List.getElem?_eq_some_iff.1 ht0).1; omega
  have hb2 : xb < n0 + 1 := by have := (List.getElem?_eq_some_iff.1 hx0).1; omega
  obtain ⟨lo, hi, hlh, hl1, hl2, hl3⟩ : ∃ lo hi, folL c k x = offsL lo hi ∧ -30 ≤ lo ∧ hi ≤ 30 ∧ lo ≤ hi + 1 ∧ (0 ≤ k → max (-30) (x - c.Step) = lo ∧ min 30 (x + c.Step) = hi) ∧ (¬ 0 ≤ k → lo = c.First.Low ∧ hi = c.First.High) := by
    unfold folL
    by_cases h : 0 ≤ k
    · rw [if_pos h]
      exact ⟨_, _, rfl, by omega, by omega, by omega, fun _ => ⟨rfl, rfl⟩, fun h2 => absurd h h2⟩
    · rw [if_neg h]
      exact ⟨_, _, rfl, by omega, by omega, by omega, fun h2 => absurd h2 h, fun _ => ⟨rfl, rfl⟩⟩
  obtain ⟨hl3, hl4, hl5⟩ := hl3
  have hN : (folL c k x).length = (hi - lo + 1).toNat := by rw [hlh, offsL_len]
  have wk : IntKind.i64.wrap (k + 1) = k + 1 := wrap64 (by omega) (by omega)
  unfold F74
  refine VW.seq_cut [(0, .yield n0), (1, .ptr tb 14 0), (2, .ptr xb 2 0), (4, .int .i64 c.First.Low), (5, .int .i64 c.First.High)] (M ++ [L0]) (VW.run good [] ?_) ?_
  · simp (implicitDefEqProofs := false) [enc_list, get_hr ht0]
    exact cut_pre hM hu0 hu (by simp (implicitDefEqProofs := false) [enc_list, hb1, hb2])
  refine VW.seq_cut [(0, .yield n0), (1, .ptr tb 14 0), (2, .ptr xb 2 0), (4, .int .i64 lo), (5, .int .i64 hi)] (M ++ [L0]) (VW.run good [] ?_) ?_
  · by_cases h : 0 ≤ k
    · obtain ⟨g1, g2⟩ := hl4 h
      have wa : IntKind.i64.wrap (x - c.Step) = x - c.Step := wrap64 (by omega) (by omega)
      have wb : IntKind.i64.wrap (x + c.Step) = x + c.Step := wrap64 (by omega) (by omega)
      have g3 : (if x + c.Step < 30 then x + c.Step else 30) = hi := by rw [← g2]; split <;> omega
      have g4 : (dec (PV.lst true 1 1 [PV.int .i64 (x - c.Step)]) : Option (List Int)) = some [x - c.Step] := dec_lst true [x - c.Step]
      simp (implicitDefEqProofs := false) [enc_list, get_hr ht0, get_hr hx0, h, wa, wb, g1, g3, g4, spliceV]
      exact cut_pre hM hu0 hu (by simp (implicitDefEqProofs := false) [enc_list, hb1, hb2])
    · obtain ⟨rfl, rfl⟩ := hl5 h
      simp (implicitDefEqProofs := false) [enc_list, get_hr ht0, get_hr hx0, h]
      exact cut_pre hM hu0 hu (by simp (implicitDefEqProofs := false) [enc_list, hb1, hb2])
  refine VW.run good [] ?_
  simp (implicitDefEqProofs := false) [enc_list]
  obtain ⟨Inv, hI⟩ : ∃ Inv : Nat → List (Nat × PV) → VM → Prop, ∀ i l m, Inv i l m ↔ (∃ pre, J i pre ∧ l = [(0, .yield n0), (1, .ptr tb 14 0), (2, .ptr xb 2 0), (5, .int .i64 hi), (6, .int .i64 (lo + (i : Int)))] ∧ m = pre ++ [L0]) := ⟨_, fun _ _ _ => Iff.rfl⟩
  refine VW.loop_cut Inv (folL c k x).length ?_ ?_ ?_
  · exact ⟨_, _, (hI _ _ _).2 ⟨M, h0, rfl, rfl⟩, cut_pre hM hu0 hu (by simp (implicitDefEqProofs := false) [enc_list, hb1, hb2])⟩
  · intro i l m hi2 hv
    obtain ⟨pre, hj, rfl, rfl⟩ := (hI _ _ _).1 hv
    obtain ⟨hl, ht, hxx, hup⟩ := hJ i pre hj
    have hst := step i pre hi2 hj
    have hel : (folL c k x)[i] = lo + (i : Int) := by
      have : ∀ (L : List Int) (h : i < L.length), folL c k x = L → (folL c k x)[i] = L[i] := fun L h e => by subst e; rfl
      rw [this _ (by rw [← hlh]; exact hi2) hlh, offsL_get]
    rw [hel] at hst
    have w1 : IntKind.i64.wrap (lo + (i : Int) + 1) = lo + ((i + 1 : Nat) : Int) := by rw [wrap64 (by omega) (by omega)]; omega
    have hle : lo + (i : Int) ≤ hi := by omega
    refine VW.run good [] ?_; simp (implicitDefEqProofs := false) [enc_list, hle, get_hr ht, get_hr hxx, wk, w1, spliceV, spc_yield]
    unfold VCo
    refine VC.yield (L := ⟨fr, ps, assign, body, .ready, none⟩) (by rw [get_pre0 hl]; simp [hL0]) (by simp [hps]) ?_
    have hM3 : (pre ++ [L0]).length = n0 + 1 := by simp [hl]
    rw [hM3]
    refine (hst L0 (.loop ⟨fr, ps, assign, body, .busy, none⟩) (fun n hn => hn)).mono ?_
    rintro e fr1 M1 ⟨rfl, ext, rfl, hbody⟩
    refine ⟨rfl, ⟨fr, ps, assign, body, .ready, none⟩, by rw [get_pre0 hl]; simp [hL0], rfl, ?_⟩
    rw [set_pre0 hl]
    refine hbody.mono ?_
    rintro e fr2 M2 ⟨pre2, ext2, rfl, hl2', hres⟩
    refine ⟨⟨fr, ps, assign, body, .busy, none⟩, by rw [get_pre0 hl2']; rfl, ?_⟩
    rw [set_pre0 hl2']
    rcases hres with ⟨rfl, hj2⟩ | ⟨hne, hd⟩
    · simp (implicitDefEqProofs := false) [enc_list, AExit.goesOn, AExit.stateAfter, AExit.jump, hL0, w1]
      obtain ⟨_, _, _, hu2⟩ := hJ _ _ hj2
      exact ⟨_, _, (hI _ _ _).2 ⟨pre2, hj2, rfl, rfl⟩, cut_pre hl2' hu2 hu (by simp (implicitDefEqProofs := false) [enc_list, hb1, hb2])⟩
    · have hgo : e.goesOn = false := by
        cases e
        · exact absurd rfl hne
        · rfl
        · rfl
      have hstt : ¬ e.stateAfter = LoopState.busy := by cases e <;> simp [AExit.stateAfter]
      simp (implicitDefEqProofs := false) [enc_list, hgo, get_pre0 hl2', set_pre0 hl2', pend_jump, hstt]
      exact out e pre2 _ _ hd hl2' hne
  · intro l m hv
    obtain ⟨pre, hj, rfl, rfl⟩ := (hI _ _ _).1 hv
    obtain ⟨hl, ht, hxx, hup⟩ := hJ _ pre hj
    have hfin := fin pre
    have hle : ¬ lo + ((folL c k x).length : Int) ≤ hi := by omega
    refine VW.run good [] ?_; simp (implicitDefEqProofs := false) [enc_list, hle, get_pre0 hl, set_pre0 hl]
    exact ⟨_, hL0.symm, by simp, hfin _ [] hj⟩
end Go.RS.DC

/- Walks: the program (7): the closure that goes through a case. -/
namespace Go.RS.DC
open Go Go.RS
open Go.RS.Enc (enc dec)
variable {E : VEnv}
/-- Two objects apart, all is as it was. -/
def AgreeX (mi fi : Nat) (M M' : VM) : Prop := ∀ (i : Nat) (o : VObj), M[i]? = some o → i ≠ mi → i ≠ fi → M'[i]? = some o
abbrev visC (kb tb ab vb fb : Nat) : PV := .func 69 [] [.ptr kb 1 0, .ptr tb 14 0, .ptr ab 1 0, .ptr vb 1 0, .ptr fb 1 0]
structure VisB (E : VEnv) (c : Case) (all : Int) (mt : Nat) (S : Says2) (A : Allow) (av : PV) (kb tb ab vb fb mi fi : Nat) (M : VM) : Prop where
  hk : M[kb]? = some (.cells [.map mi])
  ht : M[tb]? = some (.cells (triC c all mt))
  ha : M[ab]? = some (.cells [av])
  hv : M[vb]? = some (.cells [visC kb tb ab vb fb])
  hf : M[fb]? = some (.cells [.sl fi ((lastN c + 1) * 61) 0 (lastN c + 1) (lastN c + 1) 61])
  hs : ∃ es cl, M[mt]? = some (.map es cl) ∧ SayM S es cl
  hm : ∃ es cl, M[mi]? = some (.map es cl)
  hF : ∃ cs, M[fi]? = some (.vec cs)
  ne : mt ≠ mi
  al : ∀ M', AgreeX mi fi M M' → (∀ o ∈ M', o.und M'.length) → ∀ (k : Nat) (y : Int) (K : PV → VM → Prop), k ≤ lastN c → -30 ≤ y → y ≤ 30 → (∀ ext, K (.bool (A k y)) (M' ++ ext)) → VC E false av [spotV k y] M' K
abbrev mkM (M : VM) (mi fi : Nat) (es : List (PV × PV × Nat)) (cl : Nat) (F : Nat → Int → Bool) (N : Nat) : VM := (M.set mi (.map es cl)).set fi (.vec (foundC F N))
section
variable {c : Case} {all : Int} {mt : Nat} {S : Says2} {A : Allow} {av : PV} {kb tb ab vb fb mi fi : Nat} {M : VM}
theorem VisB.lm (h : VisB E c all mt S A av kb tb ab vb fb mi fi M) : mi < M.length := by obtain ⟨_, _, h⟩ := h.hm; exact (List.getElem?_eq_some_iff.1 h).1
theorem VisB.lf (h : VisB E c all mt S A av kb tb ab vb fb mi fi M) : fi < M.length := by obtain ⟨_, h⟩ := h.hF; exact (List.getElem?_eq_some_iff.1 h).1
theorem VisB.mf (h : VisB E c all mt S A av kb tb ab vb fb mi fi M) : mi ≠ fi := fun e => by
  obtain ⟨_, _, h1⟩ := h.hm
  obtain ⟨_, h2⟩ := h.hF
  rw [e, h2] at h1; cases h1
theorem mkM_len (es : List (PV × PV × Nat)) (cl : Nat) (F : Nat → Int → Bool) (N : Nat) : (mkM M mi fi es cl F N).length = M.length := by simp
theorem VisB.gm (h : VisB E c all mt S A av kb tb ab vb fb mi fi M) (es : List (PV × PV × Nat)) (cl : Nat) (F : Nat → Int → Bool) (N : Nat) : (mkM M mi fi es cl F N)[mi]? = some (.map es cl) := by
  unfold mkM
  rw [List.getElem?_set_ne (Ne.symm h.mf), List.getElem?_set_self h.lm]
theorem VisB.gf (h : VisB E c all mt S A av kb tb ab vb fb mi fi M) (es : List (PV × PV × Nat)) (cl : Nat) (F : Nat → Int → Bool) (N : Nat) : (mkM M mi fi es cl F N)[fi]? = some (.vec (foundC F N)) := by
  unfold mkM
  rw [List.getElem?_set_self (by simpa using h.lf)]
theorem VisB.agree (h : VisB E c all mt S A av kb tb ab vb fb mi fi M) (es : List (PV × PV × Nat)) (cl : Nat) (F : Nat → Int → Bool) (N : Nat) (ext : VM) : AgreeX mi fi M (mkM M mi fi es cl F N ++ ext) := fun i o ho h1 h2 => by
  have hl := (List.getElem?_eq_some_iff.1 ho).1
  rw [List.getElem?_append_left (by simpa using hl)]
  unfold mkM
  rw [List.getElem?_set_ne (Ne.symm h2), List.getElem?_set_ne (Ne.symm h1), ho]
theorem VisB.cell (h : VisB E c all mt S A av kb tb ab vb fb mi fi M) {i : Nat} {cs : List PV} (hi : M[i]? = some (.cells cs)) : i ≠ mi ∧ i ≠ fi := by
  obtain ⟨_, _, h1⟩ := h.hm
  obtain ⟨_, h2⟩ := h.hF
  exact ⟨fun e => (by rw [e, h1] at hi; cases hi), fun e => (by rw [e, h2] at hi; cases hi)⟩
theorem VisB.next (h : VisB E c all mt S A av kb tb ab vb fb mi fi M) (es : List (PV × PV × Nat)) (cl : Nat) (F : Nat → Int → Bool) (ext : VM) : VisB E c all mt S A av kb tb ab vb fb mi fi (mkM M mi fi es cl F (lastN c + 1) ++ ext) := by
  have ag := h.agree es cl F (lastN c + 1) ext
  have g : ∀ {i : Nat} {cs : List PV}, M[i]? = some (VObj.cells cs) → (mkM M mi fi es cl F (lastN c + 1) ++ ext)[i]? = some (.cells cs) := fun hi => ag _ _ hi (h.cell hi).1 (h.cell hi).2
  obtain ⟨es0, cl0, hs, hs2⟩ := h.hs
  refine ⟨g h.hk, g h.ht, g h.ha, g h.hv, g h.hf, ⟨es0, cl0, ag _ _ hs h.ne ?_, hs2⟩, ⟨es, cl, get_hr (h.gm _ _ _ _) _⟩, ⟨_, get_hr (h.gf _ _ _ _) _⟩, h.ne, fun M' hag => h.al M' fun i o ho h1 h2 => hag i o (ag i o ho h1 h2) h1 h2⟩
  intro e
  obtain ⟨_, h2⟩ := h.hF
  rw [e, h2] at hs; cases hs
theorem know_und {need : Nat} {F : Nat → Int → Bool} {es : List (PV × PV × Nat)} (h : KnowI c S A need F es) (k j : Nat) : (VObj.map es k).und j := fun e he => by
  obtain ⟨a, ha, hv⟩ := h.ok e he
  rw [ha, hv]
  exact ⟨rfl, rfl⟩
theorem mkM_und {n : Nat} (hu : ∀ o ∈ M, o.und n) {need : Nat} {F : Nat → Int → Bool} {es : List (PV × PV × Nat)} (h : KnowI c S A need F es) (cl N j : Nat) (hj : n ≤ j) : ∀ o ∈ mkM M mi fi es cl F N, o.und j :=
  set_und (set_und (fun o ho => objs_any hj (hu o ho)) (know_und h _ _)) trivial
end
end Go.RS.DC

/- Walks: the program (8): going through a case. -/
namespace Go.RS.DC
open Go Go.RS
open Go.RS.Enc (enc dec)
variable {E : VEnv}
theorem spc_nil (M : VM) (v : PV) (args : List PV) : spc (spL []) M v args = none := by unfold spc; split <;> rfl
theorem know_put {c : Case} {S : Says2} {A : Allow} {need : Nat} {F : Nat → Int → Bool} {es es' : List (PV × PV × Nat)} {k x : Int} {n : Nat} (h : KnowI c S A need F es) (hr : ReachS c S A need (k, x, n)) (hk : -1 ≤ k)
    (hn : k < lastN c → ∀ y ∈ folV c k x, A (k + 1).toNat y = true → HasT keyT (k + 1, y, restV S k x n) es) (hok : MapOk keyT (fun a v => v = .bool (canVis c S A a)) es') (hh : ∀ a, HasT keyT a es' ↔ a = (k, x, n) ∨ HasT keyT a es) :
    KnowI c S A need (if canVis c S A (k, x, n) && decide (0 ≤ k) then setF F k.toNat x else F) es' := by
  refine ⟨hok, ?_, ?_, ?_⟩
  · intro k' x' n' h1 h2 y hy ha
    rw [hh]
    rcases (hh _).1 h1 with he | he
    · simp only [Prod.mk.injEq] at he
      obtain ⟨rfl, rfl, rfl⟩ := he
      exact .inr (hn h2 y hy ha)
    · exact .inr (h.cl k' x' n' he h2 y hy ha)
  · intro j z
    have hold := h.fo j z
    have h2 : (∃ m, HasT keyT ((j : Int), z, m) es' ∧ canVis c S A ((j : Int), z, m) = true) ↔ ((j : Int) = k ∧ z = x ∧ canVis c S A (k, x, n) = true) ∨ F j z = true := by
      rw [hold]
      constructor
      · rintro ⟨m, h1, h2⟩
        rcases (hh _).1 h1 with he | he
        · have he2 := he
          simp only [Prod.mk.injEq] at he
          exact .inl ⟨he.1, he.2.1, by rw [← he2]; exact h2⟩
        · exact .inr ⟨m, he, h2⟩
      · rintro (⟨h1, h2, h3⟩ | ⟨m, h1, h2⟩)
        · exact ⟨n, (hh _).2 (.inl (by rw [h1, h2])), by rw [h1, h2]; exact h3⟩
        · exact ⟨m, (hh _).2 (.inr h1), h2⟩
    rw [h2]
    cases hc : canVis c S A (k, x, n)
    · simp
    · by_cases h0 : 0 ≤ k
      · simp only [Bool.true_and, decide_eq_true h0, if_true]
        unfold setF
        have e1 : (j = k.toNat) ↔ ((j : Int) = k) := by omega
        by_cases h3 : j = k.toNat ∧ z = x
        · rw [if_pos h3]; simp [e1.1 h3.1, h3.2]
        · rw [if_neg h3]
          rw [e1] at h3
          constructor
          · exact .inr
          · rintro (⟨g1, g2, _⟩ | g)
            · exact absurd ⟨g1, g2⟩ h3
            · exact g
      · simp only [Bool.true_and, decide_eq_false h0]
        have : ¬ (j : Int) = k := by omega
        simp [this]
  · intro a ha
    rcases (hh _).1 ha with rfl | ha
    · exact hr
    · exact h.re a ha
theorem mkM_mk {M : VM} {mi fi : Nat} (h1 : mi < M.length) (h2 : fi < M.length) (hne : mi ≠ fi) (es es' : List (PV × PV × Nat)) (cl cl' : Nat) (F F' : Nat → Int → Bool) (N : Nat) (X : VM) :
    mkM (mkM M mi fi es cl F N ++ X) mi fi es' cl' F' N = mkM M mi fi es' cl' F' N ++ X := by
  unfold mkM
  rw [hr_set (by simpa using h1), hr_set (by simpa using h2)]
  congr 1
  rw [List.set_comm _ _ hne.symm, List.set_set, List.set_set]
theorem fol_bounds {c : Case} (o : CaseOk c) {k x y : Int} (hx : -30 ≤ x ∧ x ≤ 30) (h : y ∈ folV c k x) : -30 ≤ y ∧ y ≤ 30 := by
  have f0 := o.f0
  have f2 := o.f2
  unfold folV nextO firstO at h
  split at h <;> rw [mem_offsL] at h <;> omega
theorem VW.seq_cutE {k : Nat} {fr : VFr} {M : VM} {Q : AExit → VFr → VM → Prop} {ι : Type} {a b : ACode} (l : ι → List (Nat × PV)) (M' : ι → VM) (P : ι → Prop) (ha : VW E k a fr M fun e f m => e = .normal ∧ ∃ x, P x ∧ Cut k f m (l x) (M' x)) (hb : ∀ x, P x → VW E k b (mkF (l x)) (M' x) Q) : VW E k (.seq a b) fr M Q :=
  VW.seq (ha.mono (by
    rintro e f m ⟨rfl, x, hp, hc⟩
    exact .ofCut hc (hb x hp)))
end Go.RS.DC

/- Walks: the program (9): going through a case, from a spot on. -/
namespace Go.RS.DC
open Go Go.RS
open Go.RS.Enc (enc dec)
variable {E : VEnv}
section
variable {c : Case} {all : Int} {mt : Nat} {S : Says2} {A : Allow} {av : PV} {kb tb ab vb fb mi fi : Nat}
theorem goA_und {M : VM} {n : Nat} (hu : ∀ o ∈ M, o.und n) {need : Nat} {F : Nat → Int → Bool} {es : List (PV × PV × Nat)} (h : KnowI c S A need F es) (cl N j : Nat) (hj : n ≤ j) {X : VM} (hX : ∀ o ∈ X, o.und j) : ∀ o ∈ mkM M mi fi es cl F N ++ X, o.und j := fun o ho => by
  rcases List.mem_append.1 ho with ho | ho
  · exact mkM_und hu h cl N j hj o ho
  · exact hX o ho
theorem find_has {R : St → PV → Prop} {x : St} {i : Nat} {w : PV} : ∀ {es : List (PV × PV × Nat)} {o : Nat}, MapOk keyT R es → findKV K3 (keyT x) es o = some (some (i, w)) → HasT keyT x es := by
  intro es
  induction es with
  | nil => intro o _ h; cases h
  | cons e es ih =>
    intro o hm h
    obtain ⟨b, hb, _⟩ := hm e (by simp)
    rw [findKV, hb, key_T] at h
    by_cases hx : x = b
    · subst hx; exact ⟨e, by simp, hb⟩
    · rw [decide_eq_false hx] at h
      obtain ⟨f, hf, hk⟩ := ih (o := o + 1) (fun e he => hm e (by simp [he])) h
      exact ⟨f, by simp [hf], hk⟩
theorem len_hr {α : Type} {a : List α} {i : Nat} {x : α} (h : a[i]? = some x) : i < a.length := (List.getElem?_eq_some_iff.1 h).1
theorem cutY {k j : Nat} {fr : VFr} {l : List (Nat × PV)} {N X ext : VM} (hl : (N ++ X).length = j) (hk : k ≤ j) (hu : ∀ o ∈ N ++ X, o.und j) (hs : ∀ p ∈ l, (fr p.1).le p.2 ∧ p.2.und j = true) : Cut k fr (N ++ (X ++ ext)) l (N ++ X) := by
  rw [← List.append_assoc]; exact cut_pre' hl hk hu hs
set_option maxHeartbeats 3200000 in
set_option maxRecDepth 20000 in
theorem vc_visit (hE : E.env.fn = G) (o : CaseOk c) (hok : okK c = true) (hall : allR c.Calendar = all) (hS : ∀ k x, S k x < 2 ^ 61) {need : Nat} :
    ∀ (d : Nat) (k x : Int) (w : Nat), k + d = lastN c → -1 ≤ k → -30 ≤ x ∧ x ≤ 30 → (k = -1 → x = 0) → w < 2 ^ 61 → ReachS c S A need (k, x, w) → ∀ (M : VM) (K : PV → VM → Prop), VisB E c all mt S A av kb tb ab vb fb mi fi M → (∀ o ∈ M, o.und M.length) →
    (∃ es cl F, M[mi]? = some (.map es cl) ∧ M[fi]? = some (.vec (foundC F (lastN c + 1))) ∧ KnowI c S A need F es ∧
      (∀ es' cl' F' ext, KnowI c S A need F' es' → (∀ a, HasT keyT a es → HasT keyT a es') → HasT keyT (k, x, w) es' → K (.bool (canVis c S A (k, x, w))) (mkM M mi fi es' cl' F' (lastN c + 1) ++ ext))) →
    VC E false (visC kb tb ab vb fb) [spotV k x, .int .i64 w] M K := by
  intro d
  induction d using Nat.strongRecOn with
  | _ d ih =>
    intro k x w hd hk hx hx0 hw hre M K hB hu ⟨es, cl, F, hm, hf, hkn, hK⟩
    refine VC.func (A := F69) (by rw [hE]; rfl) (by simp [F69]) ?_
    have lm := hB.lm
    have lf := hB.lf
    have lk := len_hr hB.hk
    have lt := len_hr hB.ht
    have la := len_hr hB.ha
    have lv := len_hr hB.hv
    have lff := len_hr hB.hf
    have hne := hB.mf
    have good := goodV_cons (k_last hE) (goodV_cons (k_begin hE) goodV_nil)
    have hlast : lastF (triK c all) = some ((lastN c : Nat) : Int) := if_pos ⟨hok, hall.symm⟩
    have hkok := keyOk_T (k, x, w)
    have st := o.st
    have hMs : mkM M mi fi es cl F (lastN c + 1) = M := by unfold mkM; rw [set_get_same hm, set_get_same hf]
    generalize hn : M.length = n at *
    have hz : ∀ l : List VObj, (M ++ l).length = n + l.length := fun l => by simp [hn]
    unfold F69
    rcases find_good key_T (k, x, w) es 0 hkn.ok with ⟨hf0, hno⟩ | ⟨i, v, hf0, hv⟩
    · refine VW.seq (VW.run good [] ?_); simp (implicitDefEqProofs := false) [enc_list, hn]
      refine VW.seq (VW.run good [] ?_); simp (implicitDefEqProofs := false) [enc_list, hn, get_pre hn, get_pre0 hn, set_pre hn, spliceV]
      refine VW.seq (VW.run good [] ?_); simp (implicitDefEqProofs := false) [enc_list, hn, get_hr hB.hk, get_hr hm, get_pre hn, get_pre0 hn, mapEsV, hkok, hf0, lookResV, PV.ofV]
      refine VW.seq (VW.run good [] ?_); simp (implicitDefEqProofs := false) [enc_list, hn, get_pre hn, get_pre0 hn, set_pre hn, spliceV]
      obtain ⟨R, hR⟩ : ∃ R, restV S k x w = R := ⟨_, rfl⟩
      obtain ⟨es0, cl0, hs0, hs1⟩ := hB.hs
      have lmt := len_hr hs0
      rw [hn] at lmt
      have hu3 : ∀ o ∈ M ++ [VObj.cells [.int .i64 k, .int .i64 x], .cells [.int .i64 k, .int .i64 x, .int .i64 (w : Int)], .cells [.int .i64 (R : Int)]], o.und (n + 3) := by
        have := goA_und (mi := mi) (fi := fi) hu hkn cl (lastN c + 1) (n + 3) (by omega) (X := [VObj.cells [.int .i64 k, .int .i64 x], .cells [.int .i64 k, .int .i64 x, .int .i64 (w : Int)], .cells [.int .i64 (R : Int)]]) (by simp (implicitDefEqProofs := false))
        rwa [hMs] at this
      refine VW.seq_cut [(2, .ptr kb 1 0), (3, .ptr tb 14 0), (4, .ptr ab 1 0), (5, .ptr vb 1 0), (6, .ptr fb 1 0), (7, .ptr n 2 0), (10, .ptr (n + 1) 3 0), (13, .ptr (n + 2) 1 0)] (M ++ [.cells [.int .i64 k, .int .i64 x], .cells [.int .i64 k, .int .i64 x, .int .i64 (w : Int)], .cells [.int .i64 (R : Int)]]) (VW.run good [] ?_) ?_
      · have hcut : ∀ (fr : VFr), (∀ x ∈ [(2, PV.ptr kb 1 0), (3, .ptr tb 14 0), (4, .ptr ab 1 0), (5, .ptr vb 1 0), (6, .ptr fb 1 0), (7, .ptr n 2 0), (10, .ptr (n + 1) 3 0), (13, .ptr (n + 2) 1 0)], (fr x.1).le x.2 ∧ x.2.und (n + 3) = true) → Cut n fr (M ++ ([.cells [.int .i64 k, .int .i64 x], .cells [.int .i64 k, .int .i64 x, .int .i64 (w : Int)], .cells [.int .i64 (R : Int)]] ++ [])) _ (M ++ [.cells [.int .i64 k, .int .i64 x], .cells [.int .i64 k, .int .i64 x, .int .i64 (w : Int)], .cells [.int .i64 (R : Int)]]) := fun fr hs => cutY (j := n + 3) (by simp [hn]) (by omega) hu3 hs
        by_cases h0 : k = -1
        · have hx1 := hx0 h0
          subst h0
          subst hx1
          have hRw : R = w := by rw [← hR]; rfl
          subst hRw
          simp (implicitDefEqProofs := false) [enc_list, hn, get_pre hn, get_pre0 hn, set_pre hn, spliceV]
          refine hcut _ ?_
          simp (implicitDefEqProofs := false)
          omega
        · obtain ⟨f, hg1, hg2⟩ := say_look hs1 (k, x)
          have hRw : anb w (S k x) = R := by rw [← hR]; unfold restV; rw [if_neg (by omega)]
          have hanb := i_anb (a := w) (b := S k x) (by omega) (by have := hS k x; omega)
          rw [hRw] at hanb
          simp only at hg2
          have hk2 := keyOk_S (k, x)
          have hz0 : PV.ofV E (Value.int .i64 0) = .int .i64 0 := rfl
          have hb0 : (k == -1) = false := by simpa using h0
          simp (implicitDefEqProofs := false) [enc_list, hn, get_hr hB.ht, get_hr hs0, get_pre hn, get_pre0 hn, set_pre hn, spliceV, hb0, mapEsV, hk2, hg1, hg2, hz0, hanb]
          refine hcut _ ?_
          simp (implicitDefEqProofs := false)
          omega
      have hu4 : ∀ {es cl F} (b : Bool), KnowI c S A need F es → ∀ j, n ≤ j → ∀ o ∈ mkM M mi fi es cl F (lastN c + 1) ++ [VObj.cells [.int .i64 k, .int .i64 x], .cells [.int .i64 k, .int .i64 x, .int .i64 (w : Int)], .cells [.int .i64 (R : Int)], .cells [.bool b]], o.und j := fun b h j hj => goA_und hu h _ _ j hj (by simp (implicitDefEqProofs := false))
      obtain ⟨B0, hB0⟩ : ∃ B0 : Bool, (decide (k = lastN c) && decide (R = 0)) = B0 := ⟨_, rfl⟩
      have hrest : ∀ a0 : Bool, True := fun _ => trivial
      refine VW.seq_cut [(2, .ptr kb 1 0), (3, .ptr tb 14 0), (4, .ptr ab 1 0), (5, .ptr vb 1 0), (6, .ptr fb 1 0), (7, .ptr n 2 0), (10, .ptr (n + 1) 3 0), (13, .ptr (n + 2) 1 0), (14, .ptr (n + 3) 1 0)] (M ++ [.cells [.int .i64 k, .int .i64 x], .cells [.int .i64 k, .int .i64 x, .int .i64 (w : Int)], .cells [.int .i64 (R : Int)], .cells [.bool B0]]) (VW.run good [] ?_) ?_
      · have h4 := hu4 (es := es) (cl := cl) (F := F) B0 hkn (n + 4) (by omega)
        rw [hMs] at h4
        have hcut : ∀ (fr : VFr), (∀ x ∈ [(2, PV.ptr kb 1 0), (3, .ptr tb 14 0), (4, .ptr ab 1 0), (5, .ptr vb 1 0), (6, .ptr fb 1 0), (7, .ptr n 2 0), (10, .ptr (n + 1) 3 0), (13, .ptr (n + 2) 1 0), (14, .ptr (n + 3) 1 0)], (fr x.1).le x.2 ∧ x.2.und (n + 4) = true) → Cut n fr (M ++ ([.cells [.int .i64 k, .int .i64 x], .cells [.int .i64 k, .int .i64 x, .int .i64 (w : Int)], .cells [.int .i64 (R : Int)], .cells [.bool B0]] ++ [])) _ (M ++ [.cells [.int .i64 k, .int .i64 x], .cells [.int .i64 k, .int .i64 x, .int .i64 (w : Int)], .cells [.int .i64 (R : Int)], .cells [.bool B0]]) := fun fr hs => cutY (j := n + 4) (by simp [hn]) (by omega) h4 hs
        have hpk : (if decide (k = (lastN c : Int)) = true then decide (R = 0) else false) = B0 := by rw [← hB0]; cases decide (k = (lastN c : Int)) <;> simp
        by_cases hkl : k = (lastN c : Int)
        · have hb1 : decide (k = (lastN c : Int)) = true := decide_eq_true hkl
          have hb2 : decide (R = 0) = B0 := by rw [← hB0, decide_eq_true hkl, Bool.true_and]
          simp (implicitDefEqProofs := false) [enc_list, hn, hlast, get_hr hB.ht, get_pre hn, get_pre0 hn, set_pre hn, spliceV, hb1, hb2]
          refine hcut _ ?_
          simp (implicitDefEqProofs := false)
          omega
        · have hb1 : decide (k = (lastN c : Int)) = false := decide_eq_false hkl
          have hb2 : B0 = false := by rw [← hB0, decide_eq_false hkl, Bool.false_and]
          subst hb2
          simp (implicitDefEqProofs := false) [enc_list, hn, hlast, get_hr hB.ht, get_pre hn, get_pre0 hn, set_pre hn, spliceV, hb1]
          refine hcut _ ?_
          simp (implicitDefEqProofs := false)
          omega
      obtain ⟨V, hV⟩ : ∃ V, canVis c S A (k, x, w) = V := ⟨_, rfl⟩
      refine VW.seq_cutE (ι := List (PV × PV × Nat) × Nat × (Nat → Int → Bool)) (fun _ => [(2, .ptr kb 1 0), (6, .ptr fb 1 0), (7, .ptr n 2 0), (10, .ptr (n + 1) 3 0), (14, .ptr (n + 3) 1 0)]) (fun q => mkM M mi fi q.1 q.2.1 q.2.2 (lastN c + 1) ++ [.cells [.int .i64 k, .int .i64 x], .cells [.int .i64 k, .int .i64 x, .int .i64 (w : Int)], .cells [.int .i64 (R : Int)], .cells [.bool V]]) (fun q => KnowI c S A need q.2.2 q.1 ∧ (∀ a, HasT keyT a es → HasT keyT a q.1) ∧ (k < lastN c → ∀ y ∈ folV c k x, A (k + 1).toNat y = true → HasT keyT (k + 1, y, R) q.1)) ?_ ?_
      · by_cases hkl : k < (lastN c : Int)
        · have hfl : folL c k x = folV c k x := rfl
          have hkl1 : (k == (lastN c : Int)) = false := by simpa using (show ¬ k = (lastN c : Int) by omega)
          have hB0f : B0 = false := by rw [← hB0, decide_eq_false (by omega), Bool.false_and]
          subst hB0f
          have hVs : (folV c k x).any (nextB c S A k x w) = V := by rw [← hV, canVis_step c S A hk hkl]
          refine VW.run good [] ?_
          simp (implicitDefEqProofs := false) [enc_list, hn, hlast, get_hr hB.ht, get_pre hn, get_pre0 hn, set_pre hn, spliceV, hkl]
          unfold VCo
          refine vc_follow hE rfl ?_
          have hl4 : ∀ x y z w : VObj, (M ++ [x, y, z, w]).length = n + 4 := fun x y z w => by simp [hn]
          rw [hl4]
          simp (implicitDefEqProofs := false) [enc_list]
          obtain ⟨X, hX⟩ : ∃ X : Bool → VM, ∀ b, X b = [.cells [.int .i64 k, .int .i64 x], .cells [.int .i64 k, .int .i64 x, .int .i64 (w : Int)], .cells [.int .i64 (R : Int)], .cells [.bool b], .cells (triC c all mt), .cells [.int .i64 k, .int .i64 x]] := ⟨_, fun _ => rfl⟩
          have hu6 : ∀ {es cl F} (b : Bool), KnowI c S A need F es → ∀ j, n + 6 ≤ j → ∀ o ∈ mkM M mi fi es cl F (lastN c + 1) ++ X b, o.und j := fun b h j hj => goA_und hu h _ _ j (by omega) (by rw [hX]; simp (implicitDefEqProofs := false) [enc_list]; omega)
          have hl6 : ∀ es cl F b, (mkM M mi fi es cl F (lastN c + 1) ++ X b).length = n + 6 := fun es cl F b => by rw [hX, List.length_append, mkM_len]; simp [hn]
          have hN : ∀ es cl F, (mkM M mi fi es cl F (lastN c + 1)).length = n := fun es cl F => by rw [mkM_len]; exact hn
          refine .ofCut (l := [(2, .ptr kb 1 0), (4, .ptr ab 1 0), (5, .ptr vb 1 0), (6, .ptr fb 1 0), (7, .ptr n 2 0), (10, .ptr (n + 1) 3 0), (13, .ptr (n + 2) 1 0), (14, .ptr (n + 3) 1 0), (53, folC (n + 4) (n + 5))]) (M := mkM M mi fi es cl F (lastN c + 1) ++ X false) ?_ ?_
          · have h1 := hu6 (es := es) (cl := cl) (F := F) false hkn (n + 6) (Nat.le_refl _)
            rw [hMs] at h1 ⊢
            rw [hX] at h1 ⊢
            exact cutY (ext := []) (j := n + 6) (by simp [hn]) (by omega) h1 (by simp (implicitDefEqProofs := false); omega)
          obtain ⟨J, hJ⟩ : ∃ J : Nat → VM → Prop, ∀ i pre, J i pre ↔ ∃ es' cl' F', pre = mkM M mi fi es' cl' F' (lastN c + 1) ++ X (((folV c k x).take i).any (nextB c S A k x w)) ∧ KnowI c S A need F' es' ∧ (∀ a, HasT keyT a es → HasT keyT a es') ∧ ∀ y ∈ (folV c k x).take i, A (k + 1).toNat y = true → HasT keyT (k + 1, y, R) es' := ⟨_, fun _ _ => Iff.rfl⟩
          refine VW.rangeFollow (tb := n + 4) (xb := n + 5) (n0 := n + 6) (mt := mt) (c := c) (all := all) (k := k) (x := x) hE J (fun _ _ => False) (by simp) o (by omega) hx rfl (mkF_und ?_) (hl6 _ _ _ _) ((hJ _ _).2 ⟨es, cl, F, by rw [List.take_zero, List.any_nil], hkn, fun _ h => h, by simp⟩) ?_ ?_ ?_ ?_
          · simp (implicitDefEqProofs := false)
            omega
          · intro i pre hj
            obtain ⟨es', cl', F', rfl, h1, h2, h3⟩ := (hJ _ _).1 hj
            refine ⟨hl6 _ _ _ _, ?_, ?_, hu6 _ h1 _ (by omega)⟩
            · rw [hX, get_pre (hN _ _ _)]; rfl
            · rw [hX, get_pre (hN _ _ _)]; rfl
          · intro i pre hi hj Lr Lb hLb
            obtain ⟨es', cl', F', rfl, h1, h2, h3⟩ := (hJ _ _).1 hj
            have hyb := fol_bounds o (k := k) hx (List.getElem_mem hi)
            have hmy : (folL c k x)[i] ∈ folV c k x := List.getElem_mem hi
            have htk : ((folV c k x).take (i + 1)).any (nextB c S A k x w) = (((folV c k x).take i).any (nextB c S A k x w) || nextB c S A k x w (folL c k x)[i]) := by
              rw [List.take_succ, List.any_append, show (folV c k x)[i]? = some (folL c k x)[i] from List.getElem?_eq_getElem hi]; simp
            have htm : ∀ y, y ∈ (folV c k x).take (i + 1) → y ∈ (folV c k x).take i ∨ y = (folL c k x)[i] := fun y hy => by
              rw [List.take_succ, List.mem_append, show (folV c k x)[i]? = some (folL c k x)[i] from List.getElem?_eq_getElem hi] at hy
              simpa using hy
            generalize (folL c k x)[i] = y at *
            obtain ⟨T0, hT0⟩ : ∃ T0, ((folV c k x).take i).any (nextB c S A k x w) = T0 := ⟨_, rfl⟩
            rw [hT0] at htk ⊢
            obtain ⟨m, hm1⟩ : ∃ m : Nat, k + 1 = (m : Int) := ⟨(k + 1).toNat, by omega⟩
            have hm2' : (k + 1).toNat = m := by omega
            have hnb : nextB c S A k x w y = (A m y && canVis c S A ((m : Int), y, R)) := by unfold nextB; rw [hm2', hm1, hR]
            have hXl : ∀ b, (X b).length = 6 := fun b => by rw [hX]; rfl
            refine VW.run good [] ?_; simp (implicitDefEqProofs := false) [enc_list, setParamsV, hn, spliceV, hXl]
            obtain ⟨P, hP⟩ : ∃ P, mkM M mi fi es' cl' F' (lastN c + 1) = P := ⟨_, rfl⟩
            have hPn : P.length = n := by rw [← hP]; exact hN _ _ _
            have hPb : ∀ ext, VisB E c all mt S A av kb tb ab vb fb mi fi (P ++ ext) := fun ext => by rw [← hP]; exact hB.next es' cl' F' ext
            have hP0 : VisB E c all mt S A av kb tb ab vb fb mi fi P := by have := hPb []; rwa [List.append_nil] at this
            have hPm : P[mi]? = some (.map es' cl') := by rw [← hP]; exact hB.gm _ _ _ _
            have hPf : P[fi]? = some (.vec (foundC F' (lastN c + 1))) := by rw [← hP]; exact hB.gf _ _ _ _
            have hPs : ∀ es2 cl2 F2 Y, mkM (P ++ Y) mi fi es2 cl2 F2 (lastN c + 1) = mkM M mi fi es2 cl2 F2 (lastN c + 1) ++ Y := fun es2 cl2 F2 Y => by rw [← hP]; exact mkM_mk (by omega) (by omega) hne _ _ _ _ _ _ _ _
            have hPu := hu6 (es := es') (cl := cl') (F := F') T0 h1 (n + 8) (by omega)
            have hLu : ∀ j, n + 7 ≤ j → Lb.und j := fun j hj => objs_any hj (hLb _ (mkF_und (by simp (implicitDefEqProofs := false); omega)))
            rw [hP] at hPu ⊢
            rw [hm1]
            have hPu2 : ∀ o ∈ P ++ (X T0 ++ [Lb, VObj.cells [.int .i64 (m : Int), .int .i64 y]]), o.und (n + 8) := fun o ho => by
              rw [← List.append_assoc] at ho
              rcases List.mem_append.1 ho with ho | ho
              · exact hPu o ho
              · simp only [List.mem_cons, List.not_mem_nil, or_false] at ho
                rcases ho with rfl | rfl
                · exact hLu _ (by omega)
                · simp (implicitDefEqProofs := false)
            have hPl : ∀ b, (P ++ (X b ++ [Lb, VObj.cells [.int .i64 (m : Int), .int .i64 y]])).length = n + 8 := fun b => by simp [hPn, hXl]
            simp only [hX, List.cons_append, List.nil_append] at hPu2 hPl ⊢
            refine VW.block (VW.seq (VW.seq ?_))
            refine VW.run goodV_nil [] ?_; simp (implicitDefEqProofs := false) [enc_list, spc_nil, get_hr hP0.ha, get_pre hPn, get_pre0 hPn]
            unfold VCo
            have hagr := fun ext => hB.agree es' cl' F' (lastN c + 1) ext
            rw [hP] at hagr
            refine hB.al _ (hagr _) (by rw [hPl T0]; exact hPu2) m y _ (by omega) hyb.1 hyb.2 ?_
            intro ext
            have hfin : ∀ (es2 : List (PV × PV × Nat)) (cl2 : Nat) (F2 : Nat → Int → Bool) (b : Bool) (e : VM) (m2 : VM), m2 = mkM M mi fi es2 cl2 F2 (lastN c + 1) ++ (X b ++ Lb :: e) → KnowI c S A need F2 es2 → (∀ a, HasT keyT a es' → HasT keyT a es2) → (A m y = true → HasT keyT ((m : Int), y, R) es2) → (T0 || nextB c S A k x w y) = b → ∃ pre2, (∃ x, m2 = pre2 ++ Lb :: x) ∧ pre2.length = n + 6 ∧ J (i + 1) pre2 := by
              intro es2 cl2 F2 b e m2 hm2 g1 g2 g3 g4
              refine ⟨mkM M mi fi es2 cl2 F2 (lastN c + 1) ++ X b, ⟨e, by rw [hm2]; simp⟩, hl6 _ _ _ _, (hJ _ _).2 ⟨es2, cl2, F2, by rw [htk, g4], g1, fun a h => g2 a (h2 a h), fun z hz ha => ?_⟩⟩
              rcases htm z hz with hz | rfl
              · exact g2 _ (h3 z hz ha)
              · rw [hm1]; rw [hm2'] at ha; exact g3 ha
            simp only [hX, List.cons_append, List.nil_append] at hfin
            cases hAm : A m y
            · simp (implicitDefEqProofs := false) [enc_list]
              refine VW.run goodV_nil [] ?_; simp (implicitDefEqProofs := false) [enc_list]
              obtain ⟨p2, q1, q2, q3⟩ := hfin es' cl' F' T0 _ _ (by rw [hP]) h1 (fun _ h => h) (fun h => by rw [hAm] at h; cases h) (by rw [hnb, hAm, Bool.false_and, Bool.or_false])
              exact ⟨p2, q1, q2, rfl, q3⟩
            · simp (implicitDefEqProofs := false) [enc_list]
              refine VW.run goodV_nil [] ?_; simp (implicitDefEqProofs := false) [enc_list]
              refine .ofCut (l := [(5, .ptr vb 1 0), (13, .ptr (n + 2) 1 0), (14, .ptr (n + 3) 1 0), (15, .ptr (n + 7) 2 0)]) (M := P ++ [.cells [.int .i64 k, .int .i64 x], .cells [.int .i64 k, .int .i64 x, .int .i64 (w : Int)], .cells [.int .i64 (R : Int)], .cells [.bool T0], .cells (triC c all mt), .cells [.int .i64 k, .int .i64 x], Lb, .cells [.int .i64 (m : Int), .int .i64 y]]) ?_ ?_
              · refine cutY (ext := ext) (X := [.cells [.int .i64 k, .int .i64 x], .cells [.int .i64 k, .int .i64 x, .int .i64 (w : Int)], .cells [.int .i64 (R : Int)], .cells [.bool T0], .cells (triC c all mt), .cells [.int .i64 k, .int .i64 x], Lb, .cells [.int .i64 (m : Int), .int .i64 y]]) (hPl T0) (by omega) hPu2 ?_
                simp (implicitDefEqProofs := false)
                omega
              refine VW.run goodV_nil [] ?_; simp (implicitDefEqProofs := false) [enc_list, spc_nil, get_hr hP0.hv, get_pre hPn, get_pre0 hPn]
              unfold VCo
              have hrch : ReachS c S A need ((m : Int), y, R) := by
                have := reach_step c S A hre hkl hmy (by rw [hm2']; exact hAm)
                rw [hR, hm1] at this
                exact this
              have hRl : R < 2 ^ 61 := by
                rw [← hR]; unfold restV
                split
                · exact hw
                · exact anb_lt _ hw
              refine ih (d - 1) (by omega) (m : Int) y R (by omega) (by omega) hyb (fun h => by omega) hRl hrch _ _ (hPb _) (by rw [hPl T0]; exact hPu2) ⟨es', cl', F', get_hr hPm _, get_hr hPf _, h1, ?_⟩
              intro es2 cl2 F2 ext2 g1 g2 g3
              rw [hPs]
              have hP2n : (mkM M mi fi es2 cl2 F2 (lastN c + 1)).length = n := hN _ _ _
              have hnb2 : nextB c S A k x w y = canVis c S A ((m : Int), y, R) := by rw [hnb, hAm, Bool.true_and]
              rw [hnb2] at hfin
              cases hcv : canVis c S A ((m : Int), y, R)
              · simp (implicitDefEqProofs := false) [enc_list, get_pre hP2n, get_pre0 hP2n, set_pre hP2n, spliceV]
                obtain ⟨p2, q1, q2, q3⟩ := hfin es2 cl2 F2 T0 _ _ rfl g1 g2 (fun _ => g3) (by rw [hcv, Bool.or_false])
                exact ⟨p2, q1, q2, rfl, q3⟩
              · simp (implicitDefEqProofs := false) [enc_list, get_pre hP2n, get_pre0 hP2n, set_pre hP2n, spliceV]
                obtain ⟨p2, q1, q2, q3⟩ := hfin es2 cl2 F2 true _ _ rfl g1 g2 (fun _ => g3) (by rw [hcv, Bool.or_true])
                exact ⟨p2, q1, q2, rfl, q3⟩
          · intro pre L ext hj
            obtain ⟨es', cl', F', rfl, h1, h2, h3⟩ := (hJ _ _).1 hj
            rw [hfl, List.take_length] at h3 ⊢
            rw [hVs]
            show _ ∧ _
            refine ⟨rfl, es', cl', F', ⟨h1, fun a b c h => h2 (a, b, c) h, fun y hy => h3 y hy⟩, ?_⟩
            have h4 := hu4 (es := es') (cl := cl') (F := F') V h1 (n + 4) (by omega)
            rw [hX]
            simp only [List.append_assoc, List.cons_append, List.nil_append]
            refine cutY (j := n + 4) (X := [.cells [.int .i64 k, .int .i64 x], .cells [.int .i64 k, .int .i64 x, .int .i64 (w : Int)], .cells [.int .i64 (R : Int)], .cells [.bool V]]) (ext := _ :: _ :: VObj.loop L :: ext) (by rw [List.length_append, hN]; rfl) (by omega) h4 ?_
            simp (implicitDefEqProofs := false)
            omega
          · intro e pre L ext hd; exact hd.elim
        · have hke : k = (lastN c : Int) := by omega
          have hcv : V = B0 := by
            rw [← hV, hke, canVis_last, ← hB0, decide_eq_true hke, Bool.true_and, ← hR, hke]
          subst hcv
          have h4 := hu4 (es := es) (cl := cl) (F := F) V hkn (n + 4) (by omega)
          rw [hMs] at h4
          have hcut : ∀ (fr : VFr) (l : List (Nat × PV)), (∀ x ∈ l, (fr x.1).le x.2 ∧ x.2.und (n + 4) = true) → Cut n fr (M ++ ([.cells [.int .i64 k, .int .i64 x], .cells [.int .i64 k, .int .i64 x, .int .i64 (w : Int)], .cells [.int .i64 (R : Int)], .cells [.bool V]] ++ [])) l (mkM M mi fi es cl F (lastN c + 1) ++ [.cells [.int .i64 k, .int .i64 x], .cells [.int .i64 k, .int .i64 x, .int .i64 (w : Int)], .cells [.int .i64 (R : Int)], .cells [.bool V]]) := fun fr l hs => by
            rw [hMs]; exact cutY (j := n + 4) (by simp [hn]) (by omega) h4 hs
          refine VW.run good [] ?_
          simp (implicitDefEqProofs := false) [enc_list, hn, hlast, get_hr hB.ht, get_pre hn, get_pre0 hn, set_pre hn, spliceV, hkl]
          refine ⟨es, cl, F, ⟨hkn, fun _ _ _ h => h⟩, hcut _ _ ?_⟩
          simp (implicitDefEqProofs := false)
          omega
      · rintro ⟨es2, cl2, F2⟩ ⟨hk2, hmo, hch⟩
        simp only at hk2 hmo hch ⊢
        obtain ⟨f, es3, cl3, hf1, hf2, hok3, hiff⟩ := upd_T cl2 hk2.ok (k, x, w) (v := .bool V) (by rw [hV])
        have hput := know_put hk2 hre hk (by rw [hR]; exact hch) hok3 hiff
        have hcall := fun ext => hK es3 cl3 _ ext hput (fun a h => (hiff a).2 (.inr (hmo a h))) ((hiff _).2 (.inl rfl))
        rw [hV] at hcall
        have hQn : (mkM M mi fi es2 cl2 F2 (lastN c + 1)).length = n := by rw [mkM_len]; exact hn
        have hQb : VisB E c all mt S A av kb tb ab vb fb mi fi (mkM M mi fi es2 cl2 F2 (lastN c + 1)) := by
          have := hB.next es2 cl2 F2 []
          rwa [List.append_nil] at this
        have hQm := hB.gm es2 cl2 F2 (lastN c + 1)
        have hQf := hB.gf es2 cl2 F2 (lastN c + 1)
        have hQs : ∀ F3, ((mkM M mi fi es2 cl2 F2 (lastN c + 1)).set mi (.map es3 cl3)).set fi (.vec (foundC F3 (lastN c + 1))) = mkM M mi fi es3 cl3 F3 (lastN c + 1) := fun F3 => by
          unfold mkM
          rw [List.set_comm _ _ hne.symm, List.set_set, List.set_set]
        have hQs2 : (mkM M mi fi es2 cl2 F2 (lastN c + 1)).set mi (.map es3 cl3) = mkM M mi fi es3 cl3 F2 (lastN c + 1) := by
          unfold mkM
          rw [List.set_comm _ _ hne.symm, List.set_set]
        have hPn : (mkM M mi fi es3 cl3 F2 (lastN c + 1)).length = n := by rw [mkM_len]; exact hn
        have hPb : VisB E c all mt S A av kb tb ab vb fb mi fi (mkM M mi fi es3 cl3 F2 (lastN c + 1)) := by
          have := hB.next es3 cl3 F2 []
          rwa [List.append_nil] at this
        have hPf := hB.gf es3 cl3 F2 (lastN c + 1)
        have hPs : ∀ F3, (mkM M mi fi es3 cl3 F2 (lastN c + 1)).set fi (.vec (foundC F3 (lastN c + 1))) = mkM M mi fi es3 cl3 F3 (lastN c + 1) := fun F3 => by
          rw [← hQs2, hQs]
        obtain ⟨Q, hQ⟩ : ∃ Q, mkM M mi fi es2 cl2 F2 (lastN c + 1) = Q := ⟨_, rfl⟩
        obtain ⟨P, hP⟩ : ∃ P, mkM M mi fi es3 cl3 F2 (lastN c + 1) = P := ⟨_, rfl⟩
        rw [hQ] at hQn hQb hQm hQf hQs2 ⊢
        rw [hP] at hQs2 hPn hPb hPf hPs
        have hmQ : mi < Q.length := by omega
        have hfP : fi < P.length := by omega
        refine VW.seq (VW.run goodV_nil [] ?_); simp (implicitDefEqProofs := false) [enc_list, hn, get_hr hQb.hk, get_hr hQm, get_pre hQn, get_pre0 hQn, mapEsV, hkok, hf1, hf2, hr_set hmQ, hQs2]
        have hz4 : ∀ x y z w : VObj, (P ++ [x, y, z, w]).length = n + 4 := fun x y z w => by simp [hPn]
        by_cases h0 : k = -1
        · have hx1 := hx0 h0
          subst h0
          subst hx1
          rw [show (V && decide ((0 : Int) ≤ -1)) = false by simp, if_neg (by simp), hP] at hcall
          refine VW.run good [] ?_
          cases V
          · simp (implicitDefEqProofs := false) [enc_list, get_pre hPn, get_pre0 hPn]
            exact hcall _
          · simp (implicitDefEqProofs := false) [enc_list, get_pre hPn, get_pre0 hPn]
            exact hcall _
        · have hb0 : (k == -1) = false := by simpa using h0
          cases V
          · rw [show (false && decide (0 ≤ k)) = false by simp, if_neg (by simp), hP] at hcall
            refine VW.run good [] ?_
            simp (implicitDefEqProofs := false) [enc_list, get_pre hPn, get_pre0 hPn, hb0]
            exact hcall _
          · rw [show (true && decide (0 ≤ k)) = true by simp; omega, if_pos rfl] at hcall
            obtain ⟨kn, rfl⟩ : ∃ kn : Nat, k = (kn : Int) := ⟨k.toNat, by omega⟩
            obtain ⟨xi, hxi⟩ : ∃ xi : Nat, x + 30 = (xi : Int) := ⟨(x + 30).toNat, by omega⟩
            have wx : IntKind.i64.wrap (x + 30) = (xi : Int) := by rw [wrap64 (by omega) (by omega), hxi]
            have hkN : kn < lastN c + 1 := by omega
            have hxi61 : xi < 61 := by omega
            have hkN2 : (kn : Int) < (lastN c : Int) + 1 := by omega
            have hx61 : (xi : Int) < 61 := by omega
            have hle61 : kn * 61 + xi + 1 ≤ (lastN c + 1) * 61 := by have := Nat.mul_le_mul_right 61 (show kn + 1 ≤ lastN c + 1 by omega); omega
            have hP3 : (mkM M mi fi es3 cl3 (setF F2 kn x) (lastN c + 1)).length = n := by rw [mkM_len]; exact hn
            have hl61 := foundC_len F2 (lastN c + 1)
            have hset := foundC_set F2 (lastN c + 1) hkN hxi61
            rw [show (xi : Int) - 30 = x by omega] at hset
            rw [Int.toNat_natCast] at hcall
            refine VW.run good [] ?_
            simp (implicitDefEqProofs := false) [enc_list, get_pre hPn, get_pre0 hPn, hb0, get_hr hPb.hf, get_hr hPf, wx, hkN, hkN2, hl61, hle61, hx61, hxi61, hset, hr_set hfP, hPs, get_pre hP3, get_pre0 hP3]
            exact hcall _
    · subst hv
      have hfin := hK es cl F
      rw [hMs] at hfin
      refine VW.run good [] ?_
      simp (implicitDefEqProofs := false) [enc_list, hn, get_hr hB.hk, get_hr hm, get_pre hn, get_pre0 hn, set_pre hn, spliceV, mapEsV, hkok, hf0, lookResV]
      exact hfin _ hkn (fun _ h => h) (find_has hkn.ok hf0)
end
end Go.RS.DC

/- Walks: the program (10): what is found. -/
namespace Go.RS.DC
open Go Go.RS
open Go.RS.Enc (enc dec)
variable {E : VEnv}
section
variable {c : Case} {all : Int} {mt : Nat} {S : Says2} {A : Allow} {ag : Nat} {acap : List PV}
theorem undL_any {j j' : Nat} (h : j ≤ j') : ∀ {l : List PV}, PV.undL j l = true → PV.undL j' l = true
  | [], _ => rfl
  | v :: l, hl => by
    simp only [PV.undL, Bool.and_eq_true] at hl ⊢
    exact ⟨und_any h hl.1, undL_any h hl.2⟩
theorem spc_capt (sp : Spec) (M : VM) (f : Nat) (c : PV) (cs args : List PV) : spc sp M (.func f [] (c :: cs)) args = none := rfl
theorem rows0 (N : Nat) : List.map (fun i => PV.ofS (([Value.bool false, Value.bool false, Value.bool false, Value.bool false, Value.bool false, Value.bool false, Value.bool false, Value.bool false, Value.bool false, Value.bool false, Value.bool false, Value.bool false, Value.bool false, Value.bool false, Value.bool false, Value.bool false, Value.bool false, Value.bool false, Value.bool false, Value.bool false, Value.bool false, Value.bool false, Value.bool false, Value.bool false, Value.bool false, Value.bool false, Value.bool false, Value.bool false, Value.bool false, Value.bool false, Value.bool false, Value.bool false, Value.bool false, Value.bool false, Value.bool false, Value.bool false, Value.bool false, Value.bool false, Value.bool false, Value.bool false, Value.bool false, Value.bool false, Value.bool false, Value.bool false, Value.bool false, Value.bool false, Value.bool false, Value.bool false, Value.bool false, Value.bool false, Value.bool false, Value.bool false, Value.bool false, Value.bool false, Value.bool false, Value.bool false, Value.bool false, Value.bool false, Value.bool false, Value.bool false, Value.bool false] : List Value)[i % 61]?.getD undef)) (List.range (N * 61)) = foundC (fun _ _ => false) N := by
  unfold foundC
  apply List.map_congr_left
  intro i hi
  have e : ([Value.bool false, Value.bool false, Value.bool false, Value.bool false, Value.bool false, Value.bool false, Value.bool false, Value.bool false, Value.bool false, Value.bool false, Value.bool false, Value.bool false, Value.bool false, Value.bool false, Value.bool false, Value.bool false, Value.bool false, Value.bool false, Value.bool false, Value.bool false, Value.bool false, Value.bool false, Value.bool false, Value.bool false, Value.bool false, Value.bool false, Value.bool false, Value.bool false, Value.bool false, Value.bool false, Value.bool false, Value.bool false, Value.bool false, Value.bool false, Value.bool false, Value.bool false, Value.bool false, Value.bool false, Value.bool false, Value.bool false, Value.bool false, Value.bool false, Value.bool false, Value.bool false, Value.bool false, Value.bool false, Value.bool false, Value.bool false, Value.bool false, Value.bool false, Value.bool false, Value.bool false, Value.bool false, Value.bool false, Value.bool false, Value.bool false, Value.bool false, Value.bool false, Value.bool false, Value.bool false, Value.bool false] : List Value) = List.replicate 61 (Value.bool false) := rfl
  rw [e, List.getElem?_replicate, if_pos (Nat.mod_lt _ (by decide))]
  rfl
theorem atoms_bools : ∀ l : List Bool, atomsEqV (List.replicate l.length AK.bool) (l.map PV.bool) (List.replicate l.length (PV.bool false)) = some (!l.any id)
  | [] => rfl
  | b :: l => by
    rw [List.length_cons, List.replicate_succ, List.replicate_succ, List.map_cons, atomsEqV, atoms_bools l]
    cases b <;> simp [atomEqV]
def rowB (F : Nat → Int → Bool) : Bool := (List.range 61).any fun i => F 0 ((i : Nat) - 30)
theorem row_take (F : Nat → Int → Bool) (N : Nat) (hN : 1 ≤ N) : List.take 61 (foundC F N) = ((List.range 61).map fun i => F 0 ((i : Nat) - 30)).map PV.bool := by
  apply List.ext_getElem?
  intro i
  by_cases hi : i < 61
  · have h2 : i < N * 61 := by omega
    rw [List.getElem?_take_of_lt hi]
    unfold foundC
    rw [List.getElem?_map, List.getElem?_range h2, List.getElem?_map, List.getElem?_map, List.getElem?_range hi]
    have e1 : i / 61 = 0 := Nat.div_eq_of_lt hi
    have e2 : i % 61 = i := Nat.mod_eq_of_lt hi
    have e3 : (i : Int) % 61 = i := by omega
    simp [e1, e2, e3]
  · rw [List.getElem?_eq_none (by rw [List.length_take]; omega), List.getElem?_eq_none (by simp; omega)]
theorem row_eq (F : Nat → Int → Bool) (N : Nat) (hN : 1 ≤ N) : atomsEqV [AK.bool, AK.bool, AK.bool, AK.bool, AK.bool, AK.bool, AK.bool, AK.bool, AK.bool, AK.bool, AK.bool, AK.bool, AK.bool, AK.bool, AK.bool, AK.bool, AK.bool, AK.bool, AK.bool, AK.bool, AK.bool, AK.bool, AK.bool, AK.bool, AK.bool, AK.bool, AK.bool, AK.bool, AK.bool, AK.bool, AK.bool, AK.bool, AK.bool, AK.bool, AK.bool, AK.bool, AK.bool, AK.bool, AK.bool, AK.bool, AK.bool, AK.bool, AK.bool, AK.bool, AK.bool, AK.bool, AK.bool, AK.bool, AK.bool, AK.bool, AK.bool, AK.bool, AK.bool, AK.bool, AK.bool, AK.bool, AK.bool, AK.bool, AK.bool, AK.bool, AK.bool] (List.take 61 (foundC F N)) [PV.bool false, PV.bool false, PV.bool false, PV.bool false, PV.bool false, PV.bool false, PV.bool false, PV.bool false, PV.bool false, PV.bool false, PV.bool false, PV.bool false, PV.bool false, PV.bool false, PV.bool false, PV.bool false, PV.bool false, PV.bool false, PV.bool false, PV.bool false, PV.bool false, PV.bool false, PV.bool false, PV.bool false, PV.bool false, PV.bool false, PV.bool false, PV.bool false, PV.bool false, PV.bool false, PV.bool false, PV.bool false, PV.bool false, PV.bool false, PV.bool false, PV.bool false, PV.bool false, PV.bool false, PV.bool false, PV.bool false, PV.bool false, PV.bool false, PV.bool false, PV.bool false, PV.bool false, PV.bool false, PV.bool false, PV.bool false, PV.bool false, PV.bool false, PV.bool false, PV.bool false, PV.bool false, PV.bool false, PV.bool false, PV.bool false, PV.bool false, PV.bool false, PV.bool false, PV.bool false, PV.bool false] = some (!rowB F) := by
  rw [row_take F N hN]
  have := atoms_bools ((List.range 61).map fun i => F 0 ((i : Nat) - 30))
  rw [List.length_map, List.length_range, List.any_map] at this
  exact this
/-- How the spots that are allowed are called, in each memory that has grown. -/
def AlOk (E : VEnv) (c : Case) (A : Allow) (av : PV) (M : VM) : Prop := ∀ M', (∀ (i : Nat) (o : VObj), M[i]? = some o → M'[i]? = some o) → (∀ o ∈ M', o.und M'.length) → ∀ (k : Nat) (y : Int) (K : PV → VM → Prop), k ≤ lastN c → -30 ≤ y → y ≤ 30 → (∀ ext, K (.bool (A k y)) (M' ++ ext)) → VC E false av [spotV k y] M' K
abbrev thrC (c : Case) (all : Int) (mt ag : Nat) (acap : List PV) (n : Nat) (F : Nat → Int → Bool) (es : List (PV × PV × Nat)) (cl : Nat) : VM := [.cells (triC c all mt), .cells [.func ag [] acap], .vec (foundC F (lastN c + 1)), .cells [.sl (n + 2) ((lastN c + 1) * 61) 0 (lastN c + 1) (lastN c + 1) 61], .map es cl, .cells [.map (n + 4)], .cells [visC (n + 5) n (n + 1) (n + 6) (n + 3)]]
set_option maxHeartbeats 3200000 in
set_option maxRecDepth 20000 in
theorem vc_through (hE : E.env.fn = G) (o : CaseOk c) (hok : okK c = true) (hall : allR c.Calendar = all) (hS : ∀ k x, S k x < 2 ^ 61) {need : Nat} (hneed : need < 2 ^ 61) {M : VM} {n : Nat} {K : PV → VM → Prop} (hn : M.length = n) (hu : ∀ o ∈ M, o.und n) (hav : PV.undL n acap = true)
    (hs : ∃ es cl, M[mt]? = some (.map es cl) ∧ SayM S es cl) (al : AlOk E c A (.func ag [] acap) M)
    (hK : ∀ F es cl ext, KnowI c S A need F es → HasT keyT (-1, 0, need) es → K (.tup [if rowB F then .sl (n + 2) ((lastN c + 1) * 61) 0 (lastN c + 1) (lastN c + 1) 61 else .nilS, .map (n + 4)]) (M ++ (thrC c all mt ag acap n F es cl ++ ext))) :
    VC E false (.func 42 [] []) [triV c all mt, .int .i64 need, .func ag [] acap] M K := by
  refine VC.func (A := F42) (by rw [hE]; rfl) (by simp [F42]) ?_
  have good := goodV_cons (k_last hE) (goodV_cons (k_begin hE) goodV_nil)
  have hlast : lastF (triK c all) = some ((lastN c : Nat) : Int) := if_pos ⟨hok, hall.symm⟩
  have st := o.st
  have w1 : IntKind.i64.wrap (((lastN c : Nat) : Int) + 1) = ((lastN c + 1 : Nat) : Int) := by rw [wrap64 (by omega) (by omega)]; omega
  unfold F42
  refine VW.seq (VW.run good [] ?_); simp (implicitDefEqProofs := false) [enc_list, hn]
  have q1 : (0 : Int) ≤ ((lastN c : Nat) : Int) + 1 := by omega
  have q2 : (lastN c + 1) * 61 ≤ 1099511627776 := by omega
  have q3 : lastN c ≤ 1099511627775 := by omega
  have q4 : ¬ ((lastN c : Nat) : Int) + 1 = 0 := by omega
  refine VW.seq (VW.run good [] ?_); simp (implicitDefEqProofs := false) [enc_list, hn, get_pre hn, get_pre0 hn, set_pre hn, spliceV, hlast, w1, q1, q2, q3, q4, rows0]
  refine VW.seq (VW.run good [] ?_); simp (implicitDefEqProofs := false) [enc_list, hn, get_pre hn, get_pre0 hn, set_pre hn, spliceV]
  refine VW.seq (VW.run good [] ?_); simp (implicitDefEqProofs := false) [enc_list, hn, get_pre hn, get_pre0 hn, set_pre hn, spliceV]
  refine VW.seq (VW.run good [] ?_); simp (implicitDefEqProofs := false) [enc_list, hn, get_pre hn, get_pre0 hn, set_pre hn, spliceV]
  have hvb : VisB E c all mt S A (.func ag [] acap) (n + 5) n (n + 1) (n + 6) (n + 3) (n + 4) (n + 2) (M ++ thrC c all mt ag acap n (fun _ _ => false) [] 0) := by
    obtain ⟨es0, cl0, hs0, hs1⟩ := hs
    have lmt := len_hr hs0
    refine ⟨?_, ?_, ?_, ?_, ?_, ⟨es0, cl0, get_hr hs0 _, hs1⟩, ⟨[], 0, ?_⟩, ⟨foundC (fun _ _ => false) (lastN c + 1), ?_⟩, by omega, fun M' ha hu' k y K => ?_⟩
    · rw [get_pre hn]; rfl
    · rw [get_pre0 hn]; rfl
    · rw [get_pre hn]; rfl
    · rw [get_pre hn]; rfl
    · rw [get_pre hn]; rfl
    · rw [get_pre hn]; rfl
    · rw [get_pre hn]; rfl
    · refine al M' (fun i o ho => ?_) hu' k y K
      have := len_hr ho
      exact ha i o (get_hr ho _) (by omega) (by omega)
  have lmt : mt < n := by
    obtain ⟨es0, cl0, hs0, _⟩ := hs
    have := len_hr hs0
    omega
  have hu7 : ∀ o ∈ M ++ thrC c all mt ag acap n (fun _ _ => false) [] 0, o.und (M ++ thrC c all mt ag acap n (fun _ _ => false) [] 0).length := by
    have hl : (M ++ thrC c all mt ag acap n (fun _ _ => false) [] 0).length = n + 7 := by simp [hn]
    rw [hl]
    intro x hx
    rcases List.mem_append.1 hx with hx | hx
    · exact objs_any (by omega) (hu x hx)
    · simp only [List.mem_cons, List.not_mem_nil, or_false] at hx
      rcases hx with rfl | rfl | rfl | rfl | rfl | rfl | rfl
      · simp (implicitDefEqProofs := false) [enc_list]; omega
      · have := undL_any (show n ≤ n + 7 by omega) hav
        simp (implicitDefEqProofs := false) [this]
      · trivial
      · simp (implicitDefEqProofs := false)
      · simp (implicitDefEqProofs := false)
      · simp (implicitDefEqProofs := false)
      · simp (implicitDefEqProofs := false)
  refine VW.seq (VW.run good [] ?_)
  simp (implicitDefEqProofs := false) [enc_list, hn, get_pre hn, get_pre0 hn, set_pre hn, spliceV, spc_capt]
  unfold VCo
  refine vc_visit (need := need) hE o hok hall hS (lastN c + 1) (-1) 0 need (by omega) (by omega) (by omega) (fun _ => rfl) hneed (.inl rfl) _ _ hvb hu7 ⟨[], 0, fun _ _ => false, ?_, ?_, know_nil c S A need, ?_⟩
  · rw [get_pre hn]; rfl
  · rw [get_pre hn]; rfl
  intro es cl F ext g1 g2 g3
  have hfin := hK F es cl ext g1 g3
  have hmm : mkM (M ++ thrC c all mt ag acap n (fun _ _ => false) [] 0) (n + 4) (n + 2) es cl F (lastN c + 1) = M ++ thrC c all mt ag acap n F es cl := by
    unfold mkM
    rw [set_pre hn, set_pre hn]; rfl
  rw [hmm, List.append_assoc]
  have hrow := row_eq F (lastN c + 1) (by omega)
  have hl61 := foundC_len F (lastN c + 1)
  have q5 : 61 ≤ (lastN c + 1) * 61 := by omega
  cases hr : rowB F
  · rw [hr] at hfin hrow
    simp (implicitDefEqProofs := false) [enc_list]
    refine VW.run good [] ?_
    simp (implicitDefEqProofs := false) [enc_list, hn, get_pre hn, get_pre0 hn, set_pre hn, spliceV, q4, q5, hl61, hrow]
    exact hfin
  · rw [hr] at hfin hrow
    simp (implicitDefEqProofs := false) [enc_list]
    refine VW.run good [] ?_
    simp (implicitDefEqProofs := false) [enc_list, hn, get_pre hn, get_pre0 hn, set_pre hn, spliceV, q4, q5, hl61, hrow]
    exact hfin
end
end Go.RS.DC

/- Walks: the program (11): cases asked. -/
namespace Go.RS.DC
open Go Go.RS
open Go.RS.Enc (enc dec)
variable {E : VEnv}
theorem row_can {c : Case} {S : Says2} {A : Allow} {need : Nat} (o : CaseOk c) {F : Nat → Int → Bool} (h : ∀ x, F 0 x = foundB c S A need 0 x) : rowB F = canB c S A need := by
  have f0 := o.f0
  have f2 := o.f2
  rw [Bool.eq_iff_iff]
  unfold rowB canB
  rw [List.any_eq_true, List.any_eq_true]
  constructor
  · rintro ⟨i, hi, h1⟩
    rw [h] at h1
    unfold foundB at h1
    rw [List.any_eq_true] at h1
    obtain ⟨⟨y, n⟩, hm, h2⟩ := h1
    rw [reachL, List.mem_map] at hm
    obtain ⟨z, hz, he⟩ := hm
    simp only [Prod.mk.injEq] at he
    obtain ⟨rfl, rfl⟩ := he
    rw [List.mem_filter] at hz
    simp only [Bool.and_eq_true, Nat.sub_zero] at h2
    exact ⟨z, hz.1, by rw [Bool.and_eq_true]; exact ⟨hz.2, h2.2⟩⟩
  · rintro ⟨y, hy, h1⟩
    rw [Bool.and_eq_true] at h1
    have hb := mem_offsL.1 hy
    refine ⟨(y + 30).toNat, List.mem_range.2 (by omega), ?_⟩
    rw [h, show (((y + 30).toNat : Nat) : Int) - 30 = y by omega]
    unfold foundB
    rw [List.any_eq_true]
    refine ⟨(y, need), ?_, by simp [h1.2]⟩
    rw [reachL, List.mem_map]
    exact ⟨y, List.mem_filter.2 ⟨hy, h1.1⟩, rfl⟩
theorem al_any (hE : E.env.fn = G) {c : Case} {M : VM} : AlOk E c anyA (.func 44 [] []) M := fun M' _ _ k y K _ _ _ hK => by
  refine spc_vc (goodV_cons (k_whatever hE) goodV_nil) (r := .bool true) ?_ (by have := hK []; rwa [List.append_nil] at this)
  simp (implicitDefEqProofs := false) [enc_list]
abbrev askC (c : Case) (n : Nat) (es : List (PV × PV × Nat)) (cl : Nat) (F : Nat → Int → Bool) (es2 : List (PV × PV × Nat)) (cl2 : Nat) : VM :=
  [ccl c, .cells (triC c (allR c.Calendar) (n + 4)), ccl c, .cells (triC c (allR c.Calendar) (n + 4)), .map es cl, .cells (triC c (allR c.Calendar) (n + 4)), .cells (triC c (allR c.Calendar) (n + 4))] ++ thrC c (allR c.Calendar) (n + 4) 44 [] (n + 7) F es2 cl2
set_option maxHeartbeats 3200000 in
set_option maxRecDepth 20000 in
theorem vc_asked (hE : E.env.fn = G) (hgl : E.gl 1 = some [f130v, f131v]) {c : Case} {M : VM} {n rg : Nat} {rcap : List PV} {b : Bool} {K : PV → VM → Prop} (hn : M.length = n) (hu : ∀ o ∈ M, o.und n) (hrc : PV.undL n rcap = true)
    (hr : okK c = true → ∀ M', (∀ (i : Nat) (o : VObj), M[i]? = some o → M'[i]? = some o) → (∀ o ∈ M', o.und M'.length) → ∀ K : PV → VM → Prop, (∀ ext, K (.bool b) (M' ++ ext)) → VC E false (.func rg [] rcap) [triV c (allR c.Calendar) (n + 4)] M' K)
    (hK0 : askedK c b ≠ 0 → ∀ ext, K (.tup [.agg zeroC, .nilS, .int .i64 (askedK c b)]) (M ++ ext))
    (hK1 : okK c = true → askedK c b = 0 → ∀ es cl F es2 cl2 ext, SayM (saysK c) es cl → (∀ k ≤ lastN c, ∀ x, F k x = foundB c (saysK c) anyA (fullK c) k x) → KnowI c (saysK c) anyA (fullK c) F es2 → HasT keyT (-1, 0, fullK c) es2 →
      K (.tup [triV c (allR c.Calendar) (n + 4), .sl (n + 9) ((lastN c + 1) * 61) 0 (lastN c + 1) (lastN c + 1) 61, .int .i64 0]) (M ++ (askC c n es cl F es2 cl2 ++ ext))) :
    VC E false (.func 37 [] []) [enc c, .func rg [] rcap] M K := by
  refine VC.func (A := F37) (by rw [hE]; rfl) (by simp [F37]) ?_
  unfold F37
  refine VW.seq (VW.run goodV_nil [] ?_); simp (implicitDefEqProofs := false) [enc_list, hn, spliceV]
  refine VW.seq (VW.run goodV_nil [] ?_)
  simp (implicitDefEqProofs := false) [enc_list, hn, get_pre hn, get_pre0 hn, set_pre hn, spliceV]
  unfold VCo
  have hu2 : ∀ o ∈ M ++ [ccl c, .cells zeroC], o.und (n + 2) := fun x hx => by
    rcases List.mem_append.1 hx with hx | hx
    · exact objs_any (by omega) (hu x hx)
    · simp only [List.mem_cons, List.not_mem_nil, or_false] at hx
      rcases hx with rfl | rfl
      · simp (implicitDefEqProofs := false) [enc_list]
      · simp (implicitDefEqProofs := false)
  refine vc_opened hE hgl (n := n + 2) (by simp [hn]) hu2 (fun ho => ?_) (fun ho es cl hs => ?_)
  · have ha : askedK c b = 100 := by unfold askedK; rw [ho]; rfl
    have hfin := hK0 (by rw [ha]; decide)
    rw [ha] at hfin
    rw [List.append_assoc]
    simp (implicitDefEqProofs := false) [enc_list, hn, get_pre hn, get_pre0 hn, set_pre hn, spliceV]
    refine VW.run goodV_nil [] ?_
    simp (implicitDefEqProofs := false) [enc_list, hn, get_pre hn, get_pre0 hn, set_pre hn, spliceV]
    exact hfin _
  · have o := okK_ok ho
    obtain ⟨all, hall⟩ : ∃ all, allR c.Calendar = all := ⟨_, rfl⟩
    rw [hall] at hr hK1 ⊢
    rw [show n + 2 + 2 = n + 4 from rfl, List.append_assoc]
    simp (implicitDefEqProofs := false) [enc_list, hn, get_pre hn, get_pre0 hn, set_pre hn, spliceV]
    refine VW.seq (VW.run goodV_nil [] ?_); simp (implicitDefEqProofs := false) [enc_list, hn, get_pre hn, get_pre0 hn, set_pre hn, spliceV]
    have l6 := o.l6
    have hfull : fullF (triK c all) = some ((fullK c : Nat) : Int) := if_pos l6
    obtain ⟨M7, hM7⟩ : ∃ M7 : VM, M7 = M ++ [ccl c, .cells zeroC, ccl c, .cells (triC c all (n + 4)), .map es cl, .cells (triC c all (n + 4)), .cells (triC c all (n + 4))] := ⟨_, rfl⟩
    have hl7 : M7.length = n + 7 := by rw [hM7]; simp [hn]
    have hu7 : ∀ x ∈ M7, x.und (n + 7) := fun x hx => by
      rw [hM7] at hx
      rcases List.mem_append.1 hx with hx | hx
      · exact objs_any (by omega) (hu x hx)
      · simp only [List.mem_cons, List.not_mem_nil, or_false] at hx
        rcases hx with rfl | rfl | rfl | rfl | rfl | rfl | rfl
        · simp (implicitDefEqProofs := false) [enc_list]
        · simp (implicitDefEqProofs := false)
        · simp (implicitDefEqProofs := false) [enc_list]
        · simp (implicitDefEqProofs := false) [enc_list]
        · exact sayM_und hs _ _
        · simp (implicitDefEqProofs := false) [enc_list]
        · simp (implicitDefEqProofs := false) [enc_list]
    refine VW.seq (VW.seq (VW.run goodV_nil [] ?_))
    simp (implicitDefEqProofs := false) [enc_list, spc_nil, hn, get_pre hn, get_pre0 hn, set_pre hn, spliceV]
    unfold VCo
    show VC E false _ _ (M ++ [ccl c, .cells zeroC, ccl c, .cells (triC c all (n + 4)), .map es cl, .cells (triC c all (n + 4)), .cells (triC c all (n + 4))]) _
    rw [← hM7]
    refine hr ho M7 (fun i o h => by rw [hM7]; exact get_hr h _) (by rw [hl7]; exact hu7) _ (fun ext => ?_)
    cases b
    · have ha : askedK c false = 101 := by unfold askedK; rw [ho]; rfl
      have hfin := hK0 (by rw [ha]; decide)
      rw [ha] at hfin
      rw [hM7, List.append_assoc]
      simp (implicitDefEqProofs := false) [enc_list]
      refine VW.run goodV_nil [] ?_
      simp (implicitDefEqProofs := false) [enc_list, hn, get_pre hn, get_pre0 hn, set_pre hn, spliceV]
      exact hfin _
    · simp (implicitDefEqProofs := false) [enc_list]
      refine VW.run goodV_nil [] ?_
      simp (implicitDefEqProofs := false) [enc_list]
      refine .ofCut (l := [(7, .ptr (n + 6) 14 0), (4, .ptr (n + 1) 14 0)]) (M := M7) (cut_pre' hl7 (by omega) hu7 (by simp (implicitDefEqProofs := false))) ?_
      rw [hM7]
      refine VW.seq (VW.run (goodV_cons (k_full hE) goodV_nil) [] ?_)
      simp (implicitDefEqProofs := false) [enc_list, hn, get_pre hn, get_pre0 hn, set_pre hn, spliceV, hfull]
      unfold VCo
      show VC E false _ _ (M ++ [ccl c, .cells zeroC, ccl c, .cells (triC c all (n + 4)), .map es cl, .cells (triC c all (n + 4)), .cells (triC c all (n + 4))]) _
      rw [← hM7]
      have hSb : ∀ k x, saysK c k x < 2 ^ 61 := fun k x => Nat.lt_of_lt_of_le (saysK_lt c k x) (Nat.pow_le_pow_right (by decide) (by omega))
      have hfb : fullK c < 2 ^ 61 := by
        unfold fullK
        have : (2 : Nat) ^ c.Log.length ≤ 2 ^ 6 := Nat.pow_le_pow_right (by decide) l6
        omega
      refine vc_through hE o ho hall hSb hfb hl7 hu7 rfl ⟨es, cl, by rw [hM7, get_pre hn]; rfl, hs⟩ (al_any hE) ?_
      intro F es2 cl2 ext2 g1 g2
      have hfd : ∀ k ≤ lastN c, ∀ x, F k x = foundB c (saysK c) anyA (fullK c) k x := fun k hk x => know_found c (saysK c) anyA g1 g2 hk x
      have hrow : rowB F = canK c := row_can o (fun x => hfd 0 (Nat.zero_le _) x)
      rw [hM7, List.append_assoc]
      cases hc : canK c
      · have ha : askedK c true = 102 := by unfold askedK; rw [ho, hc]; rfl
        have hfin := hK0 (by rw [ha]; decide)
        rw [ha] at hfin
        rw [hrow, hc]
        simp (implicitDefEqProofs := false) [enc_list]
        refine VW.run goodV_nil [] ?_
        simp (implicitDefEqProofs := false) [enc_list, hn, get_pre hn, get_pre0 hn, set_pre hn, spliceV]
        exact hfin _
      · have ha : askedK c true = 0 := by unfold askedK; rw [ho, hc]; rfl
        have hfin := hK1 ho ha es cl F es2 cl2 ext2 hs hfd g1 g2
        rw [hrow, hc]
        have q4 : ¬ ((lastN c : Nat) : Int) + 1 = 0 := by omega
        simp (implicitDefEqProofs := false) [enc_list]
        refine VW.run goodV_nil [] ?_
        simp (implicitDefEqProofs := false) [enc_list, hn, get_pre hn, get_pre0 hn, set_pre hn, spliceV, q4]
        unfold askC at hfin
        rw [hall] at hfin
        exact hfin
end Go.RS.DC

