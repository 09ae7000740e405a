/- Walks: the program (12): the errors of a tick. -/
import Derived.Test.YtmlogniaahnamaaDoorCwa
set_option linter.all false
namespace Go.RS.DC
open Go Go.RS
open Go.RS.Enc (enc dec)
variable {E : VEnv}
def ofL : Nat → List Bool → List Int
  | _, [] => []
  | k, b :: l => if b then ((k : Int) - 30) :: ofL (k + 1) l else ofL (k + 1) l
theorem ofL_len : ∀ (l : List Bool) (k : Nat), (ofL k l).length ≤ l.length
  | [], _ => Nat.le_refl _
  | b :: l, k => by
    rw [ofL]
    have := ofL_len l (k + 1)
    split <;> simp only [List.length_cons] <;> omega
theorem encL_bool : ∀ (l : List Bool) (k : Nat) (h : k < l.length), (encL l)[k]? = some (.bool l[k])
  | b :: l, 0, h => rfl
  | b :: l, k + 1, h => by
    have := encL_bool l k (by simpa using h)
    rw [show encL (b :: l) = PV.bool b :: encL l from rfl, List.getElem?_cons_succ, this]; rfl
set_option maxRecDepth 20000 in
theorem k_of (hE : E.env.fn = G) : Ok E 49 (s1 fun (a : Arr 61 Bool) => some (ofL 0 a.l)) := by
  refine ok1 fun a r hr => ?_
  cases hr
  have h61 : (encL a.l).length = 61 := by rw [encL_length, a.h]; rfl
  have ht : List.take 61 (encL a.l) = encL a.l := List.take_of_length_le (by omega)
  have hal := a.h
  have hU : ∀ j, PV.undL j (encL a.l) = true := fun j => undL_isF (encL_isF a.l)
  have hU2 : ∀ j, ∀ v ∈ encL a.l, v.und j = true := fun j => undL_mem (hU j)
  have hU3 : (∀ v ∈ encL a.l, v.und 2 = true) = True := eq_true (hU2 2)
  refine VP.func (A := F49) (by rw [hE]; rfl) (by simp [F49]) ?_; unfold F49
  refine VW.seq (VW.run goodV_nil [] ?_); simp (implicitDefEqProofs := false) [enc_list, enc_Arr, h61]
  refine VW.seq (VW.run goodV_nil [] ?_); simp (implicitDefEqProofs := false) [enc_list]
  refine VW.declare 3 1 (by simp) ?_
  generalize hT : ofL 0 a.l = T
  refine VW.seq (VW.run goodV_nil [] ?_); simp (implicitDefEqProofs := false) [enc_list, h61, ht]
  refine VW.loop_to 0 [(3, sl1 1 T)] [.cells (encL a.l), .vec (encL T)] (True) ?_ (fun hp f m hc => ?_)
  · obtain ⟨Inv, hI⟩ : ∃ Inv : Nat → List (Nat × PV) → VM → Prop, ∀ k f m, Inv k f m ↔ (∃ out : List Int, f = [(1, .ptr 0 61 0), (3, sl1 1 out), (6, .agg (encL a.l)), (7, .int .i64 k)] ∧ m = [.cells (encL a.l), .vec (encL out)] ∧ out.length ≤ k ∧ T = out ++ ofL k (a.l.drop k)) := ⟨_, fun _ _ _ => Iff.rfl⟩
    refine VW.loop_cut Inv 61 ?_ ?_ ?_
    · exact ⟨_, _, (hI _ _ _).2 ⟨[], rfl, rfl, Nat.le_refl _, by rw [List.drop_zero]; exact hT.symm⟩, ⟨2, [], by simp [enc_list,  hU3, hU], by simp, by simp, by simp (implicitDefEqProofs := false) [enc_list,  hU3, hU], by simp (implicitDefEqProofs := false) [enc_list,  hU3, hU]⟩⟩
    · intro k f m hk hi
      obtain ⟨out, rfl, rfl, hl, hs⟩ := (hI _ _ _).1 hi
      have w1 : IntKind.i64.wrap ((k : Int) + 1) = k + 1 := wrap64 (by omega) (by omega)
      have w2 : IntKind.i64.wrap ((k : Int) - 30) = k - 30 := wrap64 (by omega) (by omega)
      have hf : fits (out.length + 1) 8 = true := fits8L (by omega)
      have hkl : k < a.l.length := by omega
      rw [List.drop_eq_getElem_cons hkl, ofL] at hs
      have hg := encL_bool a.l k hkl
      have hk' : (k : Int) < 61 := by omega
      have hg2 : (encL a.l)[k]'(by omega) = PV.bool a.l[k] := by
        rw [List.getElem?_eq_getElem (by omega)] at hg
        exact Option.some.inj hg
      cases hb : a.l[k]
      · rw [hb] at hs hg2
        refine VW.run goodV_nil [] ?_; simp (implicitDefEqProofs := false) [enc_list, hk, hk', hg2, h61, hf, w1, w2, spliceV]
        exact ⟨_, _, (hI _ _ _).2 ⟨out, rfl, rfl, by omega, hs⟩, ⟨2, [], by simp [enc_list,  hU3, hU], by simp, by simp, by simp (implicitDefEqProofs := false) [enc_list,  hU3, hU], by simp (implicitDefEqProofs := false) [enc_list,  hU3, hU]⟩⟩
      · rw [hb] at hs hg2
        refine VW.run goodV_nil [] ?_; simp (implicitDefEqProofs := false) [enc_list, hk, hk', hg2, h61, hf, w1, w2, spliceV]
        have e1 : (out ++ [(k : Int) - 30]).length = out.length + 1 := by simp
        exact ⟨_, _, (hI _ _ _).2 ⟨out ++ [(k : Int) - 30], rfl, rfl, by rw [e1]; omega, by rw [hs]; simp⟩, ⟨2, [], by simp [enc_list,  hU3, hU, e1], by simp, by simp, by simp (implicitDefEqProofs := false) [enc_list,  hU3, hU, e1], by simp (implicitDefEqProofs := false) [enc_list,  hU3, hU, e1]⟩⟩
    · intro f m hi
      obtain ⟨out, rfl, rfl, hl, hs⟩ := (hI _ _ _).1 hi
      rw [List.drop_of_length_le (by omega), ofL, List.append_nil] at hs
      subst hs
      refine VW.run goodV_nil [] ?_; simp (implicitDefEqProofs := false) [enc_list]
      exact ⟨2, [], by simp [enc_list,  hU3, hU], by simp, by simp, by simp (implicitDefEqProofs := false) [enc_list,  hU3, hU], by simp (implicitDefEqProofs := false) [enc_list,  hU3, hU]⟩
  · simp (implicitDefEqProofs := false); refine .ofCut hc (VW.run goodV_nil [] ?_); simp (implicitDefEqProofs := false) [enc_list]
end Go.RS.DC

/- Walks: the program (13): Errors. -/
namespace Go.RS.DC
open Go Go.RS
open Go.RS.Enc (enc dec)
variable {E : VEnv}
theorem slV_al (n : Nat) : slV n none (some (PV.int .i64 n)) (some (PV.int .i64 n)) = some (0, n, some n) := by
  simp [slV, boundV, numV, mOk]
theorem take_al (l : List Int) : List.take l.length (encL l) = encL l := List.take_of_length_le (by rw [encL_length]; exact Nat.le_of_eq (Nat.mul_one _))
theorem fzL_bools (M : VM) : ∀ l : List Bool, PV.fzL M (encL l) = encL l
  | [] => rfl
  | x :: l => by
    have e : encL (x :: l) = .bool x :: encL l := rfl
    rw [e, PV.fzL, fzL_bools M l]
    simp
theorem vc_err1 (hE : E.env.fn = G) {c : Case} (ho : okK c = true) {mt tb : Nat} {t : Int} {M : VM} (ht : M[tb]? = some (.cells [.int .i64 t])) {K : PV → VM → Prop} (hK : ∀ ext, K (.bool (isTickK c t)) (M ++ ext)) :
    VC E false (.func 47 [] [.ptr tb 1 0]) [triV c (allR c.Calendar) mt] M K := by
  have o := okK_ok ho
  have a1 := o.a1
  have a2 := o.a2
  have w1 : IntKind.i64.wrap (allR c.Calendar - 1) = allR c.Calendar - 1 := wrap64 (by omega) (by omega)
  generalize hn : M.length = n at *
  refine VC.func (A := F47) (by rw [hE]; rfl) (by simp [F47]) ?_
  unfold F47
  refine VW.run (goodV_cons (k_lies hE) goodV_nil) [] ?_
  have hz : ∀ x : VObj, (M ++ [x]).length = n + 1 := fun x => by simp [hn]
  simp (implicitDefEqProofs := false) [enc_list, hn, get_hr ht, get_pre hn, get_pre0 hn, w1]
  exact hK _
def rowA (F : Nat → Int → Bool) (k : Nat) : Arr 61 Bool := ⟨(List.range 61).map fun i => F k ((i : Nat) - 30), by simp⟩
theorem row_at (F : Nat → Int → Bool) (N : Nat) {k : Nat} (hk : k < N) : List.take 61 (List.drop (k * 61) (foundC F N)) = encL (rowA F k).l := by
  have hlt : (k + 1) * 61 ≤ N * 61 := Nat.mul_le_mul_right _ hk
  have hl := foundC_len F N
  apply List.ext_getElem?
  intro i
  by_cases hi : i < 61
  · have hrow : (rowA F k).l.length = 61 := (rowA F k).h
    rw [encL_bool _ i (by omega), List.getElem?_take_of_lt hi, List.getElem?_drop]
    unfold foundC
    rw [List.getElem?_map, List.getElem?_range (by omega)]
    have e1 : (k * 61 + i) / 61 = k := by omega
    have e2 : (k * 61 + i) % 61 = i := by omega
    simp only [Option.map_some, e1, e2, rowA, List.getElem_map, List.getElem_range]
  · rw [List.getElem?_eq_none (by rw [List.length_take]; omega), List.getElem?_eq_none (by rw [encL_length, (rowA F k).h]; simp; omega)]
theorem ofL_row {F : Nat → Int → Bool} {k : Nat} : ∀ (m j : Nat), ofL j ((List.range' j m).map fun i => F k ((i : Nat) - 30)) = ((List.range' j m).map fun i => ((i : Nat) : Int) - 30).filter (F k)
  | 0, j => rfl
  | m + 1, j => by
    rw [List.range'_succ, List.map_cons, List.map_cons, ofL, ofL_row m (j + 1), List.filter_cons]
theorem ofL_found {F : Nat → Int → Bool} {k : Nat} {f : Int → Bool} (h : ∀ x, F k x = f x) : ofL 0 (rowA F k).l = (offsL (-30) 30).filter f := by
  have e1 : (rowA F k).l = (List.range' 0 61).map fun i => F k ((i : Nat) - 30) := by unfold rowA; simp only [List.range_eq_range']
  rw [e1, ofL_row]
  have e2 : offsL (-30) 30 = (List.range' 0 61).map fun i => ((i : Nat) : Int) - 30 := by
    unfold offsL
    rw [List.range_eq_range']
    apply List.map_congr_left
    intro i _
    omega
  rw [e2, show F k = f from funext h]
set_option maxHeartbeats 1600000 in
set_option maxRecDepth 20000 in
theorem k_Errors (hE : E.env.fn = G) (hgl : E.gl 1 = some [f130v, f131v]) : Ok E 14 (s2 fun (c : Case) (t : Int) => some (ErrorsR c t)) := by
  refine ok2 fun c t r hr => ?_
  cases hr
  refine VP.func (A := F14) (by rw [hE]; rfl) (by simp [F14]) ?_; unfold F14
  refine VW.seq (VW.run goodV_nil [] ?_); simp (implicitDefEqProofs := false) [enc_list]
  refine VW.seq (VW.run goodV_nil [] ?_)
  simp (implicitDefEqProofs := false) [enc_list]
  unfold VCo
  refine vc_asked hE hgl (n := 2) (M := [ccl c, .cells [.int .i64 t]]) (rcap := [.ptr 1 1 0]) (b := isTickK c t) rfl ?_ rfl (fun ho M' h1 h2 K hK => vc_err1 hE ho (h1 1 _ rfl) hK) (fun ha ext => ?_) (fun ho ha es cl F es2 cl2 ext g1 g2 g3 g4 => ?_)
  · intro x hx
    simp only [List.mem_cons, List.not_mem_nil, or_false] at hx
    rcases hx with rfl | rfl <;> simp (implicitDefEqProofs := false) [enc_list]
  · have hE0 : ErrorsR c t = ([], askedK c (isTickK c t)) := if_neg ha
    generalize askedK c (isTickK c t) = e at *
    generalize hP : [ccl c, VObj.cells [.int .i64 t]] ++ ext = P
    generalize hm : P.length = m
    simp (implicitDefEqProofs := false) [enc_list, hm, get_pre hm, get_pre0 hm, set_pre hm, spliceV]
    refine VW.run goodV_nil [] ?_
    simp (implicitDefEqProofs := false) [enc_list, hm, get_pre hm, get_pre0 hm, set_pre hm, spliceV, ha, hE0]
  · have hE1 : ErrorsR c t = (errL c (stageN c t), 0) := if_pos ha
    have o := okK_ok ho
    have a1 := o.a1
    have a2 := o.a2
    have e1 := o.e1
    have htk : isTickK c t = true := by
      cases h : isTickK c t
      · rw [h] at ha; unfold askedK at ha; rw [ho] at ha; cases ha
      · rfl
    obtain ⟨t0, t1⟩ := (wi_iff _ _ _).1 htk
    obtain ⟨s0, s1'⟩ := stage_le o t0 (show t < allR c.Calendar by omega)
    have hst : stageF (triK c (allR c.Calendar)) t = some ((stageN c t : Nat) : Int) := by
      have : ((stageN c t : Nat) : Int) = t / c.Each := by unfold stageN; omega
      rw [this]; exact if_pos ⟨e1, t0, by omega⟩
    have hskl : stageN c t < lastN c + 1 := by unfold stageN; omega
    have hsk2 : ((stageN c t : Nat) : Int) < (lastN c : Int) + 1 := by omega
    have hof : ofL 0 (rowA F (stageN c t)).l = errL c (stageN c t) := ofL_found (g2 _ (by omega))
    rw [hE1]
    generalize stageN c t = k at *
    have hrow := row_at F (lastN c + 1) hskl
    have hl61 := foundC_len F (lastN c + 1)
    have hle61 : k * 61 + 61 ≤ (lastN c + 1) * 61 := by have := Nat.mul_le_mul_right 61 (show k + 1 ≤ lastN c + 1 by omega); omega
    have hr61 : (encL (rowA F k).l).length = 61 := by rw [encL_length, (rowA F k).h]; rfl
    have hdec : (dec (PV.agg (encL (rowA F k).l)) : Option (Arr 61 Bool)) = some (rowA F k) := by rw [← enc_Arr]; exact Enc.dec_enc _
    have hfz : ∀ M, PV.fzL M (encL (rowA F k).l) = encL (rowA F k).l := fun M => fzL_bools M _
    have hxl : (errL c k).length ≤ 61 := by rw [← hof]; exact Nat.le_trans (ofL_len _ _) (by rw [(rowA F k).h]; exact Nat.le_refl _)
    obtain ⟨P, hP⟩ : ∃ P, [ccl c, VObj.cells [.int .i64 t]] ++ (askC c 2 es cl F es2 cl2 ++ ext) = P := ⟨_, rfl⟩
    have hPf : P[11]? = some (.vec (foundC F (lastN c + 1))) := by rw [← hP]; rfl
    have hPt : P[1]? = some (.cells [.int .i64 t]) := by rw [← hP]; rfl
    have hq4 : ¬ ((lastN c : Nat) : Int) + 1 = 0 := by omega
    rw [hP]
    generalize hm : P.length = m
    have good := goodV_cons (k_stage hE) (goodV_cons (k_of hE) goodV_nil)
    simp (implicitDefEqProofs := false) [enc_list, hm, get_pre hm, get_pre0 hm, set_pre hm, spliceV]
    refine VW.run good [] ?_
    simp (implicitDefEqProofs := false) [enc_list, hm, get_pre hm, get_pre0 hm, set_pre hm, spliceV, get_hr hPf, get_hr hPt, hst, hskl, hsk2, hl61, hle61, hrow, hr61, hdec, hfz, hof, encL_isF, slV_al, take_al]
end Go.RS.DC

/- Walks: the program (14): Shown. -/
namespace Go.RS.DC
open Go Go.RS
open Go.RS.Enc (enc dec)
variable {E : VEnv}
theorem take_Rd (l : List Reading) : List.take (l.length * 4) (encL l) = encL l := List.take_of_length_le (by rw [encL_length]; exact Nat.le_refl _)
theorem errL_in {c : Case} {k : Nat} : ∀ x ∈ errL c k, -30 ≤ x ∧ x ≤ 30 := fun x hx => by
  unfold errL at hx
  rw [List.mem_filter, mem_offsL] at hx
  exact hx.1
theorem errL_len (c : Case) (k : Nat) : (errL c k).length ≤ 61 := by
  unfold errL
  refine Nat.le_trans (List.length_filter_le _ _) ?_
  rw [offsL_len]; decide
theorem ErrorsR_ok {c : Case} {t : Int} (h : (ErrorsR c t).2 = 0) : okK c = true ∧ isTickK c t = true ∧ ErrorsR c t = (errL c (stageN c t), 0) := by
  unfold ErrorsR at h ⊢
  split at h
  · rename_i ha
    rw [if_pos ha]
    unfold askedK at ha
    cases h1 : okK c
    · rw [h1] at ha; cases ha
    · rw [h1] at ha
      cases h2 : isTickK c t
      · rw [h2] at ha; cases ha
      · exact ⟨rfl, rfl, rfl⟩
  · exact absurd h ‹_›
set_option maxHeartbeats 1600000 in
set_option maxRecDepth 20000 in
theorem k_Shown (hE : E.env.fn = G) (hgl : E.gl 1 = some [f130v, f131v]) : Ok E 22 (s2 fun (c : Case) (t : Int) => some (ShownR c t)) := by
  refine ok2 fun c t r hr => ?_
  cases hr
  have good := goodV_cons (k_Errors hE hgl) (goodV_cons (w_LocalP hE hgl) goodV_nil)
  by_cases h0 : (ErrorsR c t).2 = 0
  · obtain ⟨ho, htk, hEr⟩ := ErrorsR_ok h0
    have o := okK_ok ho
    have a2 := o.a2
    obtain ⟨t0, t1⟩ := (wi_iff _ _ _).1 htk
    have hR : ShownR c t = (shownL c t (errL c (stageN c t)), 0) := by unfold ShownR; rw [if_pos h0, hEr]
    have hin := errL_in (c := c) (k := stageN c t)
    have hln := errL_len c (stageN c t)
    rw [hR]
    generalize errL c (stageN c t) = l at *
    refine VP.func (A := F22) (by rw [hE]; rfl) (by simp [F22]) ?_; unfold F22
    refine VW.seq (VW.run goodV_nil [] ?_); simp (implicitDefEqProofs := false) [enc_list]
    refine VW.seq (VW.run good [] ?_); simp (implicitDefEqProofs := false) [enc_list, hEr]
    refine VW.seq (VW.run good [] ?_); simp (implicitDefEqProofs := false) [enc_list, hEr]
    refine VW.seq (VW.run good [] ?_); simp (implicitDefEqProofs := false) [enc_list]
    refine VW.declare 8 4 (by simp) ?_
    generalize hT : shownL c t l = T
    refine VW.seq (VW.run good [] ?_); simp (implicitDefEqProofs := false) [enc_list]
    refine VW.loop_to 0 [(8, .sl 1 (T.length * 4) 0 T.length (openCap + 4) 4)] [ccl c, .vec (encL T)] (True) ?_ (fun hp f m hc => ?_)
    · obtain ⟨Inv, hI⟩ : ∃ Inv : Nat → List (Nat × PV) → VM → Prop, ∀ k f m, Inv k f m ↔ (∃ out : List Reading, f = [(1, .int .i64 t), (2, .ptr 0 12 0), (8, .sl 1 (out.length * 4) 0 out.length (openCap + 4) 4), (22, enc l), (23, .int .i64 l.length), (24, .int .i64 k)] ∧ m = [ccl c, .vec (encL out)] ∧ out.length ≤ k ∧ T = out ++ shownL c t (l.drop k)) := ⟨_, fun _ _ _ => Iff.rfl⟩
      refine VW.loop_cut Inv l.length ?_ ?_ ?_
      · exact ⟨_, _, (hI _ _ _).2 ⟨[], rfl, rfl, Nat.le_refl _, by rw [List.drop_zero]; exact hT.symm⟩, ⟨2, [], by simp [enc_list], by simp, by simp, by simp (implicitDefEqProofs := false) [enc_list], by simp (implicitDefEqProofs := false) [enc_list]⟩⟩
      · intro k f m hk hi
        obtain ⟨out, rfl, rfl, hl, hs⟩ := (hI _ _ _).1 hi
        have w1 : IntKind.i64.wrap ((k : Int) + 1) = k + 1 := wrap64 (by omega) (by omega)
        have hk' : (k : Int) < l.length := by omega
        rw [List.drop_eq_getElem_cons hk] at hs
        have hb := hin _ (List.getElem_mem hk)
        have hg := get_Int l k hk
        generalize l[k] = y at *
        have w2 : IntKind.i64.wrap (t + y) = t + y := wrap64 (by omega) (by omega)
        have hf : fits (out.length + 1) 32 = true := by unfold fits; simp; omega
        have hsh : shownL c t (y :: l.drop (k + 1)) = if (LocalR c.Calendar c.Town (t + y)).2 = 0 then (LocalR c.Calendar c.Town (t + y)).1 :: shownL c t (l.drop (k + 1)) else shownL c t (l.drop (k + 1)) := by
          unfold shownL; rw [List.filterMap_cons]; split <;> simp_all
        rw [hsh] at hs
        by_cases he : (LocalR c.Calendar c.Town (t + y)).2 = 0
        · rw [if_pos he] at hs
          have hLe : LocalR c.Calendar c.Town (t + y) = ((LocalR c.Calendar c.Town (t + y)).1, 0) := Prod.ext rfl he
          generalize (LocalR c.Calendar c.Town (t + y)).1 = rd at *
          have hap := app_Reading [ccl c, .vec (encL out), .cells [.int .i64 rd.Day, .int .i64 rd.Hour, .int .i64 rd.Minute, .int .i64 rd.Second]] 1 32 out rd rfl hf
          refine VW.run good [] ?_; simp (implicitDefEqProofs := false) [enc_list, hk, hk', hg, w1, w2, hLe, hap, spliceV]
          have e1 : (out ++ [rd]).length = out.length + 1 := by simp
          exact ⟨_, _, (hI _ _ _).2 ⟨out ++ [rd], rfl, rfl, by rw [e1]; omega, by rw [hs]; simp⟩, ⟨2, [], by simp [enc_list,  e1], by simp, by simp, by simp (implicitDefEqProofs := false) [enc_list,  e1], by simp (implicitDefEqProofs := false) [enc_list,  e1]⟩⟩
        · rw [if_neg he] at hs
          obtain ⟨q1, q2, hq⟩ : ∃ q1 q2, LocalR c.Calendar c.Town (t + y) = (q1, q2) := ⟨_, _, rfl⟩
          rw [hq] at he
          simp only at he
          refine VW.run good [] ?_; simp (implicitDefEqProofs := false) [enc_list, hk, hk', hg, w1, w2, hq, he, spliceV]
          exact ⟨_, _, (hI _ _ _).2 ⟨out, rfl, rfl, by omega, hs⟩, ⟨2, [], by simp [enc_list], by simp, by simp, by simp (implicitDefEqProofs := false) [enc_list], by simp (implicitDefEqProofs := false) [enc_list]⟩⟩
      · intro f m hi
        obtain ⟨out, rfl, rfl, hl, hs⟩ := (hI _ _ _).1 hi
        rw [List.drop_length] at hs
        have hs2 : T = out := by rw [hs]; unfold shownL; simp
        subst hs2
        refine VW.run good [] ?_; simp (implicitDefEqProofs := false) [enc_list]
        exact ⟨2, [], by simp [enc_list], by simp, by simp, by simp (implicitDefEqProofs := false) [enc_list], by simp (implicitDefEqProofs := false) [enc_list]⟩
    · simp (implicitDefEqProofs := false) [enc_list]
      refine .ofCut hc (VW.freeze (t := 1) (len := T.length * 4) (o := 0) (q := T.length) (cap := openCap + 4) (e := 4) 8 (by simp) (.ofCut (l := [(8, enc T)]) (M := [ccl c]) ⟨1, [], by simp [enc_list,  take_Rd], by simp, by simp, by simp (implicitDefEqProofs := false) [enc_list,  take_Rd], by simp (implicitDefEqProofs := false) [enc_list,  take_Rd]⟩ ?_))
      refine VW.run good [] ?_; simp (implicitDefEqProofs := false) [enc_list, slV_al, take_Rd]
  · have hR : ShownR c t = ([], (ErrorsR c t).2) := if_neg h0
    rw [hR]
    obtain ⟨q1, q2, hq⟩ : ∃ q1 q2, ErrorsR c t = (q1, q2) := ⟨_, _, rfl⟩
    rw [hq] at h0 ⊢
    simp only at h0
    refine VP.run (A := F22) (good) [] (by rw [hE]; rfl) (by simp [F22]) ?_; unfold F22; simp (implicitDefEqProofs := false) [enc_list, hq, h0]
end Go.RS.DC

/- Walks: the program (15): IsTruth. -/
namespace Go.RS.DC
open Go Go.RS
open Go.RS.Enc (enc dec)
variable {E : VEnv}
def walkF (c : Case) (k x : Int) (l : List Int) : Bool := walkB c (if k < 0 then none else some x) l
theorem walkF_cons (c : Case) {k x y : Int} (hk : -1 ≤ k) (l : List Int) : walkF c k x (y :: l) = ((folL c k x).any (fun z => decide (z = y)) && walkF c (k + 1) y l) := by
  have e1 : walkF c (k + 1) y l = walkB c (some y) l := by unfold walkF; rw [if_neg (by omega)]
  rw [e1]
  have e2 : ∀ L : List Int, L.contains y = L.any (fun z => decide (z = y)) := fun L => by
    rw [Bool.eq_iff_iff, List.contains_iff_mem, List.any_eq_true]; simp
  unfold walkF folL
  by_cases h : k < 0
  · rw [if_pos h, if_neg (by omega), walkB, e2]
  · rw [if_neg h, if_pos (by omega), walkB, e2]
def trC (c : Case) (es : List (PV × PV × Nat)) (cl : Nat) (k x : Int) : VM := [ccl c, ccl c, .cells (triC c (allR c.Calendar) 3), .map es cl, .cells (triC c (allR c.Calendar) 3), .cells (triC c (allR c.Calendar) 3), .cells [.int .i64 k, .int .i64 x]]
set_option maxHeartbeats 3200000 in
set_option maxRecDepth 20000 in
theorem k_IsTruth (hE : E.env.fn = G) (hgl : E.gl 1 = some [f130v, f131v]) : Ok E 26 (s2 fun (c : Case) (l : List Int) => some (IsTruthR c l)) := by
  refine ok2 fun c l r hr => ?_
  cases hr
  refine VP.func (A := F26) (by rw [hE]; rfl) (by simp [F26]) ?_; unfold F26
  refine VW.seq (VW.run goodV_nil [] ?_); simp (implicitDefEqProofs := false) [enc_list]
  refine VW.seq (VW.run goodV_nil [] ?_)
  simp (implicitDefEqProofs := false) [enc_list]
  unfold VCo
  refine vc_opened hE hgl (n := 1) (M := [ccl c]) rfl ?_ (fun ho => ?_) (fun ho es cl hs => ?_)
  · intro x hx
    rw [List.mem_singleton] at hx
    subst hx
    simp (implicitDefEqProofs := false) [enc_list]
  · have hR : IsTruthR c l = (false, 100) := by unfold IsTruthR; rw [ho]; rfl
    simp (implicitDefEqProofs := false) [enc_list]
    refine VW.run goodV_nil [] ?_
    simp (implicitDefEqProofs := false) [enc_list, hR]
  · have o := okK_ok ho
    have st := o.st
    have l6 := o.l6
    have hR : IsTruthR c l = (truthB c l, 0) := by unfold IsTruthR; rw [ho]; rfl
    rw [hR]
    have hall : ∃ all, allR c.Calendar = all := ⟨_, rfl⟩
    have hlast : lastF (triK c (allR c.Calendar)) = some ((lastN c : Nat) : Int) := if_pos ⟨ho, rfl⟩
    have hfull : fullF (triK c (allR c.Calendar)) = some ((fullK c : Nat) : Int) := if_pos l6
    have w1 : IntKind.i64.wrap (((lastN c : Nat) : Int) + 1) = ((lastN c + 1 : Nat) : Int) := by rw [wrap64 (by omega) (by omega)]; omega
    have hSb : ∀ k x, saysK c k x < 2 ^ 61 := fun k x => Nat.lt_of_lt_of_le (saysK_lt c k x) (Nat.pow_le_pow_right (by decide) (by omega))
    have hfb : fullK c < 2 ^ 61 := by
      unfold fullK
      have : (2 : Nat) ^ c.Log.length ≤ 2 ^ 6 := Nat.pow_le_pow_right (by decide) l6
      omega
    have hu7 : ∀ (k x : Int) (j : Nat), 7 ≤ j → ∀ o ∈ trC c es cl k x, o.und j := fun k x j hj o ho => by
      simp only [trC, List.mem_cons, List.not_mem_nil, or_false] at ho
      rcases ho with rfl | rfl | rfl | rfl | rfl | rfl | rfl
      · simp (implicitDefEqProofs := false) [enc_list]
      · simp (implicitDefEqProofs := false) [enc_list]
      · simp (implicitDefEqProofs := false) [enc_list]; omega
      · exact sayM_und hs _ _
      · simp (implicitDefEqProofs := false) [enc_list]; omega
      · simp (implicitDefEqProofs := false) [enc_list]; omega
      · simp (implicitDefEqProofs := false)
    have good := goodV_cons (k_last hE) (goodV_cons (k_full hE) (goodV_cons (k_begin hE) goodV_nil))
    simp (implicitDefEqProofs := false) [enc_list, spliceV]
    refine VW.seq (VW.run good [] ?_); simp (implicitDefEqProofs := false) [enc_list]
    by_cases hlen : l.length = lastN c + 1
    · have hlen' : (l.length : Int) = ((lastN c : Nat) : Int) + 1 := by omega
      have hT : truthB c l = (walkF c (-1) 0 l && decide (restN (saysK c) 0 l (fullK c) = 0)) := by
        unfold truthB walkF; rw [decide_eq_true hlen, Bool.true_and]; rfl
      obtain ⟨B, hB⟩ : ∃ B, truthB c l = B := ⟨_, rfl⟩
      rw [hT] at hB
      rw [hT, hB]
      refine VW.seq (VW.run good [] ?_); simp (implicitDefEqProofs := false) [enc_list, hlast, w1, hlen']
      refine VW.seq (VW.run good [] ?_); simp (implicitDefEqProofs := false) [enc_list, hfull, spliceV]
      have hl40 : l.length ≤ 41 := by omega
      refine VW.seq (VW.run goodV_nil [] ?_); simp (implicitDefEqProofs := false) [enc_list]
      refine VW.loop_toE 0 (fun (w : Nat) => [(8, .int .i64 (w : Int))]) (fun (w : Nat) => [ccl c]) (fun (w : Nat) => B = decide (w = 0)) ?_ (fun w hp f m hc => ?_)
      · obtain ⟨Inv, hI⟩ : ∃ Inv : Nat → List (Nat × PV) → VM → Prop, ∀ i f m, Inv i f m ↔ (∃ (x : Int) (w : Nat), f = [(6, .ptr 5 14 0), (8, .int .i64 (w : Int)), (9, .ptr 6 2 0), (31, enc l), (32, .int .i64 l.length), (33, .int .i64 i)] ∧ m = trC c es cl ((i : Int) - 1) x ∧ (i = 0 → x = 0) ∧ -30 ≤ x ∧ x ≤ 30 ∧ w < 2 ^ 61 ∧ B = (walkF c ((i : Int) - 1) x (l.drop i) && decide (restN (saysK c) i (l.drop i) w = 0))) := ⟨_, fun _ _ _ => Iff.rfl⟩
        refine VW.loop_cut Inv l.length ?_ ?_ ?_
        · refine ⟨_, _, (hI _ _ _).2 ⟨0, fullK c, rfl, rfl, fun _ => rfl, by omega, by omega, hfb, by rw [List.drop_zero]; exact hB.symm⟩, cut_all (Nat.zero_le _) (hu7 (-1) 0 7 (Nat.le_refl _)) ?_⟩
          simp (implicitDefEqProofs := false) [enc_list, trC]
        · intro i f m hi hv
          obtain ⟨x, w, rfl, rfl, hx0, hx1, hx2, hw, hB2⟩ := (hI _ _ _).1 hv
          obtain ⟨k, hk⟩ : ∃ k : Int, (i : Int) - 1 = k := ⟨_, rfl⟩
          have hk1 : ((i + 1 : Nat) : Int) - 1 = k + 1 := by omega
          have hk2 : (i : Int) = k + 1 := by omega
          have v1 : IntKind.i64.wrap ((i : Int) + 1) = i + 1 := wrap64 (by omega) (by omega)
          have v2 : IntKind.i64.wrap (k + 1) = k + 1 := wrap64 (by omega) (by omega)
          have hi' : (i : Int) < l.length := by omega
          rw [List.drop_eq_getElem_cons hi, restN] at hB2
          have hg := get_Int l i hi
          generalize l[i] = y at *
          rw [hk, walkF_cons c (by omega)] at hB2
          rw [hk]
          refine VW.run good [] ?_; simp (implicitDefEqProofs := false) [enc_list, hi, hi', hg, trC, spliceV]
          unfold VCo
          refine vc_follow hE rfl ?_
          simp (implicitDefEqProofs := false) [enc_list]
          obtain ⟨X, hX⟩ : ∃ X : Bool → VM, ∀ b, X b = [ccl c, ccl c, .cells (triC c (allR c.Calendar) 3), .map es cl, .cells (triC c (allR c.Calendar) 3), .cells (triC c (allR c.Calendar) 3), .cells [.int .i64 k, .int .i64 x], .cells [.int .i64 y], .cells [.bool b], .cells (triC c (allR c.Calendar) 3), .cells [.int .i64 k, .int .i64 x]] := ⟨_, fun _ => rfl⟩
          have hXu : ∀ b j, 11 ≤ j → ∀ o ∈ X b, o.und j := fun b j hj o ho => by
            rw [hX] at ho
            simp only [List.mem_cons, List.not_mem_nil, or_false] at ho
            rcases ho with rfl | rfl | rfl | rfl | rfl | rfl | rfl | rfl | rfl | rfl | rfl
            · simp (implicitDefEqProofs := false) [enc_list]
            · simp (implicitDefEqProofs := false) [enc_list]
            · simp (implicitDefEqProofs := false) [enc_list]; omega
            · exact sayM_und hs _ _
            · simp (implicitDefEqProofs := false) [enc_list]; omega
            · simp (implicitDefEqProofs := false) [enc_list]; omega
            · simp (implicitDefEqProofs := false)
            · simp (implicitDefEqProofs := false)
            · simp (implicitDefEqProofs := false)
            · simp (implicitDefEqProofs := false) [enc_list]; omega
            · simp (implicitDefEqProofs := false)
          have hXl : ∀ b, (X b).length = 11 := fun b => by rw [hX]; rfl
          rw [← hX]
          refine .ofCut (l := [(6, .ptr 5 14 0), (8, .int .i64 (w : Int)), (9, .ptr 6 2 0), (11, .ptr 7 1 0), (12, .ptr 8 1 0), (31, enc l), (32, .int .i64 l.length), (33, .int .i64 i), (39, folC 9 10)]) (M := X false) (cut_all (Nat.zero_le _) (by rw [hXl]; exact hXu _ _ (Nat.le_refl _)) (by rw [hXl]; simp (implicitDefEqProofs := false) [enc_list])) ?_
          obtain ⟨P, hP⟩ : ∃ P, (folL c k x).any (fun z => decide (z = y)) = P := ⟨_, rfl⟩
          rw [hP] at hB2
          obtain ⟨J, hJ⟩ : ∃ J : Nat → VM → Prop, ∀ j pre, J j pre ↔ pre = X (((folL c k x).take j).any (fun z => decide (z = y))) := ⟨_, fun _ _ => Iff.rfl⟩
          refine VW.rangeFollow (tb := 9) (xb := 10) (n0 := 11) (mt := 3) (c := c) (all := allR c.Calendar) (k := k) (x := x) hE J (fun _ _ => False) (by simp) o (by omega) ⟨hx1, hx2⟩ rfl (mkF_und ?_) (hXl _) ((hJ _ _).2 (by rw [List.take_zero, List.any_nil])) ?_ ?_ ?_ ?_
          · simp (implicitDefEqProofs := false) [enc_list]
          · intro j pre hj
            rw [(hJ _ _).1 hj]
            exact ⟨hXl _, by rw [hX]; rfl, by rw [hX]; rfl, hXu _ _ (by omega)⟩
          · intro j pre hj hjj Lr Lb hLb
            have := (hJ _ _).1 hjj
            subst this
            have htk : ((folL c k x).take (j + 1)).any (fun z => decide (z = y)) = (((folL c k x).take j).any (fun z => decide (z = y)) || decide ((folL c k x)[j] = y)) := by
              rw [List.take_succ, List.any_append, List.getElem?_eq_getElem hj]; simp
            generalize (folL c k x)[j] = z at *
            obtain ⟨T0, hT0⟩ : ∃ T0, ((folL c k x).take j).any (fun z => decide (z = y)) = T0 := ⟨_, rfl⟩
            rw [hT0] at htk ⊢
            refine VW.run good [] ?_; simp (implicitDefEqProofs := false) [enc_list, setParamsV, spliceV, hXl]
            rw [hX]
            refine VW.block ?_
            have hfin : ∀ b (e : VM) (m2 : VM), m2 = X b ++ Lb :: e → (T0 || decide (z = y)) = b → ∃ pre2, (∃ x, m2 = pre2 ++ Lb :: x) ∧ pre2.length = 11 ∧ J (j + 1) pre2 := fun b e m2 h1 h2 => ⟨X b, ⟨e, h1⟩, hXl _, (hJ _ _).2 (by rw [htk, h2])⟩
            simp only [hX, List.cons_append, List.nil_append] at hfin
            cases T0
            · by_cases hzy : z = y
              · have hzy2 : decide (z = y) = true := decide_eq_true hzy
                refine VW.run good [] ?_; simp (implicitDefEqProofs := false) [enc_list, spliceV, hzy2]
                obtain ⟨p2, q1, q2, q3⟩ := hfin true _ _ rfl (by rw [hzy2]; rfl)
                exact ⟨p2, q1, q2, rfl, q3⟩
              · have hzy2 : decide (z = y) = false := decide_eq_false hzy
                refine VW.run good [] ?_; simp (implicitDefEqProofs := false) [enc_list, spliceV, hzy2]
                obtain ⟨p2, q1, q2, q3⟩ := hfin false _ _ rfl (by rw [hzy2]; rfl)
                exact ⟨p2, q1, q2, rfl, q3⟩
            · refine VW.run good [] ?_; simp (implicitDefEqProofs := false) [enc_list, spliceV]
              obtain ⟨p2, q1, q2, q3⟩ := hfin true _ _ rfl rfl
              exact ⟨p2, q1, q2, rfl, q3⟩
          · intro pre L ext hj
            have := (hJ _ _).1 hj
            subst this
            rw [List.take_length, hP, hX]
            simp (implicitDefEqProofs := false) [enc_list]
            cases P
            · have hBf : B = false := by rw [hB2]; rfl
              refine VW.run good [] ?_; simp (implicitDefEqProofs := false) [enc_list, spliceV, hBf]
            · have hyb : -30 ≤ y ∧ y ≤ 30 := by
                obtain ⟨z, hz, hz2⟩ := List.any_eq_true.1 hP
                have := of_decide_eq_true hz2
                subst this
                exact fol_bounds o ⟨hx1, hx2⟩ hz
              rw [Bool.true_and] at hB2
              obtain ⟨f, hg1, hg2⟩ := say_look hs (k + 1, y)
              have hanb := i_anb (a := w) (b := saysK c (k + 1) y) (by omega) (by have := hSb (k + 1) y; omega)
              simp only at hg2
              have hk2' := keyOk_S (k + 1, y)
              have hz0 : PV.ofV E (Value.int .i64 0) = .int .i64 0 := rfl
              rw [hk2] at hB2
              have hanl : anb w (saysK c (k + 1) y) < 2 ^ 61 := anb_lt _ hw
              generalize anb w (saysK c (k + 1) y) = w2 at *
              refine VW.run good [] ?_; simp (implicitDefEqProofs := false) [enc_list, spliceV, v1, v2, mapEsV, hk2', hg1, hg2, hz0, hanb]
              refine VW.run good [] ?_; simp (implicitDefEqProofs := false) [enc_list, v1]
              refine ⟨_, _, (hI (i + 1) _ (trC c es cl (k + 1) y)).2 ⟨y, w2, rfl, by rw [hk1], fun h => by omega, hyb.1, hyb.2, hanl, by rw [hk1]; exact hB2⟩, cut_pre' (n := 7) (pre := trC c es cl (k + 1) y) rfl (Nat.zero_le _) (hu7 (k + 1) y 7 (Nat.le_refl _)) ?_⟩
              simp (implicitDefEqProofs := false) [enc_list]
          · intro e pre L ext hd; exact hd.elim
        · intro f m hv
          obtain ⟨x, w, rfl, rfl, hx0, hx1, hx2, hw, hB2⟩ := (hI _ _ _).1 hv
          rw [List.drop_length] at hB2
          have hB3 : B = decide (w = 0) := by rw [hB2]; unfold walkF; split <;> rfl
          refine VW.run good [] ?_; simp (implicitDefEqProofs := false) [enc_list]
          refine ⟨w, hB3, cut_pre' (n := 1) (pre := [ccl c]) (ext := (trC c es cl ((l.length : Int) - 1) x).drop 1) rfl (Nat.zero_le _) ?_ (by simp (implicitDefEqProofs := false))⟩
          intro o ho
          rw [List.mem_singleton] at ho; subst ho
          simp (implicitDefEqProofs := false) [enc_list]
      · simp (implicitDefEqProofs := false); refine .ofCut hc (VW.run good [] ?_); simp (implicitDefEqProofs := false) [enc_list]
        exact hp.symm
    · have hB : truthB c l = false := by unfold truthB; rw [decide_eq_false hlen]; rfl
      have hlen' : ¬ (l.length : Int) = ((lastN c : Nat) : Int) + 1 := by omega
      refine VW.run good [] ?_; simp (implicitDefEqProofs := false) [enc_list, hlast, w1, hlen, hlen', hB]
end Go.RS.DC

/- Walks: the program (16): Truth. -/
namespace Go.RS.DC
open Go Go.RS
open Go.RS.Enc (enc dec)
variable {E : VEnv}
/-- What lies between may be forgotten. -/
theorem forget_mid (B : VM) : ∀ (ext A : VM), ∃ g, forgetL g (A ++ (ext ++ B)) = A ++ (List.replicate ext.length .gone ++ B)
  | [], A => ⟨[], rfl⟩
  | x :: ext, A => by
    obtain ⟨g, hg⟩ := forget_mid B ext (A ++ [.gone])
    refine ⟨A.length :: g, ?_⟩
    rw [forgetL_cons]
    have : (A ++ (x :: ext ++ B)).set A.length .gone = (A ++ [.gone]) ++ (ext ++ B) := by
      rw [List.set_append_right _ _ (Nat.le_refl _)]; simp
    rw [this, hg]
    simp [List.replicate_succ]
theorem cut_mid {k : Nat} {f : VFr} {l : List (Nat × PV)} {A ext B : VM} {n : Nat} (hn : (A ++ (ext ++ B)).length = n) (hk : k ≤ n) (hA : ∀ o ∈ A, o.und n) (hB : ∀ o ∈ B, o.und n) (hs : ∀ p ∈ l, (f p.1).le p.2 ∧ p.2.und n = true) :
    Cut k f (A ++ (ext ++ B)) l (A ++ (List.replicate ext.length .gone ++ B)) := by
  obtain ⟨g, hg⟩ := forget_mid B ext A
  subst hn
  have hl : (forgetL g (A ++ (ext ++ B))).length = (A ++ (ext ++ B)).length := forgetL_len _ _
  have e : A ++ (List.replicate ext.length .gone ++ B) = (forgetL g (A ++ (ext ++ B))).take (A ++ (ext ++ B)).length := by
    rw [List.take_of_length_le (by omega), hg]
  refine ⟨_, g, e, hk, Nat.le_refl _, hs, ?_⟩
  rw [← e]
  intro o ho
  rcases List.mem_append.1 ho with ho | ho
  · exact hA o ho
  · rcases List.mem_append.1 ho with ho | ho
    · rw [List.mem_replicate] at ho; rw [ho.2]; trivial
    · exact hB o ho
end Go.RS.DC

/- Walks: the program (17): Truth. -/
namespace Go.RS.DC
open Go Go.RS
open Go.RS.Enc (enc dec)
variable {E : VEnv}
theorem fold_full {c : Case} (l6 : c.Log.length ≤ 6) : fullK c < 2 ^ 61 := by
  unfold fullK
  have : (2 : Nat) ^ c.Log.length ≤ 2 ^ 6 := Nat.pow_le_pow_right (by decide) l6
  omega
theorem saysK_b {c : Case} (l6 : c.Log.length ≤ 6) (k x : Int) : saysK c k x < 2 ^ 61 := Nat.lt_of_lt_of_le (saysK_lt c k x) (Nat.pow_le_pow_right (by decide) (by omega))
theorem al_anything (hE : E.env.fn = G) {c : Case} {all : Int} {mt : Nat} {M : VM} {K : PV → VM → Prop} (hK : ∀ ext, K (.bool true) (M ++ ext)) : VC E false (.func 51 [] []) [triV c all mt] M K := by
  refine spc_vc (goodV_cons (k_anything hE) goodV_nil) (r := .bool true) ?_ (by have := hK []; rwa [List.append_nil] at this)
  simp (implicitDefEqProofs := false) [enc_list]
theorem greedy_step {c : Case} {S : Says2} {A : Allow} {r k : Nat} {cand : List Int} {n : Nat} {y : Int} (h : (cand.find? fun y => A k y && canA c S A r k y n) = some y) : greedyL c S A r k cand n = y :: (if r = 0 then [] else greedyL c S A (r - 1) (k + 1) (nextO c y) (anb n (S k y))) := by
  cases r with
  | zero => rw [greedyL, h]; rfl
  | succ r => rw [greedyL, h]; rfl
def goOnK (c : Case) (i : Nat) (x : Int) (w : Nat) : Prop := i ≤ lastN c → (∀ y ∈ folL c ((i : Int) - 1) x, (y, w) ∈ reachL c (saysK c) anyA (fullK c) i) ∧ ((folL c ((i : Int) - 1) x).any fun y => anyA i y && canA c (saysK c) anyA (lastN c - i) i y w) = true
def restG (c : Case) (i : Nat) (x : Int) (w : Nat) : List Int := if i ≤ lastN c then greedyL c (saysK c) anyA (lastN c - i) i (folL c ((i : Int) - 1) x) w else []
theorem folL_nat (c : Case) (i : Nat) (x : Int) : folL c (((i + 1 : Nat) : Int) - 1) x = nextO c x := by unfold folL; rw [if_pos (by omega)]
theorem goOn_step {c : Case} {i : Nat} {x y : Int} {w : Nat} (hi : i ≤ lastN c) (h : goOnK c i x w) (hf : ((folL c ((i : Int) - 1) x).find? fun y => anyA i y && canA c (saysK c) anyA (lastN c - i) i y w) = some y) : goOnK c (i + 1) y (anb w (saysK c i y)) := by
  intro hi2
  have hy := List.mem_of_find?_eq_some hf
  have hc := List.find?_some hf
  rw [folL_nat]
  constructor
  · intro z hz
    rw [reachL, List.mem_flatMap]
    exact ⟨(y, w), (h hi).1 y hy, List.mem_map.2 ⟨z, List.mem_filter.2 ⟨hz, rfl⟩, rfl⟩⟩
  · rw [Bool.and_eq_true, show lastN c - i = (lastN c - (i + 1)) + 1 by omega, canA] at hc
    exact hc.2
theorem restG_step {c : Case} {i : Nat} {x y : Int} {w : Nat} (hi : i ≤ lastN c) (hf : ((folL c ((i : Int) - 1) x).find? fun y => anyA i y && canA c (saysK c) anyA (lastN c - i) i y w) = some y) : restG c i x w = y :: restG c (i + 1) y (anb w (saysK c i y)) := by
  unfold restG
  rw [if_pos hi, greedy_step hf]
  congr 1
  rw [folL_nat]
  by_cases h : i + 1 ≤ lastN c
  · rw [if_pos h, if_neg (by omega), show lastN c - i - 1 = lastN c - (i + 1) by omega]
  · rw [if_neg h, if_pos (by omega)]
theorem canVis_nat (c : Case) (S : Says2) (A : Allow) (i : Nat) (y : Int) (w : Nat) : canVis c S A ((i : Int), y, w) = canA c S A (lastN c - i) i y w := by
  unfold canVis; rw [if_neg (by simp)]; simp
theorem thrC_und {c : Case} {S : Says2} {A : Allow} {all : Int} {mt ag n need : Nat} {F : Nat → Int → Bool} {es : List (PV × PV × Nat)} {cl j : Nat} (h : KnowI c S A need F es) (hm : mt < j) (hn : n + 7 ≤ j) : ∀ o ∈ thrC c all mt ag [] n F es cl, o.und j := fun o ho => by
  simp only [thrC, List.mem_cons, List.not_mem_nil, or_false] at ho
  rcases ho with rfl | rfl | rfl | rfl | rfl | rfl | rfl
  · simp (implicitDefEqProofs := false) [enc_list]; omega
  · simp (implicitDefEqProofs := false)
  · trivial
  · simp (implicitDefEqProofs := false); omega
  · exact know_und h _ _
  · simp (implicitDefEqProofs := false); omega
  · simp (implicitDefEqProofs := false); omega
theorem askC_und {c : Case} {S : Says2} {A : Allow} {n need : Nat} {F : Nat → Int → Bool} {es es2 : List (PV × PV × Nat)} {cl cl2 j : Nat} (hs : SayM (saysK c) es cl) (h : KnowI c S A need F es2) (hn : n + 14 ≤ j) : ∀ o ∈ askC c n es cl F es2 cl2, o.und j := fun o ho => by
  rcases List.mem_append.1 ho with ho | ho
  · simp only [List.mem_cons, List.not_mem_nil, or_false] at ho
    rcases ho with rfl | rfl | rfl | rfl | rfl | rfl | rfl
    · simp (implicitDefEqProofs := false) [enc_list]
    · simp (implicitDefEqProofs := false) [enc_list]; omega
    · simp (implicitDefEqProofs := false) [enc_list]
    · simp (implicitDefEqProofs := false) [enc_list]; omega
    · exact sayM_und hs _ _
    · simp (implicitDefEqProofs := false) [enc_list]; omega
    · simp (implicitDefEqProofs := false) [enc_list]; omega
  · exact thrC_und h (by omega) (by omega) o ho
set_option maxHeartbeats 3200000 in
set_option maxRecDepth 20000 in
theorem k_Truth (hE : E.env.fn = G) (hgl : E.gl 1 = some [f130v, f131v]) : Ok E 27 (s1 fun (c : Case) => some (TruthR c)) := by
  refine ok1 fun c r hr => ?_
  cases hr
  refine VP.func (A := F27) (by rw [hE]; rfl) (by simp [F27]) ?_; unfold F27
  refine VW.seq (VW.run goodV_nil [] ?_); simp (implicitDefEqProofs := false) [enc_list]
  refine VW.seq (VW.run goodV_nil [] ?_)
  simp (implicitDefEqProofs := false) [enc_list]
  unfold VCo
  refine vc_asked hE hgl (n := 1) (M := [ccl c]) (rcap := []) (b := true) rfl ?_ rfl (fun ho M' h1 h2 K hK => al_anything hE hK) (fun ha ext => ?_) (fun ho ha es cl F es2 cl2 ext g1 g2 g3 g4 => ?_)
  · intro x hx
    rw [List.mem_singleton] at hx
    subst hx
    simp (implicitDefEqProofs := false) [enc_list]
  · have hE0 : TruthR c = ([], askedK c true) := if_neg ha
    generalize askedK c true = e at *
    generalize hP : [ccl c] ++ ext = P
    generalize hm : P.length = m
    simp (implicitDefEqProofs := false) [enc_list, hm, get_pre hm, get_pre0 hm, set_pre hm, spliceV]
    refine VW.run goodV_nil [] ?_
    simp (implicitDefEqProofs := false) [enc_list, hm, get_pre hm, get_pre0 hm, set_pre hm, spliceV, ha, hE0]
  · have hE1 : TruthR c = (truthL c, 0) := if_pos ha
    have o := okK_ok ho
    have l6 := o.l6
    have st := o.st
    have hck : canK c = true := by
      cases h : canK c
      · unfold askedK at ha; rw [ho, h] at ha; cases ha
      · rfl
    rw [hE1]
    have hfull : fullF (triK c (allR c.Calendar)) = some ((fullK c : Nat) : Int) := if_pos l6
    obtain ⟨P, hP⟩ : ∃ P, [ccl c] ++ (askC c 1 es cl F es2 cl2 ++ ext) = P := ⟨_, rfl⟩
    rw [hP]
    generalize hm : P.length = m
    simp (implicitDefEqProofs := false) [enc_list, hm, get_pre hm, get_pre0 hm, set_pre hm, spliceV]
    refine VW.seq (VW.run goodV_nil [] ?_); simp (implicitDefEqProofs := false) [enc_list]
    have hm16 : m = ext.length + 15 := by rw [← hm, ← hP]; simp
    obtain ⟨P1, hP1⟩ : ∃ P1 : VM, [ccl c] ++ askC c 1 es cl F es2 cl2 ++ (List.replicate ext.length .gone ++ [.cells (triC c (allR c.Calendar) 5)]) = P1 := ⟨_, rfl⟩
    have hl1 : P1.length = m + 1 := by rw [← hP1, hm16]; simp
    have hP1m : P1[5]? = some (.map es cl) := by rw [← hP1]; rfl
    have hP1t : P1[m]? = some (.cells (triC c (allR c.Calendar) 5)) := by
      rw [← hP1, ← List.append_assoc]
      rw [List.getElem?_append_right (by simp; omega)]
      simp [hm16]
    have hP1u : ∀ o ∈ P1, o.und (m + 1) := fun x hx => by
      rw [← hP1] at hx
      rcases List.mem_append.1 hx with hx | hx
      · rcases List.mem_append.1 hx with hx | hx
        · rw [List.mem_singleton] at hx; subst hx
          simp (implicitDefEqProofs := false) [enc_list]
        · exact askC_und g1 g3 (by omega) x hx
      · rcases List.mem_append.1 hx with hx | hx
        · rw [List.mem_replicate] at hx; rw [hx.2]; trivial
        · rw [List.mem_singleton] at hx; subst hx
          simp (implicitDefEqProofs := false) [enc_list]; omega
    refine .ofCut (l := [(4, .ptr m 14 0)]) (M := P1) ?_ ?_
    · rw [← hP1, ← hP, ← List.append_assoc, List.append_assoc]
      refine cut_mid (n := m + 1) (by rw [hm16]; simp) (Nat.zero_le _) ?_ ?_ (by simp (implicitDefEqProofs := false))
      · intro x hx
        exact hP1u x (by rw [← hP1]; exact List.mem_append_left _ hx)
      · intro x hx
        exact hP1u x (by rw [← hP1]; exact List.mem_append_right _ (List.mem_append_right _ hx))
    refine VW.seq (VW.run (goodV_cons (k_full hE) goodV_nil) [] ?_)
    simp (implicitDefEqProofs := false) [enc_list, get_hr hP1t, hP1t, hfull]
    unfold VCo
    refine vc_through hE o ho rfl (fun k x => saysK_b l6 k x) (fold_full l6) hl1 hP1u rfl ⟨es, cl, hP1m, g1⟩ (al_any hE) ?_
    intro F3 es3 cl3 ext3 q3 q4
    have hfd : ∀ k ≤ lastN c, ∀ x, F3 k x = foundB c (saysK c) anyA (fullK c) k x := fun k hk x => know_found c (saysK c) anyA q3 q4 hk x
    have hrow : rowB F3 = true := (row_can o (fun x => hfd 0 (Nat.zero_le _) x)).trans hck
    rw [hrow]
    generalize hP2 : P1 ++ (thrC c (allR c.Calendar) 5 44 [] (m + 1) F3 es3 cl3 ++ ext3) = P2
    generalize hm2 : P2.length = m2
    have hm2e : m2 = m + 8 + ext3.length := by
      rw [← hm2, ← hP2]
      simp only [List.length_append, List.length_cons, List.length_nil, hl1]
      omega
    simp (implicitDefEqProofs := false) [enc_list, hm2, get_pre hm2, get_pre0 hm2, set_pre hm2, set_pre0 hm2, spliceV]
    obtain ⟨A3, hA3⟩ : ∃ A3 : VM, P1 ++ thrC c (allR c.Calendar) 5 44 [] (m + 1) F3 es3 cl3 = A3 := ⟨_, rfl⟩
    obtain ⟨P3, hP3⟩ : ∃ P3 : VM, A3 ++ List.replicate ext3.length .gone = P3 := ⟨_, rfl⟩
    have hl3 : P3.length = m2 := by
      rw [← hP3, ← hA3, hm2e]
      simp only [List.length_append, List.length_cons, List.length_nil, List.length_replicate, hl1]
    have hA3u : ∀ o ∈ A3, o.und m2 := fun x hx => by
      rw [← hA3] at hx
      rcases List.mem_append.1 hx with hx | hx
      · exact objs_any (by omega) (hP1u x hx)
      · exact thrC_und q3 (by omega) (by omega) x hx
    have hP3u : ∀ o ∈ P3, o.und m2 := fun x hx => by
      rw [← hP3] at hx
      rcases List.mem_append.1 hx with hx | hx
      · exact hA3u x hx
      · rw [List.mem_replicate] at hx; rw [hx.2]; trivial
    have hP3m : P3[5]? = some (.map es cl) := by rw [← hP3, ← hA3]; exact get_hr (get_hr hP1m _) _
    have hP3t : P3[m]? = some (.cells (triC c (allR c.Calendar) 5)) := by rw [← hP3, ← hA3]; exact get_hr (get_hr hP1t _) _
    have hP3k : P3[m + 5]? = some (.map es3 cl3) := by
      rw [← hP3, ← hA3]
      refine get_hr ?_ _
      rw [show m + 5 = (m + 1) + 4 by omega, get_pre hl1]; rfl
    refine .ofCut (l := [(4, .ptr m 14 0), (8, .ptr m2 1 0)]) (M := P3 ++ [.cells [.map (m + 5)]]) ?_ ?_
    · rw [← hP2, ← hP3, ← List.append_assoc, hA3, List.append_assoc, List.append_assoc]
      refine cut_mid (n := m2 + 1) (by rw [← hA3]; simp [hl1]; omega) (Nat.zero_le _) ?_ ?_ (by simp (implicitDefEqProofs := false); omega)
      · exact fun x hx => objs_any (by omega) (hA3u x hx)
      · intro x hx
        rw [List.mem_singleton] at hx; subst hx
        simp (implicitDefEqProofs := false); omega
    refine VW.seq (VW.run goodV_nil [] ?_); simp (implicitDefEqProofs := false) [enc_list]
    refine VW.declare 9 1 (by simp) ?_
    have good := goodV_cons (k_begin hE) (goodV_cons (k_full hE) (goodV_cons (k_last hE) goodV_nil))
    refine VW.seq (VW.run good [] ?_); simp (implicitDefEqProofs := false) [enc_list, hl3, get_hr hP3t, get_pre hl3, get_pre0 hl3, set_pre hl3, hfull, spliceV]
    obtain ⟨X, hX⟩ : ∃ X : List Int → Int → Int → Nat → VM, ∀ out k x w, X out k x w = [.cells [.map (m + 5)], .vec (encL out), .cells [.int .i64 k, .int .i64 x], .cells [.int .i64 (w : Int)]] := ⟨_, fun _ _ _ _ => rfl⟩
    have hXl : ∀ out k x w, (P3 ++ X out k x w).length = m2 + 4 := fun out k x w => by rw [hX]; simp [hl3]
    have hXu : ∀ out k x w j, m2 ≤ j → ∀ o ∈ P3 ++ X out k x w, o.und j := fun out k x w j hj o ho => by
      rw [hX] at ho
      rcases List.mem_append.1 ho with ho | ho
      · exact objs_any hj (hP3u o ho)
      · simp only [List.mem_cons, List.not_mem_nil, or_false] at ho
        rcases ho with rfl | rfl | rfl | rfl
        · simp (implicitDefEqProofs := false); omega
        · trivial
        · simp (implicitDefEqProofs := false)
        · simp (implicitDefEqProofs := false)
    have hfrU : ∀ (out : List Int) (j : Nat), m2 + 4 ≤ j → ∀ p ∈ [(4, PV.ptr m 14 0), (8, .ptr m2 1 0), (9, sl1 (m2 + 1) out), (10, .ptr (m2 + 2) 2 0), (11, .ptr (m2 + 3) 1 0)], p.2.und j = true := fun out j hj p hp => by
      simp only [List.mem_cons, List.not_mem_nil, or_false] at hp
      rcases hp with rfl | rfl | rfl | rfl | rfl <;> simp (implicitDefEqProofs := false) <;> omega
    generalize hT : truthL c = T
    refine VW.seq ?_
    refine VW.block ?_
    refine VW.loop_to 0 [(9, sl1 (m2 + 1) T)] (P3 ++ [.cells [.map (m + 5)], .vec (encL T)]) (True) ?_ (fun hp f m hc => ?_)
    · obtain ⟨Inv, hI⟩ : ∃ Inv : Nat → List (Nat × PV) → VM → Prop, ∀ i f mm, Inv i f mm ↔ (∃ (x : Int) (w : Nat) (out : List Int), f = [(4, .ptr m 14 0), (8, .ptr m2 1 0), (9, sl1 (m2 + 1) out), (10, .ptr (m2 + 2) 2 0), (11, .ptr (m2 + 3) 1 0)] ∧ mm = P3 ++ X out ((i : Int) - 1) x w ∧ (i = 0 → x = 0) ∧ (-30 ≤ x ∧ x ≤ 30) ∧ w < 2 ^ 61 ∧ out.length = i ∧ T = out ++ restG c i x w ∧ goOnK c i x w) := ⟨_, fun _ _ _ => Iff.rfl⟩
      refine VW.loop_cut Inv (lastN c + 1) ?_ ?_ ?_
      · refine ⟨_, _, (hI _ _ _).2 ⟨0, fullK c, [], rfl, rfl, fun _ => rfl, ⟨by omega, by omega⟩, fold_full l6, rfl, ?_, ?_⟩, ?_⟩
        · rw [← hT]; unfold restG; rw [if_pos (Nat.zero_le _)]; rfl
        · intro _
          refine ⟨fun y hy => ?_, hck⟩
          rw [reachL, List.mem_map]
          exact ⟨y, List.mem_filter.2 ⟨hy, rfl⟩, rfl⟩
        · rw [hX]
          refine cut_all (Nat.zero_le _) ?_ ?_
          · have := hXu [] (-1) 0 (fullK c) (m2 + 4) (by omega)
            rw [hX] at this
            simpa [hl3] using this
          · simp (implicitDefEqProofs := false) [hl3]
            omega
      · intro i f mm hi hv
        obtain ⟨x, w, out, rfl, rfl, hx0, hx, hw, hol, hT2, hgo⟩ := (hI _ _ _).1 hv
        have hiN : i ≤ lastN c := by omega
        obtain ⟨hre, hany⟩ := hgo hiN
        obtain ⟨y, hfy⟩ : ∃ y, (folL c ((i : Int) - 1) x).find? (fun y => anyA i y && canA c (saysK c) anyA (lastN c - i) i y w) = some y := by
          cases h : (folL c ((i : Int) - 1) x).find? (fun y => anyA i y && canA c (saysK c) anyA (lastN c - i) i y w) with
          | some y => exact ⟨y, rfl⟩
          | none =>
            obtain ⟨z, hz, hz2⟩ := List.any_eq_true.1 hany
            exact absurd hz2 (List.find?_eq_none.1 h z hz)
        have hgo2 := goOn_step hiN hgo hfy
        rw [restG_step hiN hfy] at hT2
        obtain ⟨k, hk⟩ : ∃ k : Int, (i : Int) - 1 = k := ⟨_, rfl⟩
        have hki : k + 1 = (i : Int) := by omega
        have hki2 : ((i + 1 : Nat) : Int) - 1 = k + 1 := by omega
        have hkl : k < (lastN c : Int) := by omega
        rw [hk] at hfy hre ⊢
        have hyb := fol_bounds o (k := k) hx (List.mem_of_find?_eq_some hfy)
        have hlast : lastF (triK c (allR c.Calendar)) = some ((lastN c : Nat) : Int) := if_pos ⟨ho, rfl⟩
        rw [hX]
        refine VW.run good [] ?_; simp (implicitDefEqProofs := false) [enc_list, hl3, get_hr hP3t, get_pre hl3, get_pre0 hl3, hlast, hkl]
        unfold VCo
        refine vc_follow hE rfl ?_
        have hl4 : ∀ a b c d : VObj, (P3 ++ [a, b, c, d]).length = m2 + 4 := fun a b c d => by simp [hl3]
        rw [hl4]
        simp (implicitDefEqProofs := false) [enc_list]
        obtain ⟨Y, hY⟩ : ∃ Y : Int → Int → VM, ∀ k' x', Y k' x' = [.cells [.map (m + 5)], .vec (encL out), .cells [.int .i64 k', .int .i64 x'], .cells [.int .i64 (w : Int)], .cells (triC c (allR c.Calendar) 5), .cells [.int .i64 k, .int .i64 x]] := ⟨_, fun _ _ => rfl⟩
        have hYl : ∀ k' x', (P3 ++ Y k' x').length = m2 + 6 := fun k' x' => by rw [hY]; simp [hl3]
        have hYn : ∀ k' x', (Y k' x').length = 6 := fun k' x' => by rw [hY]; rfl
        have hYu : ∀ k' x' j, m2 + 6 ≤ j → ∀ o ∈ P3 ++ Y k' x', o.und j := fun k' x' j hj o ho => by
          rw [hY] at ho
          rcases List.mem_append.1 ho with ho | ho
          · exact objs_any (by omega) (hP3u o ho)
          · simp only [List.mem_cons, List.not_mem_nil, or_false] at ho
            rcases ho with rfl | rfl | rfl | rfl | rfl | rfl
            · simp (implicitDefEqProofs := false); omega
            · trivial
            · simp (implicitDefEqProofs := false)
            · simp (implicitDefEqProofs := false)
            · simp (implicitDefEqProofs := false) [enc_list]; omega
            · simp (implicitDefEqProofs := false)
        rw [← hY]
        refine .ofCut (l := [(4, .ptr m 14 0), (8, .ptr m2 1 0), (9, sl1 (m2 + 1) out), (10, .ptr (m2 + 2) 2 0), (11, .ptr (m2 + 3) 1 0), (39, folC (m2 + 4) (m2 + 5))]) (M := P3 ++ Y k x) (cut_all (Nat.zero_le _) (by rw [hYl]; exact hYu _ _ _ (Nat.le_refl _)) (by rw [hYl]; simp (implicitDefEqProofs := false); omega)) ?_
        obtain ⟨p, hp⟩ : ∃ p : Int → Bool, ∀ y, p y = canA c (saysK c) anyA (lastN c - i) i y w := ⟨_, fun _ => rfl⟩
        have hpe : (fun y => anyA i y && canA c (saysK c) anyA (lastN c - i) i y w) = p := by funext z; rw [hp]; rfl
        rw [hpe] at hfy hany
        obtain ⟨J, hJ⟩ : ∃ J : Nat → VM → Prop, ∀ j pre, J j pre ↔ pre = P3 ++ Y k x ∧ ∀ z ∈ (folL c k x).take j, p z = false := ⟨_, fun _ _ => Iff.rfl⟩
        obtain ⟨D, hD⟩ : ∃ D : AExit → VM → Prop, ∀ e pre, D e pre ↔ e = .exit 2 ∧ pre = P3 ++ Y (k + 1) y := ⟨_, fun _ _ => Iff.rfl⟩
        refine VW.rangeFollow (tb := m2 + 4) (xb := m2 + 5) (n0 := m2 + 6) (mt := 5) (c := c) (all := allR c.Calendar) (k := k) (x := x) hE J D (by simp) o (by omega) hx rfl (mkF_und ?_) (hYl _ _) ((hJ _ _).2 ⟨rfl, by simp⟩) ?_ ?_ ?_ ?_
        · simp (implicitDefEqProofs := false); omega
        · intro j pre hj
          rw [((hJ _ _).1 hj).1]
          exact ⟨hYl _ _, by rw [hY, get_pre hl3]; rfl, by rw [hY, get_pre hl3]; rfl, hYu _ _ _ (by omega)⟩
        · intro j pre hj hjj Lr Lb hLb
          obtain ⟨hpre, hno⟩ := (hJ _ _).1 hjj
          subst hpre
          have hmz : (folL c k x)[j] ∈ folL c k x := List.getElem_mem hj
          have hfz : p (folL c k x)[j] = true → (folL c k x)[j] = y := fun h => by
            have : (folL c k x).find? p = some (folL c k x)[j] := by
              rw [List.find?_eq_some_iff_getElem]
              exact ⟨h, j, hj, rfl, fun q hq => by
                have := hno (folL c k x)[q] (List.mem_take_iff_getElem.2 ⟨q, by omega, rfl⟩)
                rw [this]; rfl⟩
            rw [hfy] at this
            exact (Option.some.inj this).symm
          have htm : ∀ z, z ∈ (folL c k x).take (j + 1) → z ∈ (folL c k x).take j ∨ z = (folL c k x)[j] := fun z hz => by
            rw [List.take_succ, List.mem_append, List.getElem?_eq_getElem hj] at hz
            simpa using hz
          generalize (folL c k x)[j] = z at *
          have hz1 := know_all c (saysK c) anyA q3 q4 i hiN z w (hre z hmz)
          obtain ⟨ix, v, hg1, hg2⟩ := Go.RS.find_has key_T ((i : Int), z, w) es3 0 q3.ok hz1
          rw [canVis_nat, ← hp] at hg2
          subst hg2
          refine VW.run good [] ?_; simp (implicitDefEqProofs := false) [enc_list, setParamsV, spliceV, hYn, hl3, hki]
          rw [hY]
          refine VW.block ?_
          have hko := keyOk_T ((i : Int), z, w)
          simp only [List.cons_append, List.nil_append]
          cases hpz : p z
          · rw [hpz] at hg1
            refine VW.run good [] ?_; simp (implicitDefEqProofs := false) [enc_list, hl3, get_pre hl3, get_pre0 hl3, set_pre hl3, get_hr hP3k, mapEsV, hko, hg1, lookResV, spliceV]
            refine ⟨P3 ++ Y k x, ⟨[.cells [.int .i64 (i : Int), .int .i64 z]], by rw [hY]; simp⟩, hYl _ _, .inl ⟨rfl, (hJ _ _).2 ⟨rfl, fun q hq => ?_⟩⟩⟩
            rcases htm q hq with hq | rfl
            · exact hno q hq
            · exact hpz
          · rw [hpz] at hg1
            have hzy := hfz hpz
            subst hzy
            refine VW.run good [] ?_; simp (implicitDefEqProofs := false) [enc_list, hl3, get_pre hl3, get_pre0 hl3, set_pre hl3, get_hr hP3k, mapEsV, hko, hg1, lookResV, spliceV]
            refine ⟨P3 ++ Y (k + 1) z, ⟨[.cells [.int .i64 (i : Int), .int .i64 z]], by rw [hY, hki]; simp⟩, hYl _ _, .inr ⟨by simp [AExit.leave], (hD _ _).2 ⟨rfl, rfl⟩⟩⟩
        · intro pre L ext hj
          obtain ⟨_, h⟩ := (hJ _ _).1 hj
          rw [List.take_length] at h
          exact absurd (List.find?_some hfy) (by rw [h _ (List.mem_of_find?_eq_some hfy)]; simp)
        · intro e pre L ext hd hpl hne
          obtain ⟨rfl, rfl⟩ := (hD _ _).1 hd
          rw [hY]
          simp (implicitDefEqProofs := false) [enc_list, AExit.leave]
          obtain ⟨f, hg1, hg2⟩ := say_look g1 (k + 1, y)
          have hanb := i_anb (a := w) (b := saysK c (k + 1) y) (by omega) (by have := saysK_b l6 (k + 1) y; omega)
          simp only at hg2
          have hk2' := keyOk_S (k + 1, y)
          have hz0 : PV.ofV E (Value.int .i64 0) = .int .i64 0 := rfl
          have hanl : anb w (saysK c (k + 1) y) < 2 ^ 61 := anb_lt _ hw
          rw [← hki] at hT2 hgo2
          have hf8 : fits (out.length + 1) 8 = true := fits8L (by omega)
          have e1 : (out ++ [y]).length = out.length + 1 := by simp
          generalize anb w (saysK c (k + 1) y) = w2 at *
          refine VW.run good [] ?_; simp (implicitDefEqProofs := false) [enc_list, hl3, get_pre hl3, get_pre0 hl3, set_pre hl3, get_hr hP3t, get_hr hP3m, spliceV, mapEsV, hk2', hg1, hg2, hz0, hanb, hf8]
          refine ⟨_, _, (hI (i + 1) _ (P3 ++ X (out ++ [y]) (k + 1) y w2)).2 ⟨y, w2, out ++ [y], rfl, by rw [hki2], fun h => by omega, hyb, hanl, by rw [e1, hol], by rw [hT2]; simp, hgo2⟩, ?_⟩
          have hu2 := hXu (out ++ [y]) (k + 1) y w2 (m2 + 4) (by omega)
          rw [hX] at hu2 ⊢
          refine cutY (j := m2 + 4) (X := [.cells [.map (m + 5)], .vec (encL (out ++ [y])), .cells [.int .i64 (k + 1), .int .i64 y], .cells [.int .i64 (w2 : Int)]]) (ext := _ :: _ :: VObj.loop L :: ext) (by simp [hl3]) (Nat.zero_le _) hu2 ?_
          simp (implicitDefEqProofs := false)
          omega
      · intro f mm hv
        obtain ⟨x, w, out, rfl, rfl, hx0, hx, hw, hol, hT2, hgo⟩ := (hI _ _ _).1 hv
        have hT3 : T = out := by rw [hT2]; unfold restG; rw [if_neg (by omega), List.append_nil]
        have hlast : lastF (triK c (allR c.Calendar)) = some ((lastN c : Nat) : Int) := if_pos ⟨ho, rfl⟩
        have hnl : ¬ ((lastN c + 1 : Nat) : Int) - 1 < (lastN c : Int) := by omega
        subst hT3
        rw [hX]
        generalize ((lastN c + 1 : Nat) : Int) - 1 = k at *
        refine VW.run good [] ?_; simp (implicitDefEqProofs := false) [enc_list, hl3, get_hr hP3t, get_pre hl3, get_pre0 hl3, hlast, hnl]
        refine cutY (j := m2 + 2) (X := [.cells [.map (m + 5)], .vec (encL T)]) (ext := [_, _]) (by simp [hl3]) (Nat.zero_le _) (fun q hq => ?_) (by simp (implicitDefEqProofs := false))
        rcases List.mem_append.1 hq with hq | hq
        · exact objs_any (by omega) (hP3u q hq)
        · simp only [List.mem_cons, List.not_mem_nil, or_false] at hq
          rcases hq with rfl | rfl
          · simp (implicitDefEqProofs := false); omega
          · trivial
    · simp (implicitDefEqProofs := false) [enc_list, AExit.leave]
      refine .ofCut hc (VW.freeze (t := m2 + 1) (len := T.length) (o := 0) (q := T.length) (cap := openCap + 1) (e := 1) 9 (by simp) (.ofCut (l := [(9, enc T)]) (M := []) ⟨0, [], by simp [enc_list,  get_pre hl3, take_al], by simp, by simp, by simp (implicitDefEqProofs := false) [enc_list,  get_pre hl3, take_al], by simp (implicitDefEqProofs := false) [enc_list,  get_pre hl3, take_al]⟩ ?_))
      refine VW.run good [] ?_; simp (implicitDefEqProofs := false) [enc_list, slV_al, take_al]
end Go.RS.DC

