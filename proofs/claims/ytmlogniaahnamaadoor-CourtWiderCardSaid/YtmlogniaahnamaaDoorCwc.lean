/- Walks: the program (18): what must be wrong: choices. -/
import Derived.Test.YtmlogniaahnamaaDoorCwb
set_option linter.all false
namespace Go.RS.DC
open Go Go.RS
open Go.RS.Enc (enc dec)
variable {E : VEnv}
theorem setOf_snoc : ∀ (l : List Int) (k : Nat), setOf (l ++ [(k : Int)]) = setOf l ||| 2 ^ k
  | [], k => by simp [setOf]
  | x :: l, k => by rw [List.cons_append, setOf, setOf, setOf_snoc l k, Nat.or_assoc]
theorem setOf_lt : ∀ (l : List Int) (n : Nat), (∀ k ∈ l, 0 ≤ k ∧ k < n) → setOf l < 2 ^ n
  | [], n, _ => Nat.pow_pos (by decide)
  | x :: l, n, h => by
    rw [setOf]
    have h1 := h x (by simp)
    exact Nat.or_lt_two_pow (Nat.pow_lt_pow_right (by decide) (by omega)) (setOf_lt l n fun k hk => h k (by simp [hk]))
set_option maxHeartbeats 1600000 in
set_option maxRecDepth 20000 in
theorem vc_can (hE : E.env.fn = G) {c : Case} (ho : okK c = true) {M : VM} {mt : Nat} (hu : ∀ o ∈ M, o.und M.length) (hs : ∃ es cl, M[mt]? = some (.map es cl) ∧ SayM (saysK c) es cl) {left : Nat} (hl : left < 2 ^ 61) {K : PV → VM → Prop}
    (hK : ∀ ext, K (.bool (canB c (saysK c) anyA (anb (fullK c) left))) (M ++ ext)) : VC E false (.func 60 [triV c (allR c.Calendar) mt] []) [.int .i64 (left : Int)] M K := by
  have o := okK_ok ho
  have l6 := o.l6
  have st := o.st
  have hfull : fullF (triK c (allR c.Calendar)) = some ((fullK c : Nat) : Int) := if_pos l6
  have hanb := i_anb (a := fullK c) (b := left) (by have := fold_full l6; omega) (by omega)
  have hanl : anb (fullK c) left < 2 ^ 61 := anb_lt _ (fold_full l6)
  obtain ⟨es, cl, hs1, hs2⟩ := hs
  have lmt := len_hr hs1
  generalize hn : M.length = n at *
  refine VC.func (A := F60) (by rw [hE]; rfl) (by simp [F60]) ?_
  unfold F60
  generalize anb (fullK c) left = w at *
  refine VW.seq (VW.run goodV_nil [] ?_); simp (implicitDefEqProofs := false) [enc_list, hn]
  refine VW.seq (VW.run (goodV_cons (k_full hE) goodV_nil) [] ?_)
  simp (implicitDefEqProofs := false) [enc_list, hn, get_pre hn, get_pre0 hn, hfull, hanb]
  unfold VCo
  refine vc_through hE o ho rfl (fun k x => saysK_b l6 k x) hanl (n := n + 1) (by simp [hn]) ?_ rfl ⟨es, cl, get_hr hs1 _, hs2⟩ (al_any hE) ?_
  · intro x hx
    rcases List.mem_append.1 hx with hx | hx
    · exact objs_any (by omega) (hu x hx)
    · rw [List.mem_singleton] at hx; subst hx
      simp (implicitDefEqProofs := false) [enc_list]; omega
  intro F es2 cl2 ext g1 g2
  have hrow : rowB F = canB c (saysK c) anyA w := row_can o (fun x => know_found c (saysK c) anyA g1 g2 (Nat.zero_le _) x)
  rw [hrow, List.append_assoc]
  have hK2 := hK
  generalize canB c (saysK c) anyA w = B at *
  have q4 : (0 : Int) < ((lastN c : Nat) : Int) + 1 := by omega
  cases B
  · simp (implicitDefEqProofs := false) [enc_list]
    refine VW.run goodV_nil [] ?_
    simp (implicitDefEqProofs := false) [enc_list]
    exact hK _
  · simp (implicitDefEqProofs := false) [enc_list]
    refine VW.run goodV_nil [] ?_
    simp (implicitDefEqProofs := false) [enc_list, q4]
    exact hK _
abbrev chsC (eb bb cb : Nat) : PV := .func 61 [] [.ptr eb 1 0, .ptr bb 12 0, .ptr cb 1 0]
structure WrongM (c : Case) (mt eb bb cb : Nat) (M : VM) : Prop where
  hb : M[bb]? = some (ccl c)
  he : M[eb]? = some (.cells [.func 60 [triV c (allR c.Calendar) mt] []])
  hc : M[cb]? = some (.cells [chsC eb bb cb])
  hs : ∃ es cl, M[mt]? = some (.map es cl) ∧ SayM (saysK c) es cl
theorem WrongM.grow {c : Case} {mt eb bb cb : Nat} {M : VM} (h : WrongM c mt eb bb cb M) (ext : VM) : WrongM c mt eb bb cb (M ++ ext) := ⟨get_hr h.hb ext, get_hr h.he ext, get_hr h.hc ext, by
  obtain ⟨es, cl, h1, h2⟩ := h.hs
  exact ⟨es, cl, get_hr h1 ext, h2⟩⟩
def LstV (l : List Int) (v : PV) : Prop := (v = .nilS ∧ l = []) ∨ ∃ ex, v = .lst ex l.length 1 (encL l) ∧ l ≠ []
/-- What is told of a choice. -/
def ChooseV : Option (List Int) → PV → Prop
  | some l, r => ∃ v, LstV l v ∧ r = .tup [v, .bool true]
  | none, r => ∃ v, (∀ j, v.und j = true) ∧ r = .tup [v, .bool false]
theorem LstV.und {l : List Int} {v : PV} (h : LstV l v) (j : Nat) : v.und j = true := by rcases h with ⟨rfl, rfl⟩ | ⟨ex, rfl, hnil⟩ <;> rfl
def nextF (l : List Int) : Nat := match l.getLast? with | none => 0 | some k => k.toNat + 1
theorem slV_00 : slV 0 none (some (PV.int .i64 0)) (some (PV.int .i64 0)) = some (0, 0, some 0) := rfl
theorem app_back (M : VM) (l : List Int) (k : Int) (h : l.length ≤ 10) : appendV M 1 8 (.lst true l.length 1 (encL l)) (.lst true 1 1 [.int .i64 k]) = some (.sl M.length (l ++ [k]).length 0 (l ++ [k]).length (openCap + 1) 1, M ++ [.vec (encL (l ++ [k]))]) := by
  have hf : fits (l.length + 1) 8 = true := fits8L (by omega)
  have he : encL (l ++ [k]) = encL l ++ [.int .i64 k] := (snoc_Int l k).symm
  have hl : (encL l).length = l.length := by rw [encL_length]; exact Nat.mul_one _
  rw [he]
  simp [appendV, elemsV, okE, hf, newVec, PV.isFL, PV.isF, isFL_append, encL_isF, hl]
theorem app_nil (M : VM) (k : Int) : appendV M 1 8 .nilS (.lst true 1 1 [.int .i64 k]) = some (.sl M.length ([] ++ [k]).length 0 ([] ++ [k]).length (openCap + 1) 1, M ++ [.vec (encL ([] ++ [k]))]) := by
  have hf : fits 1 8 = true := fits8L (by omega)
  have he : encL ([] ++ [k]) = [.int .i64 k] := rfl
  rw [he]
  simp [appendV, elemsV, okE, hf, newVec, PV.isFL, PV.isF]
theorem nextF_snoc (l : List Int) (k : Nat) : nextF (l ++ [(k : Int)]) = k + 1 := by unfold nextF; rw [List.getLast?_concat]; simp
section
variable {c : Case} {mt eb bb cb : Nat}
set_option maxHeartbeats 1600000 in
set_option maxRecDepth 20000 in
theorem vw_choose (hE : E.env.fn = G) (ho : okK c = true) : ∀ (r many : Nat) (l : List Int), l.length + r = many → many ≤ 10 → (∀ k ∈ l, 0 ≤ k ∧ k < c.Log.length) → ∀ (M : VM) (lv : PV) (K : PV → VM → Prop), WrongM c mt eb bb cb M → (∀ o ∈ M, o.und M.length) → LstV l lv → ∀ sw : Nat, sw = setOf l →
    (∀ v ext, ChooseV (chooseF (leftB c) c.Log.length r (nextF l) l) v → K v (M ++ ext)) →
    VW E M.length F61.body (mkF [(0, lv), (1, .int .i64 (sw : Int)), (2, .int .i64 many), (3, .ptr eb 1 0), (4, .ptr bb 12 0), (5, .ptr cb 1 0)]) M fun e fr M' => (e = .normal ∨ e = .ret) ∧ ∃ r, resultsV F61.results fr M' = some r ∧ K r M' := by
  have o := okK_ok ho
  have pl6 := o.l6
  intro r
  induction r with
  | zero =>
    intro many l hlm hm hl M lv K hM hu hv sw hsw hK
    have hlen : l.length = many := by omega
    have hlen' : (l.length : Int) = (many : Int) := by omega
    unfold F61
    refine VW.run goodV_nil [] ?_
    have hsl : sw < 2 ^ 61 := by
      rw [hsw]; exact Nat.lt_of_lt_of_le (setOf_lt l _ hl) (Nat.pow_le_pow_right (by decide) (by omega))
    have hE2 : ∀ K' : PV → VM → Prop, (∀ ext, K' (PV.bool (leftB c l)) (M ++ ext)) → VC E false (.func 60 [triV c (allR c.Calendar) mt] []) [.int .i64 (sw : Int)] M K' := fun K' h => vc_can hE ho hu hM.hs hsl (by rw [hsw]; exact h)
    have hfin : ∀ ext, K (.tup [lv, .bool (leftB c l)]) (M ++ ext) := fun ext => by
      refine hK _ _ ?_
      rw [chooseF]
      cases hs : leftB c l
      · exact ⟨lv, hv.und, rfl⟩
      · exact ⟨lv, hv, rfl⟩
    generalize leftB c l = B at *
    rcases hv with ⟨rfl, rfl⟩ | ⟨ex, rfl, hnil⟩
    · have h0 : many = 0 := by simpa using hlen.symm
      subst h0
      simp (implicitDefEqProofs := false) [enc_list, hM.he, spc_nil]
      unfold VCo
      refine hE2 _ fun ext => ?_
      have := hfin ext
      simp (implicitDefEqProofs := false) [enc_list]
      exact this
    · simp (implicitDefEqProofs := false) [enc_list, hlen', hlen, hM.he, spc_nil]
      unfold VCo
      rw [hlen] at hfin
      refine hE2 _ fun ext => ?_
      have := hfin ext
      simp (implicitDefEqProofs := false) [enc_list]
      exact this
  | succ r ih =>
    intro many l hlm hm hl M lv K hM hu hv sw hsw hK
    have hne : ¬ (l.length : Int) = (many : Int) := by omega
    have hne' : ¬ l.length = many := by omega
    have lb := len_hr hM.hb
    have le := len_hr hM.he
    have lc := len_hr hM.hc
    have hcall : ∀ k : Nat, k < c.Log.length → ∀ K' : PV → VM → Prop, (∀ v ext, ChooseV (chooseF (leftB c) c.Log.length r (k + 1) (l ++ [(k : Int)])) v → K' v (M ++ ext)) →
        VC E false (.func 61 [] [.ptr eb 1 0, .ptr bb 12 0, .ptr cb 1 0]) [.sl M.length (l ++ [(k : Int)]).length 0 (l ++ [(k : Int)]).length (openCap + 1) 1, .int .i64 ((sw ||| p2 k : Nat) : Int), .int .i64 many] (M ++ [.vec (encL (l ++ [(k : Int)]))]) K' := by
      intro k hk K' hK'
      have hnx := nextF_snoc l k
      have hsw2 : sw ||| p2 k = setOf (l ++ [(k : Int)]) := by rw [setOf_snoc, hsw]; rfl
      generalize sw ||| p2 k = sw2 at *
      have hWl : (l ++ [(k : Int)]).length = l.length + 1 := by simp
      have hWn : l ++ [(k : Int)] ≠ [] := by simp
      have hWr : ∀ j ∈ l ++ [(k : Int)], 0 ≤ j ∧ j < c.Log.length := fun j hj => by
        rcases List.mem_append.1 hj with hj | hj
        · exact hl j hj
        · rw [List.mem_singleton] at hj; omega
      generalize l ++ [(k : Int)] = W at *
      refine VC.func (A := F61) (by rw [hE]; rfl) (by simp [F61]) ?_
      have hlen1 : (M ++ [VObj.vec (encL W)]).length = (M ++ [VObj.gone]).length := by simp
      have hle := le_fzSl (M ++ [.vec (encL W)]) M.length W (by simp) (by decide)
      rw [show El.sz Int = 1 from rfl, Nat.mul_one] at hle
      refine VW.freeze (t := M.length) (len := W.length) (o := 0) (q := W.length) (cap := openCap + 1) (e := 1) 0 rfl ?_
      rw [show (M ++ [VObj.vec (encL W)]).set M.length .gone = M ++ [.gone] by simp, hlen1]
      have hu2 : ∀ o ∈ M ++ [VObj.gone], o.und (M ++ [VObj.gone]).length := fun o ho => by
        rw [show (M ++ [VObj.gone]).length = M.length + 1 by simp]
        rcases List.mem_append.1 ho with ho | ho
        · exact objs_any (by omega) (hu o ho)
        · rw [List.mem_singleton] at ho; subst ho; trivial
      refine .ofCut (l := [(0, .lst false W.length 1 (encL W)), (1, .int .i64 (sw2 : Int)), (2, .int .i64 many), (3, .ptr eb 1 0), (4, .ptr bb 12 0), (5, .ptr cb 1 0)]) (M := M ++ [.gone]) (cut_all (Nat.le_refl _) hu2 ?_) ?_
      · rw [show (M ++ [VObj.gone]).length = M.length + 1 by simp]
        intro pp hpp
        simp only [List.mem_cons, List.not_mem_nil, or_false] at hpp
        rcases hpp with rfl | rfl | rfl | rfl | rfl | rfl
        · exact ⟨of_eq_true hle, rfl⟩
        · exact ⟨le_refl _, rfl⟩
        · exact ⟨le_refl _, rfl⟩
        · exact ⟨le_refl _, decide_eq_true (by omega)⟩
        · exact ⟨le_refl _, decide_eq_true (by omega)⟩
        · exact ⟨le_refl _, decide_eq_true (by omega)⟩
      refine ih many W (by omega) hm hWr (M ++ [.gone]) _ K' (hM.grow _) hu2 (.inr ⟨false, rfl, hWn⟩) sw2 hsw2 ?_
      intro v ext hv
      rw [hnx] at hv
      have := hK' v (.gone :: ext) hv
      simpa using this
    unfold F61
    refine VW.run goodV_nil [] ?_
    rcases hv with ⟨rfl, rfl⟩ | ⟨ex, rfl, hnil⟩
    · have hne2 : ¬ (0 : Int) = (many : Int) := by simp at hne'; omega
      have hne3 : ¬ 0 = many := by simpa using hne'
      simp (implicitDefEqProofs := false) [enc_list, hne2, hne3, hM.he, spc_nil]
      generalize hC : chooseF (leftB c) c.Log.length (r + 1) (nextF []) [] = C at hK
      obtain ⟨N, hN⟩ : ∃ N, c.Log.length - nextF [] = N := ⟨_, rfl⟩
      rw [chooseF, hN] at hC
      generalize hF : nextF [] = F at *
      have hF0 : F = 0 := hF.symm
      refine VW.loop_to 0 [] M (C = none) ?_ (fun hp f m hc => ?_)
      · obtain ⟨Inv, hI⟩ : ∃ Inv : Nat → List (Nat × PV) → VM → Prop, ∀ i f m, Inv i f m ↔ (f = [(0, .nilS), (1, .int .i64 (sw : Int)), (2, .int .i64 many), (3, .ptr eb 1 0), (4, .ptr bb 12 0), (5, .ptr cb 1 0), (12, .int .i64 ((F + i : Nat) : Int))] ∧ m = M ∧ tryF (fun k => chooseF (leftB c) c.Log.length r (k + 1) ([] ++ [(k : Int)])) (N - i) (F + i) = C) := ⟨_, fun _ _ _ => Iff.rfl⟩
        refine VW.loop_cut Inv N ?_ ?_ ?_
        · exact ⟨_, _, (hI _ _ _).2 ⟨rfl, rfl, hC⟩, cut_all (Nat.le_refl _) hu (by simp (implicitDefEqProofs := false) [enc_list, lb, le, lc, hF0])⟩
        · intro i f m hi hv
          obtain ⟨rfl, rfl, hT⟩ := (hI _ _ _).1 hv
          rw [show N - i = N - (i + 1) + 1 by omega, tryF] at hT
          obtain ⟨k, hk⟩ : ∃ k, F + i = k := ⟨_, rfl⟩
          rw [hk] at hT
          have hk1 : (k : Int) < c.Log.length := by omega
          have hk2 : k < c.Log.length := by omega
          have w1 : IntKind.i64.wrap ((k : Int) + 1) = k + 1 := wrap64 (by omega) (by omega)
          rw [hk]
          have hshl := i_shl (n := k) (by omega)
          have hsl : sw < 2 ^ 61 := by
            rw [hsw]; exact Nat.lt_of_lt_of_le (setOf_lt _ _ hl) (Nat.pow_le_pow_right (by decide) (by omega))
          have hor := i_or (a := sw) (b := p2 k) (by omega) (p2_lt (by omega))
          refine VW.run goodV_nil [] ?_; simp (implicitDefEqProofs := false) [enc_list, -binInt_or, -binInt_shl, hshl, hor, get_hr hM.hb, hM.hb, hM.hc, hk1, hk2, spliceV, w1, spc_capt, slV_00, app_nil]
          unfold VCo
          refine hcall k hk2 _ ?_
          intro v ext hcv
          cases hC2 : chooseF (leftB c) c.Log.length r (k + 1) ([] ++ [(k : Int)]) with
          | some l' =>
            rw [hC2] at hcv hT
            obtain ⟨w, hw, rfl⟩ := hcv
            have := hK (.tup [w, .bool true]) ext (by rw [← hT]; exact ⟨w, hw, rfl⟩)
            simp (implicitDefEqProofs := false) [enc_list]
            exact this
          | none =>
            rw [hC2] at hcv hT
            obtain ⟨w, hw, rfl⟩ := hcv
            simp (implicitDefEqProofs := false) [enc_list, w1]
            refine ⟨_, _, (hI _ _ _).2 ⟨rfl, rfl, ?_⟩, cut_pre' rfl (Nat.le_refl _) hu ?_⟩
            · rw [show F + (i + 1) = k + 1 by omega]; exact hT
            · rw [show ((F + (i + 1) : Nat) : Int) = (k : Int) + 1 by omega]
              simp (implicitDefEqProofs := false) [enc_list, lb, le, lc]
        · intro f m hv
          obtain ⟨rfl, rfl, hT⟩ := (hI _ _ _).1 hv
          rw [Nat.sub_self, tryF] at hT
          have hk1 : ¬ ((F + N : Nat) : Int) < c.Log.length := by omega
          obtain ⟨k, hk⟩ : ∃ k, F + N = k := ⟨_, rfl⟩
          rw [hk] at hk1 ⊢
          have hk2 : ¬ k < c.Log.length := by omega
          refine VW.run goodV_nil [] ?_; simp (implicitDefEqProofs := false) [enc_list, hM.hb, hk1, hk2]
          exact ⟨hT.symm, cut_all (Nat.le_refl _) hu (by simp)⟩
      · have := hK (.tup [.nilS, .bool false]) [] (by rw [hp]; exact ⟨.nilS, fun _ => rfl, rfl⟩)
        rw [List.append_nil] at this
        simp (implicitDefEqProofs := false); refine .ofCut hc (VW.run goodV_nil [] ?_); simp (implicitDefEqProofs := false) [enc_list]
        exact this
    · have hpos : 0 < l.length := List.length_pos_iff.2 hnil
      have hpos' : (0 : Int) < (l.length : Int) := by omega
      obtain ⟨q, hq⟩ : ∃ q, l.length = q + 1 := ⟨l.length - 1, by omega⟩
      have hq1 : q < l.length := by omega
      have hq2 : (q : Int) < (l.length : Int) := by omega
      have w2 : IntKind.i64.wrap ((l.length : Int) - 1) = (q : Int) := by rw [wrap64 (by omega) (by omega)]; omega
      have hg := get_Int l q hq1
      have hx := hl _ (List.getElem_mem hq1)
      have hnl0 : nextF l = l[q].toNat + 1 := by
        unfold nextF
        rw [List.getLast?_eq_getElem?, show l.length - 1 = q by omega, List.getElem?_eq_getElem hq1]
      generalize l[q] = xq at *
      obtain ⟨y, rfl⟩ : ∃ y : Nat, xq = y := ⟨xq.toNat, by omega⟩
      have hnl : nextF l = y + 1 := by rw [hnl0]; simp
      have w3 : IntKind.i64.wrap ((y : Int) + 1) = y + 1 := wrap64 (by omega) (by omega)
      simp (implicitDefEqProofs := false) [enc_list, hne, hne', hM.he, spc_nil, hpos, hpos', hq1, hq2, w2, hg, w3]
      generalize hC : chooseF (leftB c) c.Log.length (r + 1) (nextF l) l = C at hK
      obtain ⟨N, hN⟩ : ∃ N, c.Log.length - nextF l = N := ⟨_, rfl⟩
      rw [chooseF, hN] at hC
      generalize hF : nextF l = F at *
      have hF0 : F = y + 1 := hnl
      refine VW.loop_to 0 [] M (C = none) ?_ (fun hp f m hc => ?_)
      · obtain ⟨Inv, hI⟩ : ∃ Inv : Nat → List (Nat × PV) → VM → Prop, ∀ i f m, Inv i f m ↔ (f = [(0, .lst ex l.length 1 (encL l)), (1, .int .i64 (sw : Int)), (2, .int .i64 many), (3, .ptr eb 1 0), (4, .ptr bb 12 0), (5, .ptr cb 1 0), (12, .int .i64 ((F + i : Nat) : Int))] ∧ m = M ∧ tryF (fun k => chooseF (leftB c) c.Log.length r (k + 1) (l ++ [(k : Int)])) (N - i) (F + i) = C) := ⟨_, fun _ _ _ => Iff.rfl⟩
        refine VW.loop_cut Inv N ?_ ?_ ?_
        · exact ⟨_, _, (hI _ _ _).2 ⟨rfl, rfl, hC⟩, cut_all (Nat.le_refl _) hu (by simp (implicitDefEqProofs := false) [enc_list, lb, le, lc, hF0])⟩
        · intro i f m hi hv
          obtain ⟨rfl, rfl, hT⟩ := (hI _ _ _).1 hv
          rw [show N - i = N - (i + 1) + 1 by omega, tryF] at hT
          obtain ⟨k, hk⟩ : ∃ k, F + i = k := ⟨_, rfl⟩
          rw [hk] at hT
          have hk1 : (k : Int) < c.Log.length := by omega
          have hk2 : k < c.Log.length := by omega
          have w1 : IntKind.i64.wrap ((k : Int) + 1) = k + 1 := wrap64 (by omega) (by omega)
          rw [hk]
          have hshl := i_shl (n := k) (by omega)
          have hsl : sw < 2 ^ 61 := by
            rw [hsw]; exact Nat.lt_of_lt_of_le (setOf_lt _ _ hl) (Nat.pow_le_pow_right (by decide) (by omega))
          have hor := i_or (a := sw) (b := p2 k) (by omega) (p2_lt (by omega))
          refine VW.run goodV_nil [] ?_; simp (implicitDefEqProofs := false) [enc_list, -binInt_or, -binInt_shl, hshl, hor, get_hr hM.hb, hM.hb, hM.hc, hk1, hk2, spliceV, w1, spc_capt, slV_al, take_al, app_back m l k (by omega)]
          unfold VCo
          have hcl := hcall k hk2
          rw [show (l ++ [(k : Int)]).length = l.length + 1 by simp] at hcl
          refine hcl _ ?_
          intro v ext hcv
          cases hC2 : chooseF (leftB c) c.Log.length r (k + 1) (l ++ [(k : Int)]) with
          | some l' =>
            rw [hC2] at hcv hT
            obtain ⟨w, hw, rfl⟩ := hcv
            have := hK (.tup [w, .bool true]) ext (by rw [← hT]; exact ⟨w, hw, rfl⟩)
            simp (implicitDefEqProofs := false) [enc_list]
            exact this
          | none =>
            rw [hC2] at hcv hT
            obtain ⟨w, hw, rfl⟩ := hcv
            simp (implicitDefEqProofs := false) [enc_list, w1]
            refine ⟨_, _, (hI _ _ _).2 ⟨rfl, rfl, ?_⟩, cut_pre' rfl (Nat.le_refl _) hu ?_⟩
            · rw [show F + (i + 1) = k + 1 by omega]; exact hT
            · rw [show ((F + (i + 1) : Nat) : Int) = (k : Int) + 1 by omega]
              simp (implicitDefEqProofs := false) [enc_list, lb, le, lc]
        · intro f m hv
          obtain ⟨rfl, rfl, hT⟩ := (hI _ _ _).1 hv
          rw [Nat.sub_self, tryF] at hT
          have hk1 : ¬ ((F + N : Nat) : Int) < c.Log.length := by omega
          obtain ⟨k, hk⟩ : ∃ k, F + N = k := ⟨_, rfl⟩
          rw [hk] at hk1 ⊢
          have hk2 : ¬ k < c.Log.length := by omega
          refine VW.run goodV_nil [] ?_; simp (implicitDefEqProofs := false) [enc_list, hM.hb, hk1, hk2]
          exact ⟨hT.symm, cut_all (Nat.le_refl _) hu (by simp)⟩
      · have := hK (.tup [.nilS, .bool false]) [] (by rw [hp]; exact ⟨.nilS, fun _ => rfl, rfl⟩)
        rw [List.append_nil] at this
        simp (implicitDefEqProofs := false); refine .ofCut hc (VW.run goodV_nil [] ?_); simp (implicitDefEqProofs := false) [enc_list]
        exact this
end
end Go.RS.DC

/- Walks: the program (19): Wrong. -/
namespace Go.RS.DC
open Go Go.RS
open Go.RS.Enc (enc dec)
variable {E : VEnv}
set_option maxHeartbeats 1600000 in
set_option maxRecDepth 20000 in
theorem k_Wrong (hE : E.env.fn = G) (hgl : E.gl 1 = some [f130v, f131v]) : Ok E 29 (s1 fun (c : Case) => some (WrongR c)) := by
  refine ok1 fun c r hr => ?_
  cases hr
  refine VP.func (A := F29) (by rw [hE]; rfl) (by simp [F29]) ?_; unfold F29
  refine VW.seq (VW.run goodV_nil [] ?_); simp (implicitDefEqProofs := false) [enc_list]
  refine VW.seq (VW.run goodV_nil [] ?_)
  simp (implicitDefEqProofs := false) [enc_list]
  unfold VCo
  refine vc_opened hE hgl (n := 1) (M := [ccl c]) rfl ?_ (fun ho => ?_) (fun ho es cl hs => ?_)
  · intro x hx
    rw [List.mem_singleton] at hx
    subst hx
    simp (implicitDefEqProofs := false) [enc_list]
  · have hR : WrongR c = ([], 100) := by unfold WrongR; rw [ho]; rfl
    simp (implicitDefEqProofs := false) [enc_list]
    refine VW.run goodV_nil [] ?_
    simp (implicitDefEqProofs := false) [enc_list, hR]
  · have o := okK_ok ho
    have l6 := o.l6
    have hR : WrongR c = (wrongL c, 0) := by unfold WrongR; rw [ho]; rfl
    rw [hR]
    unfold wrongL
    generalize hT : needF (leftB c) c.Log.length = T
    unfold needF at hT
    have w0 : IntKind.i64.wrap ((c.Log.length : Int) + 1) = ((c.Log.length + 1 : Nat) : Int) := by rw [wrap64 (by omega) (by omega)]; omega
    obtain ⟨N, hN⟩ : ∃ N, c.Log.length + 1 = N := ⟨_, rfl⟩
    rw [hN] at w0 hT
    obtain ⟨X, hX⟩ : ∃ X : VM, X = [ccl c, ccl c, .cells (triC c (allR c.Calendar) 3), .map es cl, .cells (triC c (allR c.Calendar) 3), .cells (triC c (allR c.Calendar) 3), .cells [.func 60 [triV c (allR c.Calendar) 3] []], .cells [chsC 6 0 7]] := ⟨_, rfl⟩
    have hXl : X.length = 8 := by rw [hX]; rfl
    have hXu : ∀ o ∈ X, o.und 8 := fun o ho => by
      rw [hX] at ho
      simp only [List.mem_cons, List.not_mem_nil, or_false] at ho
      rcases ho with rfl | rfl | rfl | rfl | rfl | rfl | rfl | rfl
      · simp (implicitDefEqProofs := false) [enc_list]
      · simp (implicitDefEqProofs := false) [enc_list]
      · simp (implicitDefEqProofs := false) [enc_list]
      · exact sayM_und hs _ _
      · simp (implicitDefEqProofs := false) [enc_list]
      · simp (implicitDefEqProofs := false) [enc_list]
      · simp (implicitDefEqProofs := false) [enc_list]
      · simp (implicitDefEqProofs := false)
    have hXw : WrongM c 3 6 0 7 X := by rw [hX]; exact ⟨rfl, rfl, rfl, es, cl, rfl, hs⟩
    simp (implicitDefEqProofs := false) [enc_list, spliceV]
    refine VW.seq (VW.run goodV_nil [] ?_); simp (implicitDefEqProofs := false) [enc_list]
    refine VW.seq (VW.run goodV_nil [] ?_); simp (implicitDefEqProofs := false) [enc_list, spliceV]
    refine VW.seq (VW.run goodV_nil [] ?_); simp (implicitDefEqProofs := false) [enc_list, spliceV]
    refine VW.seq (VW.run goodV_nil [] ?_); simp (implicitDefEqProofs := false) [enc_list, spliceV]
    refine VW.seq (VW.run goodV_nil [] ?_); simp (implicitDefEqProofs := false) [enc_list, w0]
    refine VW.loop_to 0 [] [] (T = none) ?_ (fun hp f m hc => ?_)
    · obtain ⟨Inv, hI⟩ : ∃ Inv : Nat → List (Nat × PV) → VM → Prop, ∀ i f m, Inv i f m ↔ (f = [(7, .ptr 7 1 0), (25, .int .i64 N), (26, .int .i64 i)] ∧ m = X ∧ tryF (fun many => chooseF (leftB c) c.Log.length many 0 []) (N - i) i = T) := ⟨_, fun _ _ _ => Iff.rfl⟩
      refine VW.loop_cut Inv N ?_ ?_ ?_
      · refine ⟨_, _, (hI _ _ _).2 ⟨rfl, rfl, hT⟩, ?_⟩
        rw [hX] at hXl hXu ⊢
        refine cut_all (Nat.zero_le _) hXu ?_
        simp (implicitDefEqProofs := false)
      · intro i f m hi hv
        obtain ⟨rfl, hm, hs2⟩ := (hI _ _ _).1 hv
        subst hm
        rw [show N - i = N - (i + 1) + 1 by omega, tryF] at hs2
        have v1 : IntKind.i64.wrap ((i : Int) + 1) = i + 1 := wrap64 (by omega) (by omega)
        have hi' : (i : Int) < (N : Int) := by omega
        have hc7 : m[7]? = some (.cells [chsC 6 0 7]) := hXw.hc
        refine VW.run goodV_nil [] ?_; simp (implicitDefEqProofs := false) [enc_list, hi, hi', hc7, spc_nil]
        unfold VCo
        refine VC.func (A := F61) (by rw [hE]; rfl) (by simp [F61]) ?_
        refine .ofCut (l := [(0, .nilS), (1, .int .i64 ((0 : Nat) : Int)), (2, .int .i64 i), (3, .ptr 6 1 0), (4, .ptr 0 12 0), (5, .ptr 7 1 0)]) (M := m) (cut_all (Nat.le_refl _) (by rw [hXl]; exact hXu) (by rw [hXl]; simp (implicitDefEqProofs := false))) ?_
        refine vw_choose (mt := 3) (eb := 6) (bb := 0) (cb := 7) hE ho i i [] (by simp) (by omega) (by simp) _ _ _ hXw (by rw [hXl]; exact hXu) (.inl ⟨rfl, rfl⟩) 0 rfl ?_
        intro v ext hcv
        rw [show nextF [] = 0 from rfl] at hcv
        cases hC2 : chooseF (leftB c) c.Log.length i 0 [] with
        | some l' =>
          rw [hC2] at hcv hs2
          simp only at hs2
          subst hs2
          obtain ⟨w, hw, rfl⟩ := hcv
          rcases hw with ⟨rfl, rfl⟩ | ⟨ex, rfl, _⟩
          · simp (implicitDefEqProofs := false) [enc_list, slV_00]
          · simp (implicitDefEqProofs := false) [enc_list, slV_al, take_al]
        | none =>
          rw [hC2] at hcv hs2
          obtain ⟨w, hw, rfl⟩ := hcv
          simp (implicitDefEqProofs := false) [enc_list, v1]
          refine ⟨_, _, (hI _ _ _).2 ⟨rfl, rfl, hs2⟩, cut_pre' hXl (Nat.zero_le _) hXu (by simp (implicitDefEqProofs := false))⟩
      · intro f m hv
        obtain ⟨rfl, hm, hs2⟩ := (hI _ _ _).1 hv
        rw [Nat.sub_self, tryF] at hs2
        refine VW.run goodV_nil [] ?_; simp (implicitDefEqProofs := false) [enc_list]
        exact ⟨hs2.symm, ⟨0, [], by simp [enc_list], by simp, by simp, by simp (implicitDefEqProofs := false) [enc_list], by simp (implicitDefEqProofs := false) [enc_list]⟩⟩
    · simp (implicitDefEqProofs := false); refine .ofCut hc (VW.run goodV_nil [] ?_); simp (implicitDefEqProofs := false) [enc_list, hp]
end Go.RS.DC

/- Walks: the program (20): what a claim marks. -/
namespace Go.RS.DC
open Go Go.RS
open Go.RS.Enc (enc dec)
variable {E : VEnv}
def markI (p : Int → Bool) (k : Int) : Nat → Int → List (Int × Int)
  | 0, _ => []
  | n + 1, off => if p off then (k, off) :: markI p k n (off + 1) else markI p k n (off + 1)
def markO (p : Int → Bool) : Nat → Int → List (Int × Int)
  | 0, _ => []
  | n + 1, k => markI p k 61 (-30) ++ markO p n (k + 1)
theorem mem_markI {p : Int → Bool} {k : Int} {q : Int × Int} : ∀ (n : Nat) (off : Int), q ∈ markI p k n off ↔ q.1 = k ∧ off ≤ q.2 ∧ q.2 < off + n ∧ p q.2 = true
  | 0, off => by simp [markI]; omega
  | n + 1, off => by
    have ih := mem_markI (p := p) (k := k) (q := q) n (off + 1)
    rw [markI]
    by_cases hp : p off = true
    · rw [if_pos hp, List.mem_cons, ih]
      constructor
      · rintro (rfl | ⟨h1, h2, h3, h4⟩)
        · exact ⟨rfl, Int.le_refl _, by simp only; omega, hp⟩
        · exact ⟨h1, by omega, by omega, h4⟩
      · rintro ⟨h1, h2, h3, h4⟩
        by_cases ho : q.2 = off
        · left; exact Prod.ext h1 ho
        · right; exact ⟨h1, by omega, by omega, h4⟩
    · rw [if_neg hp, ih]
      constructor
      · rintro ⟨h1, h2, h3, h4⟩; exact ⟨h1, by omega, by omega, h4⟩
      · rintro ⟨h1, h2, h3, h4⟩
        have : q.2 ≠ off := fun ho => hp (by rw [← ho]; exact h4)
        exact ⟨h1, by omega, by omega, h4⟩
theorem mem_markO {p : Int → Bool} {q : Int × Int} : ∀ (n : Nat) (k : Int), q ∈ markO p n k ↔ (k ≤ q.1 ∧ q.1 < k + n) ∧ (-30 ≤ q.2 ∧ q.2 ≤ 30) ∧ p q.2 = true
  | 0, k => by simp [markO]; omega
  | n + 1, k => by
    rw [markO, List.mem_append, mem_markI, mem_markO n (k + 1)]
    constructor
    · rintro (⟨h1, h2, h3, h4⟩ | ⟨⟨h1, h2⟩, h3, h4⟩)
      · exact ⟨by omega, by omega, h4⟩
      · exact ⟨by omega, h3, h4⟩
    · rintro ⟨⟨h1, h2⟩, h3, h4⟩
      by_cases h : q.1 = k
      · left; exact ⟨h, h3.1, by omega, h4⟩
      · right; exact ⟨by omega, h3, h4⟩
theorem hasP_mark (p : Int → Bool) (a b : Int) : hasP (markO p (b - a + 1).toNat a) = fun k off => wi off (-30) 30 && wi k a b && p off := by
  funext k off
  unfold hasP
  rw [Bool.eq_iff_iff, List.contains_iff_mem, mem_markO]
  simp only [Bool.and_eq_true, wi_iff]
  constructor
  · rintro ⟨⟨h1, h2⟩, h3, h4⟩; exact ⟨⟨h3, by omega, by omega⟩, h4⟩
  · rintro ⟨⟨h3, h1, h2⟩, h4⟩; exact ⟨⟨by omega, by omega⟩, h3, h4⟩
abbrev clmC (x : Claim) : List PV := [.int .i64 x.Kind, .int .i64 x.When.Low, .int .i64 x.When.High, .int .i64 x.Reading.Day, .int .i64 x.Reading.Hour, .int .i64 x.Reading.Minute, .int .i64 x.Reading.Second, .int .i64 x.Ticks]
set_option maxHeartbeats 3200000 in
set_option maxRecDepth 20000 in
theorem vc_mark (hE : E.env.fn = G) {c : Case} (ho : okK c = true) {M : VM} {mt ig : Nat} {icap : List PV} {p : Int → Bool} {es : List (PV × PV × Nat)} {clock : Nat} {S : Says2} {x : Claim} {K : PV → VM → Prop}
    (hS : ∀ k x, S k x < 2 ^ 61) (hM : M[mt]? = some (.map es clock)) (hs : SayM S es clock) (hu : ∀ o ∈ M, o.und M.length) (hx : 0 ≤ x.When.Low ∧ x.When.Low ≤ x.When.High ∧ x.When.High ≤ allR c.Calendar - 1) (hic : PV.undL M.length icap = true)
    (his : ∀ es' cl' ext (off : Int) (K : PV → VM → Prop), -30 ≤ off → off ≤ 30 → K (.bool (p off)) (M.set mt (.map es' cl') ++ ext) → VC E false (.func ig [] icap) [.int .i64 off] (M.set mt (.map es' cl') ++ ext) K)
    (hK : ∀ es' clock' ext, SayM (orS S c.Log.length (fun k off => wi off (-30) 30 && wi k (x.When.Low / c.Each) (x.When.High / c.Each) && p off)) es' clock' → K (.tup []) (M.set mt (.map es' clock') ++ ext)) :
    VC E false (.func 129 [] []) [triV c (allR c.Calendar) mt, .agg (clmC x), .func ig [] icap] M K := by
  have o := okK_ok ho
  have a1 := o.a1
  have a2 := o.a2
  have e1 := o.e1
  have l6 := o.l6
  have lm := (List.getElem?_eq_some_iff.1 hM).1
  have good := goodV_cons (k_stage hE) goodV_nil
  obtain ⟨ka, hka⟩ : ∃ ka, x.When.Low / c.Each = ka := ⟨_, rfl⟩
  obtain ⟨kb, hkb⟩ : ∃ kb, x.When.High / c.Each = kb := ⟨_, rfl⟩
  have hle : ka ≤ kb := by rw [← hka, ← hkb]; exact Int.ediv_le_ediv (by omega) hx.2.1
  have hk0 : 0 ≤ ka := by rw [← hka]; exact Int.ediv_nonneg hx.1 (by omega)
  have hkb40 : kb < 40 := by
    have := stage_le o (show 0 ≤ x.When.High by omega) (show x.When.High < allR c.Calendar by omega)
    have := o.st
    omega
  have hsl : stageF (triK c (allR c.Calendar)) x.When.Low = some ka := by rw [← hka]; exact if_pos ⟨e1, hx.1, by omega⟩
  have hsh : stageF (triK c (allR c.Calendar)) x.When.High = some kb := by rw [← hkb]; exact if_pos ⟨e1, by omega, by omega⟩
  obtain ⟨T, hTo⟩ : ∃ T, markO p (kb - ka + 1).toNat ka = T := ⟨_, rfl⟩
  have hfin : (fun k off => wi off (-30) 30 && wi k (x.When.Low / c.Each) (x.When.High / c.Each) && p off) = hasP T := by rw [hka, hkb, ← hTo, hasP_mark]
  rw [hfin] at hK
  refine VC.func (A := F129) (by rw [hE]; rfl) (by simp [F129]) ?_
  unfold F129
  generalize hnl : M.length = n at *
  have hMs : M.set mt (.map es clock) = M := set_get_same hM
  have hPl : ∀ x : VObj, (M.set mt x).length = n := fun x => by simp [hnl]
  have hund : ∀ {S' es' clock'}, SayM S' es' clock' → ∀ j, n ≤ j → ∀ o ∈ M.set mt (.map es' clock'), o.und j := fun h j hj => set_und (fun o ho => objs_any hj (hu o ho)) (sayM_und h _ _)
  refine VW.seq (VW.run good [] ?_); simp (implicitDefEqProofs := false) [enc_list, hnl, get_pre hnl, get_pre0 hnl]
  refine VW.seq (VW.run good [] ?_); simp (implicitDefEqProofs := false) [enc_list, hnl, get_pre hnl, get_pre0 hnl, hsl]
  have hcut : ∀ {S' : Says2} {es' : List (PV × PV × Nat)} {cl' : Nat} (fr : VFr) (l : List (Nat × PV)) (ext : VM), SayM S' es' cl' → (∀ p ∈ l, (fr p.1).le p.2 ∧ p.2.und (n + 2) = true) → Cut n fr (M.set mt (.map es' cl') ++ (.cells (triC c (allR c.Calendar) mt) :: .cells (clmC x) :: ext)) l (M.set mt (.map es' cl') ++ [.cells (triC c (allR c.Calendar) mt), .cells (clmC x)]) := by
    intro S' es' cl' fr l ext h1 h2
    refine cutY (j := n + 2) (X := [.cells (triC c (allR c.Calendar) mt), .cells (clmC x)]) (by simp [hnl]) (by omega) ?_ h2
    intro y hy
    rcases List.mem_append.1 hy with hy | hy
    · exact hund h1 _ (by omega) y hy
    · simp only [List.mem_cons, List.not_mem_nil, or_false] at hy
      rcases hy with rfl | rfl
      · simp (implicitDefEqProofs := false) [enc_list]; omega
      · simp (implicitDefEqProofs := false)
  have hiu := undL_any (show n ≤ n + 2 by omega) hic
  refine VW.run good [] ?_; simp (implicitDefEqProofs := false) [enc_list]
  obtain ⟨Inv, hI⟩ : ∃ Inv : Nat → List (Nat × PV) → VM → Prop, ∀ i f m, Inv i f m ↔ (∃ D es' clock', f = [(2, .func ig [] icap), (3, .ptr n 14 0), (4, .ptr (n + 1) 8 0), (6, .int .i64 (ka + (i : Int)))] ∧ m = M.set mt (.map es' clock') ++ [.cells (triC c (allR c.Calendar) mt), .cells (clmC x)] ∧ D ++ markO p ((kb - ka + 1).toNat - i) (ka + (i : Int)) = T ∧ SayM (orS S c.Log.length (hasP D)) es' clock') := ⟨_, fun _ _ _ => Iff.rfl⟩
  obtain ⟨N, hN⟩ : ∃ N, (kb - ka + 1).toNat = N := ⟨_, rfl⟩
  rw [hN] at hTo
  refine VW.loop_cut Inv N ?_ ?_ ?_
  · have h0 : (orS S c.Log.length (hasP ([] : List (Int × Int)))) = S := by funext k x; rfl
    refine ⟨_, _, (hI _ _ _).2 ⟨[], es, clock, rfl, rfl, by rw [hN]; simpa using hTo, by rw [h0]; exact hs⟩, ?_⟩
    have := fun fr l => hcut fr l [] hs
    rw [hMs] at this ⊢
    refine this _ _ ?_
    simp (implicitDefEqProofs := false) [hiu]
  · intro i f m hi hv
    obtain ⟨D, es1, cl1, rfl, rfl, hD, hs1⟩ := (hI _ _ _).1 hv
    rw [hN, show N - i = (N - (i + 1)) + 1 by omega, markO] at hD
    obtain ⟨k, hk⟩ : ∃ k, ka + (i : Int) = k := ⟨_, rfl⟩
    have hk1 : ka + ((i + 1 : Nat) : Int) = k + 1 := by omega
    have wk : IntKind.i64.wrap (k + 1) = k + 1 := wrap64 (by omega) (by omega)
    have hkk : k ≤ kb := by omega
    rw [hk] at hD ⊢
    have hP := hPl (.map es1 cl1)
    refine VW.run good [] ?_; simp (implicitDefEqProofs := false) [enc_list, get_pre hP, get_pre0 hP, hsh, hkk]
    refine VW.loop_toE 2 (fun (q : (List (PV × PV × Nat) × Nat) × List (Int × Int)) => [(2, .func ig [] icap), (3, .ptr n 14 0), (4, .ptr (n + 1) 8 0), (6, .int .i64 k)]) (fun (q : (List (PV × PV × Nat) × Nat) × List (Int × Int)) => M.set mt (.map q.1.1 q.1.2) ++ [.cells (triC c (allR c.Calendar) mt), .cells (clmC x)]) (fun (q : (List (PV × PV × Nat) × Nat) × List (Int × Int)) => q.2 ++ markO p (N - (i + 1)) (k + 1) = T ∧ SayM (orS S c.Log.length (hasP q.2)) q.1.1 q.1.2) ?_ (fun q hp f m hc => ?_)
    · obtain ⟨Inv2, hI2⟩ : ∃ Inv : Nat → List (Nat × PV) → VM → Prop, ∀ q f m, Inv q f m ↔ (∃ D es' clock', f = [(2, .func ig [] icap), (3, .ptr n 14 0), (4, .ptr (n + 1) 8 0), (6, .int .i64 k), (7, .int .i64 (-30 + (q : Int)))] ∧ m = M.set mt (.map es' clock') ++ [.cells (triC c (allR c.Calendar) mt), .cells (clmC x)] ∧ D ++ (markI p k (61 - q) (-30 + (q : Int)) ++ markO p (N - (i + 1)) (k + 1)) = T ∧ SayM (orS S c.Log.length (hasP D)) es' clock') := ⟨_, fun _ _ _ => Iff.rfl⟩
      refine VW.loop_cut Inv2 61 ?_ ?_ ?_
      · exact ⟨_, _, (hI2 _ _ _).2 ⟨D, es1, cl1, rfl, rfl, hD, hs1⟩, hcut _ _ [] hs1 (by simp (implicitDefEqProofs := false) [hiu])⟩
      · intro q f m hq hv2
        obtain ⟨D, es1, cl1, rfl, rfl, hD, hs1⟩ := (hI2 _ _ _).1 hv2
        rw [show 61 - q = (61 - (q + 1)) + 1 by omega, markI] at hD
        obtain ⟨off, hoff⟩ : ∃ off, -30 + (q : Int) = off := ⟨_, rfl⟩
        rw [hoff] at hD ⊢
        have hoff2 : -30 + ((q + 1 : Nat) : Int) = off + 1 := by omega
        have hq30 : off ≤ 30 := by omega
        have wo : IntKind.i64.wrap (off + 1) = off + 1 := wrap64 (by omega) (by omega)
        have hP := hPl (.map es1 cl1)
        have hisP := fun ext K => his es1 cl1 ext off K (by omega) (by omega)
        have hmP : (M.set mt (.map es1 cl1))[mt]? = some (.map es1 cl1) := List.getElem?_set_self (by omega)
        have hsP : ∀ x, (M.set mt (.map es1 cl1)).set mt x = M.set mt x := fun x => by rw [List.set_set]
        obtain ⟨P, hPP⟩ : ∃ P, M.set mt (.map es1 cl1) = P := ⟨_, rfl⟩
        have hcutP := fun {S'} fr l ext h => hcut (S' := S') (es' := es1) (cl' := cl1) fr l ext h
        rw [hPP] at hP hmP hsP hcutP hisP ⊢
        have hz0 : PV.ofV E (Value.int .i64 0) = .int .i64 0 := rfl
        have lmP : mt < P.length := by omega
        refine VW.run goodV_nil [] ?_; simp (implicitDefEqProofs := false) [enc_list, hq30, spc_nil]
        unfold VCo
        refine hisP _ _ ?_
        cases hw : p off
        · rw [hw, if_neg (by simp)] at hD
          simp (implicitDefEqProofs := false) [enc_list, wo]
          refine ⟨_, _, (hI2 _ _ _).2 ⟨D, es1, cl1, rfl, by rw [hPP], by rw [hoff2]; exact hD, hs1⟩, ?_⟩
          rw [hoff2]
          exact hcutP _ _ [] hs1 (by simp (implicitDefEqProofs := false) [hiu])
        · rw [hw, if_pos rfl] at hD
          obtain ⟨f, hf1, hf2, hf3, es2, cl2, born, ix, hf4, hf5, hf6⟩ := say_put hs1 (k, off) (orS S c.Log.length (hasP D) k off ||| 2 ^ c.Log.length)
          rw [orS_step] at hf6
          simp only at hf2 hf4
          have hlt : orS S c.Log.length (hasP D) k off < 2 ^ 61 := by
            unfold orS
            split
            · exact Nat.or_lt_two_pow (hS _ _) (Nat.pow_lt_pow_right (by decide) (by omega))
            · exact hS _ _
          have hor := i_or (a := orS S c.Log.length (hasP D) k off) (b := p2 c.Log.length) (by omega) (p2_lt (by omega))
          have hor2 : (orS S c.Log.length (hasP D) k off ||| p2 c.Log.length) = (orS S c.Log.length (hasP D) k off ||| 2 ^ c.Log.length) := rfl
          rw [hor2] at hor
          have hshl := i_shl (n := c.Log.length) (by omega)
          have hkok := keyOk_S (k, off)
          have hmQ : (M.set mt (.map es2 cl2))[mt]? = some (.map es2 cl2) := List.getElem?_set_self (by omega)
          have hQ : ∀ (y x : VObj) (l : VM), (M.set mt y ++ l).set mt x = M.set mt x ++ l := fun y x l => by rw [hr_set (by rw [List.length_set]; omega), List.set_set]
          generalize orS S c.Log.length (hasP D) k off = W at hf2 hf4 hor hlt hf6
          generalize W ||| 2 ^ c.Log.length = W2 at *
          simp (implicitDefEqProofs := false) [enc_list, wo, get_pre hP, get_pre0 hP, spliceV, mapEsV, get_hr hmP, hf1, hf2, hf3, hf4, hf5, hkok, -binInt_or, -binInt_shl, hor, hshl, hr_set lmP, hsP, -lookAtomV, hz0, get_hr hmQ, hQ]
          refine ⟨_, _, (hI2 _ _ _).2 ⟨D ++ [(k, off)], _, cl2, rfl, rfl, ?_, hf6⟩, ?_⟩
          · rw [hoff2, List.append_assoc]; exact hD
          · rw [hoff2]
            exact hcut _ _ [] hf6 (by simp (implicitDefEqProofs := false) [hiu])
      · intro f m hv2
        obtain ⟨D, es1, cl1, rfl, rfl, hD, hs1⟩ := (hI2 _ _ _).1 hv2
        refine VW.run good [] ?_; simp (implicitDefEqProofs := false) [enc_list]
        exact ⟨es1, cl1, ⟨D, by simpa [markI] using hD, hs1⟩, hcut _ _ [] hs1 (by simp (implicitDefEqProofs := false) [hiu])⟩
    · obtain ⟨⟨es2, cl2⟩, D2⟩ := q
      simp only at hp hc
      simp (implicitDefEqProofs := false) [enc_list, AExit.leave]
      refine .ofCut hc (VW.run good [] ?_)
      simp (implicitDefEqProofs := false) [enc_list, wk]
      refine ⟨_, _, (hI (i + 1) _ _).2 ⟨D2, es2, cl2, rfl, rfl, by rw [hN, hk1]; exact hp.1, hp.2⟩, ?_⟩
      rw [hk1]
      exact hcut _ _ [] hp.2 (by simp (implicitDefEqProofs := false) [hiu])
  · intro f m hv
    obtain ⟨D, es1, cl1, rfl, rfl, hD, hs1⟩ := (hI _ _ _).1 hv
    rw [hN, Nat.sub_self, markO, List.append_nil] at hD
    subst hD
    have hP := hPl (.map es1 cl1)
    have hnk : ¬ ka + (N : Int) ≤ kb := by omega
    refine VW.run good [] ?_; simp (implicitDefEqProofs := false) [enc_list, get_pre hP, get_pre0 hP, hsh, hnk]
    exact hK es1 cl1 _ hs1
end Go.RS.DC

/- Walks: the program (21): claims. -/
namespace Go.RS.DC
open Go Go.RS
open Go.RS.Enc (enc dec)
variable {E : VEnv}
theorem claimOk_sp {c : Case} {x : Claim} (h : claimOk c x = true) : (0 ≤ x.Kind ∧ x.Kind ≤ 2) ∧ (0 ≤ x.When.Low ∧ x.When.Low ≤ x.When.High ∧ x.When.High ≤ allR c.Calendar - 1) ∧ (-30 ≤ x.Ticks ∧ x.Ticks ≤ 30) := by
  simp only [claimOk, Bool.and_eq_true, wi_iff, spanOk_iff] at h
  exact ⟨h.1.1, h.1.2, h.2⟩
theorem vc_verd1 (hE : E.env.fn = G) {c : Case} (ho : okK c = true) {mt tb : Nat} {x : Claim} {M : VM} (ht : M[tb]? = some (.cells (clmC x))) {K : PV → VM → Prop} (hK : ∀ ext, K (.bool (claimOk c x)) (M ++ ext)) :
    VC E false (.func 38 [] [.ptr tb 8 0]) [triV c (allR c.Calendar) mt] M K := by
  have o := okK_ok ho
  have a1 := o.a1
  have a2 := o.a2
  have w1 : IntKind.i64.wrap (allR c.Calendar - 1) = allR c.Calendar - 1 := wrap64 (by omega) (by omega)
  have hcl : claimOk c x = (wi x.Kind 0 2 && spanOk x.When 0 (allR c.Calendar - 1) && wi x.Ticks (-30) 30) := rfl
  rw [hcl] at hK
  generalize hn : M.length = n at *
  refine VC.func (A := F38) (by rw [hE]; rfl) (by simp [F38]) ?_
  unfold F38
  refine VW.run (goodV_cons (k_lies hE) (goodV_cons (k_isSpan hE) goodV_nil)) [] ?_
  cases h1 : wi x.Kind 0 2
  · rw [h1] at hK
    simp (implicitDefEqProofs := false) [enc_list, hn, get_hr ht, get_pre hn, get_pre0 hn, w1, h1]
    exact hK _
  · cases h2 : spanOk x.When 0 (allR c.Calendar - 1)
    · rw [h1, h2] at hK
      simp (implicitDefEqProofs := false) [enc_list, hn, get_hr ht, get_pre hn, get_pre0 hn, w1, h1, h2]
      exact hK _
    · rw [h1, h2] at hK
      simp (implicitDefEqProofs := false) [enc_list, hn, get_hr ht, get_pre hn, get_pre0 hn, w1, h1, h2]
      exact hK _
theorem vc_said (hE : E.env.fn = G) (hgl : E.gl 1 = some [f130v, f131v]) {c : Case} (ho : okK c = true) {M : VM} {mt : Nat} {es : List (PV × PV × Nat)} {clock : Nat} {S : Says2} {x : Claim} {K : PV → VM → Prop}
    (hS : ∀ k x, S k x < 2 ^ 61) (hM : M[mt]? = some (.map es clock)) (hs : SayM S es clock) (hu : ∀ o ∈ M, o.und M.length) (hx : 0 ≤ x.When.Low ∧ x.When.Low ≤ x.When.High ∧ x.When.High ≤ allR c.Calendar - 1)
    (hK : ∀ es' clock' ext, SayM (orS S c.Log.length (sayB c x.Reading x.When.Low x.When.High)) es' clock' → K (.tup []) (M.set mt (.map es' clock') ++ ext)) :
    VC E false (.func 126 [] []) [triV c (allR c.Calendar) mt, .agg (clmC x)] M K := by
  have o := okK_ok ho
  have l6 := o.l6
  have a2 := o.a2
  have lm := len_hr hM
  generalize hn : M.length = n at *
  refine VC.func (A := F126) (by rw [hE]; rfl) (by simp [F126]) ?_
  unfold F126
  refine VW.seq (VW.run goodV_nil [] ?_); simp (implicitDefEqProofs := false) [enc_list, hn, get_pre hn, get_pre0 hn]
  refine VW.run goodV_nil [] ?_
  simp (implicitDefEqProofs := false) [enc_list, hn, get_pre hn, get_pre0 hn]
  unfold VCo
  refine vc_say hE hgl ho (by omega) hS (get_hr hM _) hs ?_ (by omega) (by omega) ?_
  · have hl : (M ++ [VObj.cells (triC c (allR c.Calendar) mt), .cells (clmC x)]).length = n + 2 := by simp [hn]
    intro y hy
    have : y.und (n + 2) := by
      rcases List.mem_append.1 hy with hy | hy
      · exact objs_any (by omega) (hu y hy)
      · simp only [List.mem_cons, List.not_mem_nil, or_false] at hy
        rcases hy with rfl | rfl
        · simp (implicitDefEqProofs := false) [enc_list]; omega
        · simp (implicitDefEqProofs := false)
    rw [← hl] at this
    exact this
  · intro es2 cl2 ext hs2
    rw [hr_set (by omega), List.append_assoc]
    simp (implicitDefEqProofs := false) [enc_list]
    exact hK es2 cl2 _ hs2
theorem vc_is (hE : E.env.fn = G) {M : VM} {xb : Nat} {x : Claim} (hk : x.Kind = 1) (hx : M[xb]? = some (.cells (clmC x))) {off : Int} {K : PV → VM → Prop} (hK : K (.bool (offB x off)) M) :
    VC E false (.func 130 [] [.ptr xb 8 0]) [.int .i64 off] M K := by
  refine VC.func (A := F130) (by rw [hE]; rfl) (by simp [F130]) ?_
  unfold F130
  have hb : offB x off = decide (off < x.Ticks) := by unfold offB; rw [if_pos hk]
  rw [hb] at hK
  refine VW.run goodV_nil [] ?_
  simp (implicitDefEqProofs := false) [enc_list, hx]
  exact hK
theorem vc_is2 (hE : E.env.fn = G) {M : VM} {xb : Nat} {x : Claim} (hk : x.Kind ≠ 1) (hx : M[xb]? = some (.cells (clmC x))) {off : Int} (h0 : -30 ≤ off) (h1 : off ≤ 30) {K : PV → VM → Prop} (hK : K (.bool (offB x off)) M) :
    VC E false (.func 131 [] [.ptr xb 8 0]) [.int .i64 off] M K := by
  refine VC.func (A := F131) (by rw [hE]; rfl) (by simp [F131]) ?_
  unfold F131
  have hb : offB x off = decide (x.Ticks < (if off < -off then -off else off)) := by unfold offB; rw [if_neg hk]
  have w1 : IntKind.i64.wrap (0 - off) = -off := by rw [show 0 - off = -off by omega]; exact wrap64 (by omega) (by omega)
  have w2 : IntKind.i64.wrap (-off) = -off := wrap64 (by omega) (by omega)
  rw [hb] at hK
  refine VW.run goodV_nil [] ?_
  simp (implicitDefEqProofs := false) [enc_list, hx, w1, w2]
  exact hK
end Go.RS.DC

/- Walks: the program (22): what is marked, and what can be. -/
namespace Go.RS.DC
open Go Go.RS
open Go.RS.Enc (enc dec)
variable {E : VEnv}
theorem set_gm {M X : VM} {mt : Nat} (h : mt < M.length) (y : VObj) : (M ++ X).set mt y = M.set mt y ++ X := hr_set h X y
theorem vc_ahead (hE : E.env.fn = G) {c : Case} (ho : okK c = true) {M : VM} {mt : Nat} {es : List (PV × PV × Nat)} {clock : Nat} {x : Claim} {K : PV → VM → Prop}
    (hM : M[mt]? = some (.map es clock)) (hs : SayM (saysK c) es clock) (hu : ∀ o ∈ M, o.und M.length) (hx : claimOk c x = true) (hk : x.Kind = 1)
    (hK : ∀ es' clock' ext, SayM (saysX c x) es' clock' → K (.tup []) (M.set mt (.map es' clock') ++ ext)) :
    VC E false (.func 127 [] []) [triV c (allR c.Calendar) mt, .agg (clmC x)] M K := by
  have o := okK_ok ho
  have l6 := o.l6
  have lm := len_hr hM
  obtain ⟨_, hw, _⟩ := claimOk_sp hx
  have hsx : saysX c x = orS (saysK c) c.Log.length (fun k off => wi off (-30) 30 && wi k (x.When.Low / c.Each) (x.When.High / c.Each) && offB x off) := by
    unfold saysX
    congr 1
    funext k off
    unfold markB
    rw [if_neg (by omega)]
  rw [hsx] at hK
  generalize hn : M.length = n at *
  refine VC.func (A := F127) (by rw [hE]; rfl) (by simp [F127]) ?_
  unfold F127
  refine VW.seq (VW.run goodV_nil [] ?_); simp (implicitDefEqProofs := false) [enc_list, hn, get_pre hn, get_pre0 hn]
  refine VW.run goodV_nil [] ?_
  simp (implicitDefEqProofs := false) [enc_list, hn, get_pre hn, get_pre0 hn]
  unfold VCo
  have hl : (M ++ [VObj.cells (triC c (allR c.Calendar) mt), .cells (clmC x)]).length = n + 2 := by simp [hn]
  refine vc_mark hE ho (p := offB x) (fun k x => saysK_b l6 k x) (get_hr hM _) hs ?_ hw ?_ ?_ ?_
  · intro y hy
    have : y.und (n + 2) := by
      rcases List.mem_append.1 hy with hy | hy
      · exact objs_any (by omega) (hu y hy)
      · simp only [List.mem_cons, List.not_mem_nil, or_false] at hy
        rcases hy with rfl | rfl
        · simp (implicitDefEqProofs := false) [enc_list]; omega
        · simp (implicitDefEqProofs := false)
    rw [← hl] at this
    exact this
  · rw [show (M ++ [VObj.cells [enc c.Calendar.Hours, enc c.Calendar.Minutes, enc c.Calendar.Seconds, enc c.Calendar.Days, enc c.Calendar.Decrees, enc c.Town.Ahead, enc c.Town.Changes, enc c.Each, enc c.Step, enc c.First.Low, enc c.First.High, enc c.Log, .int .i64 (allR c.Calendar), .map mt], .cells (clmC x)]).length = n + 2 from hl]
    simp (implicitDefEqProofs := false)
  · intro es' cl' ext off K h1 h2 hK'
    refine vc_is hE hk (x := x) ?_ hK'
    rw [set_gm (by omega), List.append_assoc, get_pre (by simp [hn])]
    rfl
  · intro es2 cl2 ext hs2
    rw [set_gm (by omega), List.append_assoc]
    simp (implicitDefEqProofs := false) [enc_list]
    exact hK es2 cl2 _ hs2
theorem vc_within (hE : E.env.fn = G) {c : Case} (ho : okK c = true) {M : VM} {mt : Nat} {es : List (PV × PV × Nat)} {clock : Nat} {x : Claim} {K : PV → VM → Prop}
    (hM : M[mt]? = some (.map es clock)) (hs : SayM (saysK c) es clock) (hu : ∀ o ∈ M, o.und M.length) (hx : claimOk c x = true) (hk : x.Kind = 2)
    (hK : ∀ es' clock' ext, SayM (saysX c x) es' clock' → K (.tup []) (M.set mt (.map es' clock') ++ ext)) :
    VC E false (.func 128 [] []) [triV c (allR c.Calendar) mt, .agg (clmC x)] M K := by
  have o := okK_ok ho
  have l6 := o.l6
  have lm := len_hr hM
  obtain ⟨_, hw, _⟩ := claimOk_sp hx
  have hsx : saysX c x = orS (saysK c) c.Log.length (fun k off => wi off (-30) 30 && wi k (x.When.Low / c.Each) (x.When.High / c.Each) && offB x off) := by
    unfold saysX
    congr 1
    funext k off
    unfold markB
    rw [if_neg (by omega)]
  rw [hsx] at hK
  generalize hn : M.length = n at *
  refine VC.func (A := F128) (by rw [hE]; rfl) (by simp [F128]) ?_
  unfold F128
  refine VW.seq (VW.run goodV_nil [] ?_); simp (implicitDefEqProofs := false) [enc_list, hn, get_pre hn, get_pre0 hn]
  refine VW.run goodV_nil [] ?_
  simp (implicitDefEqProofs := false) [enc_list, hn, get_pre hn, get_pre0 hn]
  unfold VCo
  have hl : (M ++ [VObj.cells (triC c (allR c.Calendar) mt), .cells (clmC x)]).length = n + 2 := by simp [hn]
  refine vc_mark hE ho (p := offB x) (fun k x => saysK_b l6 k x) (get_hr hM _) hs ?_ hw ?_ ?_ ?_
  · intro y hy
    have : y.und (n + 2) := by
      rcases List.mem_append.1 hy with hy | hy
      · exact objs_any (by omega) (hu y hy)
      · simp only [List.mem_cons, List.not_mem_nil, or_false] at hy
        rcases hy with rfl | rfl
        · simp (implicitDefEqProofs := false) [enc_list]; omega
        · simp (implicitDefEqProofs := false)
    rw [← hl] at this
    exact this
  · rw [show (M ++ [VObj.cells [enc c.Calendar.Hours, enc c.Calendar.Minutes, enc c.Calendar.Seconds, enc c.Calendar.Days, enc c.Calendar.Decrees, enc c.Town.Ahead, enc c.Town.Changes, enc c.Each, enc c.Step, enc c.First.Low, enc c.First.High, enc c.Log, .int .i64 (allR c.Calendar), .map mt], .cells (clmC x)]).length = n + 2 from hl]
    simp (implicitDefEqProofs := false)
  · intro es' cl' ext off K h1 h2 hK'
    refine vc_is2 hE (by omega) (x := x) ?_ h1 h2 hK'
    rw [set_gm (by omega), List.append_assoc, get_pre (by simp [hn])]
    rfl
  · intro es2 cl2 ext hs2
    rw [set_gm (by omega), List.append_assoc]
    simp (implicitDefEqProofs := false) [enc_list]
    exact hK es2 cl2 _ hs2
theorem saysX_b {c : Case} (l6 : c.Log.length ≤ 6) (x : Claim) : ∀ k y, saysX c x k y < 2 ^ 61 := by
  unfold saysX
  exact orS_lt (by omega) (fun k y => saysK_b l6 k y)
theorem vc_met (hE : E.env.fn = G) {c : Case} (ho : okK c = true) {M : VM} {mt tb qb : Nat} {x : Claim} {K : PV → VM → Prop} (hu : ∀ o ∈ M, o.und M.length) (ht : M[tb]? = some (.cells (triC c (allR c.Calendar) mt))) (hq : M[qb]? = some (.cells [.int .i64 ((2 ^ c.Log.length : Nat) : Int)]))
    (hs : ∃ es cl, M[mt]? = some (.map es cl) ∧ SayM (saysX c x) es cl) (hK : ∀ ext, K (.bool (metB c x)) (M ++ ext)) : VC E false (.func 41 [] [.ptr tb 14 0, .ptr qb 1 0]) [] M K := by
  have o := okK_ok ho
  have l6 := o.l6
  have st := o.st
  have hfull : fullF (triK c (allR c.Calendar)) = some ((fullK c : Nat) : Int) := if_pos l6
  have h62 : (2 : Nat) ^ c.Log.length ≤ 2 ^ 6 := Nat.pow_le_pow_right (by decide) l6
  have hor := i_or (a := fullK c) (b := 2 ^ c.Log.length) (by have := fold_full l6; omega) (by omega)
  have hwl : fullK c ||| 2 ^ c.Log.length < 2 ^ 61 := Nat.or_lt_two_pow (fold_full l6) (by omega)
  have hmet : metB c x = canB c (saysX c x) anyA (fullK c ||| 2 ^ c.Log.length) := rfl
  rw [hmet] at hK
  generalize fullK c ||| 2 ^ c.Log.length = w at *
  generalize (2 : Nat) ^ c.Log.length = w1 at *
  generalize hn : M.length = n at *
  refine VC.func (A := F41) (by rw [hE]; rfl) (by simp [F41]) ?_
  unfold F41
  refine VW.seq (VW.run goodV_nil [] ?_); simp (implicitDefEqProofs := false) [enc_list]
  refine VW.seq (VW.run (goodV_cons (k_full hE) goodV_nil) [] ?_)
  simp (implicitDefEqProofs := false) [enc_list, ht, hq, hfull, hor, -binInt_or]
  unfold VCo
  refine vc_through hE o ho rfl (saysX_b l6 x) hwl hn hu rfl hs (al_any hE) ?_
  intro F es2 cl2 ext g1 g2
  have hrow : rowB F = canB c (saysX c x) anyA w := row_can o (fun y => know_found c (saysX c x) anyA g1 g2 (Nat.zero_le _) y)
  rw [hrow]
  have q4 : (0 : Int) < ((lastN c : Nat) : Int) + 1 := by omega
  generalize canB c (saysX c x) anyA w = B at *
  cases B
  · simp (implicitDefEqProofs := false) [enc_list]
    refine VW.run goodV_nil [] ?_
    simp (implicitDefEqProofs := false) [enc_list]
    exact hK _
  · simp (implicitDefEqProofs := false) [enc_list]
    refine VW.run goodV_nil [] ?_
    simp (implicitDefEqProofs := false) [enc_list, q4]
    exact hK _
abbrev noA (c : Case) (x : Claim) : Allow := fun k y => decide (saysX c x k y &&& 2 ^ c.Log.length = 0)
theorem al_none (hE : E.env.fn = G) {c : Case} (l6 : c.Log.length ≤ 6) {M : VM} {mt tb qb : Nat} {x : Claim} (ht : M[tb]? = some (.cells (triC c (allR c.Calendar) mt))) (hq : M[qb]? = some (.cells [.int .i64 ((2 ^ c.Log.length : Nat) : Int)]))
    (hs : ∃ es cl, M[mt]? = some (.map es cl) ∧ SayM (saysX c x) es cl) : AlOk E c (noA c x) (.func 46 [] [.ptr tb 14 0, .ptr qb 1 0]) M := fun M' hag hu k y K hk h1 h2 hK => by
  have ht' := hag _ _ ht
  have hq' := hag _ _ hq
  obtain ⟨es, cl, hm, hs⟩ := hs
  have hm' := hag _ _ hm
  obtain ⟨f, hg1, hg2⟩ := say_look hs ((k : Int), y)
  simp only at hg2
  have hk2 := keyOk_S ((k : Int), y)
  have hz0 : PV.ofV E (Value.int .i64 0) = .int .i64 0 := rfl
  have h62 : (2 : Nat) ^ c.Log.length ≤ 2 ^ 6 := Nat.pow_le_pow_right (by decide) l6
  have hand := i_and (a := saysX c x k y) (b := 2 ^ c.Log.length) (by have := saysX_b l6 x k y; omega) (by omega)
  have hno : noA c x k y = decide (saysX c x k y &&& 2 ^ c.Log.length = 0) := rfl
  rw [hno] at hK
  generalize saysX c x k y &&& 2 ^ c.Log.length = w at *
  generalize (2 : Nat) ^ c.Log.length = w1 at *
  generalize hn : M'.length = n at *
  refine VC.func (A := F46) (by rw [hE]; rfl) (by simp [F46]) ?_
  unfold F46
  refine VW.run goodV_nil [] ?_
  simp (implicitDefEqProofs := false) [enc_list, hn, get_pre hn, get_pre0 hn, get_hr ht', get_hr hq', get_hr hm', mapEsV, hk2, hg1, hg2, hz0, hand, -binInt_and]
  exact hK _
theorem vc_none (hE : E.env.fn = G) {c : Case} (ho : okK c = true) {M : VM} {mt tb qb : Nat} {x : Claim} {K : PV → VM → Prop} (hu : ∀ o ∈ M, o.und M.length) (ht : M[tb]? = some (.cells (triC c (allR c.Calendar) mt))) (hq : M[qb]? = some (.cells [.int .i64 ((2 ^ c.Log.length : Nat) : Int)]))
    (hs : ∃ es cl, M[mt]? = some (.map es cl) ∧ SayM (saysX c x) es cl) (hK : ∀ ext, K (.bool (noneB c x)) (M ++ ext)) : VC E false (.func 45 [] [.ptr tb 14 0, .ptr qb 1 0]) [] M K := by
  have o := okK_ok ho
  have l6 := o.l6
  have st := o.st
  have hfull : fullF (triK c (allR c.Calendar)) = some ((fullK c : Nat) : Int) := if_pos l6
  have hal := al_none (E := E) hE l6 ht hq hs
  have lt := len_hr ht
  have lq := len_hr hq
  have hne : noneB c x = canB c (saysX c x) (noA c x) (fullK c) := rfl
  rw [hne] at hK
  generalize hn : M.length = n at *
  refine VC.func (A := F45) (by rw [hE]; rfl) (by simp [F45]) ?_
  unfold F45
  refine VW.seq (VW.run goodV_nil [] ?_); simp (implicitDefEqProofs := false) [enc_list]
  refine VW.seq (VW.run (goodV_cons (k_full hE) goodV_nil) [] ?_)
  simp (implicitDefEqProofs := false) [enc_list, ht, hfull]
  unfold VCo
  refine vc_through hE o ho rfl (saysX_b l6 x) (fold_full l6) hn hu (by simp (implicitDefEqProofs := false); omega) hs hal ?_
  intro F es2 cl2 ext g1 g2
  have hrow : rowB F = canB c (saysX c x) (noA c x) (fullK c) := row_can o (fun y => know_found c (saysX c x) (noA c x) g1 g2 (Nat.zero_le _) y)
  rw [hrow]
  have q4 : (0 : Int) < ((lastN c : Nat) : Int) + 1 := by omega
  generalize canB c (saysX c x) (noA c x) (fullK c) = B at *
  cases B
  · simp (implicitDefEqProofs := false) [enc_list]
    refine VW.run goodV_nil [] ?_
    simp (implicitDefEqProofs := false) [enc_list]
    exact hK _
  · simp (implicitDefEqProofs := false) [enc_list]
    refine VW.run goodV_nil [] ?_
    simp (implicitDefEqProofs := false) [enc_list, q4]
    exact hK _
end Go.RS.DC

/- Walks: the program (23): Verdict. -/
namespace Go.RS.DC
open Go Go.RS
open Go.RS.Enc (enc dec)
variable {E : VEnv}
abbrev kindsV : List Value := [.func (.func 126) #[] #[], .bool true, .func (.func 127) #[] #[], .bool false, .func (.func 128) #[] #[], .bool false]
set_option maxHeartbeats 3200000 in
set_option maxRecDepth 20000 in
theorem k_Verdict (hE : E.env.fn = G) (hgl : E.gl 1 = some [f130v, f131v]) (hgk : E.gl 0 = some kindsV) : Ok E 12 (s2 fun (c : Case) (x : Claim) => some (VerdictR c x)) := by
  refine ok2 fun c x r hr => ?_
  cases hr
  refine VP.func (A := F12) (by rw [hE]; rfl) (by simp [F12]) ?_; unfold F12
  refine VW.seq (VW.run goodV_nil [] ?_); simp (implicitDefEqProofs := false) [enc_list]
  refine VW.seq (VW.run goodV_nil [] ?_)
  simp (implicitDefEqProofs := false) [enc_list]
  unfold VCo
  refine vc_asked hE hgl (n := 2) (M := [ccl c, .cells (clmC x)]) (rcap := [.ptr 1 8 0]) (b := claimOk c x) rfl ?_ rfl (fun ho M' h1 h2 K hK => vc_verd1 hE ho (h1 1 _ rfl) hK) (fun ha ext => ?_) (fun ho ha es cl F es2 cl2 ext g1 g2 g3 g4 => ?_)
  · intro y hy
    simp only [List.mem_cons, List.not_mem_nil, or_false] at hy
    rcases hy with rfl | rfl <;> simp (implicitDefEqProofs := false) [enc_list]
  · have hE0 : VerdictR c x = (0, askedK c (claimOk c x)) := if_neg ha
    generalize askedK c (claimOk c x) = e at *
    generalize hP : [ccl c, VObj.cells (clmC x)] ++ ext = P
    generalize hm : P.length = m
    simp (implicitDefEqProofs := false) [enc_list, hm, get_pre hm, get_pre0 hm, set_pre hm, spliceV]
    refine VW.run goodV_nil [] ?_
    simp (implicitDefEqProofs := false) [enc_list, hm, get_pre hm, get_pre0 hm, set_pre hm, spliceV, ha, hE0]
  · have hE1 : VerdictR c x = (verdK c x, 0) := if_pos ha
    have o := okK_ok ho
    have l6 := o.l6
    have st := o.st
    have hcl : claimOk c x = true := by
      cases h : claimOk c x
      · rw [h] at ha; unfold askedK at ha; rw [ho] at ha; cases ha
      · rfl
    obtain ⟨hkd, hwh, htk⟩ := claimOk_sp hcl
    rw [hE1]
    obtain ⟨P, hP⟩ : ∃ P, [ccl c, VObj.cells (clmC x)] ++ (askC c 2 es cl F es2 cl2 ++ ext) = P := ⟨_, rfl⟩
    rw [hP]
    generalize hm : P.length = m
    simp (implicitDefEqProofs := false) [enc_list, hm, get_pre hm, get_pre0 hm, set_pre hm, spliceV]
    refine VW.seq (VW.run goodV_nil [] ?_); simp (implicitDefEqProofs := false) [enc_list]
    have hm16 : m = ext.length + 16 := by rw [← hm, ← hP]; simp
    obtain ⟨P1, hP1⟩ : ∃ P1 : VM, [ccl c, VObj.cells (clmC x)] ++ askC c 2 es cl F es2 cl2 ++ (List.replicate ext.length .gone ++ [.cells (triC c (allR c.Calendar) 6)]) = P1 := ⟨_, rfl⟩
    have hl1 : P1.length = m + 1 := by rw [← hP1, hm16]; simp
    have hP1m : P1[6]? = some (.map es cl) := by rw [← hP1]; rfl
    have hP1x : P1[1]? = some (.cells (clmC x)) := by rw [← hP1]; rfl
    have hP1t : P1[m]? = some (.cells (triC c (allR c.Calendar) 6)) := by
      rw [← hP1, ← List.append_assoc]
      rw [List.getElem?_append_right (by simp; omega)]
      simp [hm16]
    have hP1u : ∀ o ∈ P1, o.und (m + 1) := fun y hy => by
      rw [← hP1] at hy
      rcases List.mem_append.1 hy with hy | hy
      · rcases List.mem_append.1 hy with hy | hy
        · simp only [List.mem_cons, List.not_mem_nil, or_false] at hy
          rcases hy with rfl | rfl <;> simp (implicitDefEqProofs := false) [enc_list]
        · exact askC_und g1 g3 (by omega) y hy
      · rcases List.mem_append.1 hy with hy | hy
        · rw [List.mem_replicate] at hy; rw [hy.2]; trivial
        · rw [List.mem_singleton] at hy; subst hy
          simp (implicitDefEqProofs := false) [enc_list]; omega
    have hm0 : 0 < m := by omega
    refine .ofCut (l := [(3, .ptr 1 8 0), (6, .ptr m 14 0)]) (M := P1) ?_ ?_
    · rw [← hP1, ← hP, ← List.append_assoc, List.append_assoc]
      refine cut_mid (n := m + 1) (by rw [hm16]; simp) (Nat.zero_le _) ?_ ?_ (by simp (implicitDefEqProofs := false) [hm0])
      · intro y hy
        exact hP1u y (by rw [← hP1]; exact List.mem_append_left _ hy)
      · intro y hy
        exact hP1u y (by rw [← hP1]; exact List.mem_append_right _ (List.mem_append_right _ hy))
    have hu2 : ∀ {es' cl'}, SayM (saysX c x) es' cl' → ∀ j, m + 1 ≤ j → ∀ o ∈ P1.set 6 (.map es' cl'), o.und j := fun h j hj => set_und (fun o ho => objs_any hj (hP1u o ho)) (sayM_und h _ _)
    have hk3 : x.Kind = 0 ∨ x.Kind = 1 ∨ x.Kind = 2 := by omega
    have hkp : ∀ fr, (Opd.c (Value.pointer (some { block := 0, off := 0 }))).evV E fr = .lptr [.func 126 [] [], .bool true, .func 127 [] [], .bool false, .func 128 [] [], .bool false] := fun fr => by simp [Opd.evV, PV.ofV, hgk, PV.ofS]
    refine VW.seq_cutE (ι := List (PV × PV × Nat) × Nat) (fun _ => [(3, .ptr 1 8 0), (6, .ptr m 14 0)]) (fun q => P1.set 6 (.map q.1 q.2)) (fun q => SayM (saysX c x) q.1 q.2) ?_ ?_
    · have hu1 : ∀ o ∈ P1, o.und P1.length := by rw [hl1]; exact hP1u
      rcases hk3 with hk | hk | hk
      · have hsx : saysX c x = orS (saysK c) c.Log.length (sayB c x.Reading x.When.Low x.When.High) := by
          unfold saysX
          congr 1
          funext k off
          unfold markB
          rw [if_pos hk]
        refine VW.run goodV_nil [] ?_
        simp (implicitDefEqProofs := false) [enc_list, hP1x, hP1t, hkp, hk]
        unfold VCo
        have hk' : (PV.int .i64 0 : PV) = .int .i64 x.Kind := by rw [hk]
        rw [hk']
        refine vc_said hE hgl ho (x := x) (fun k y => saysK_b l6 k y) hP1m g1 hu1 hwh fun es' cl' ext hs' => ?_
        rw [← hsx] at hs'
        simp (implicitDefEqProofs := false) [enc_list]
        exact ⟨es', cl', hs', cut_pre' (n := m + 1) (by simp [hl1]) (Nat.zero_le _) (hu2 hs' _ (Nat.le_refl _)) (by simp (implicitDefEqProofs := false) [hm0])⟩
      · refine VW.run goodV_nil [] ?_
        simp (implicitDefEqProofs := false) [enc_list, hP1x, hP1t, hkp, hk]
        unfold VCo
        have hk' : (PV.int .i64 1 : PV) = .int .i64 x.Kind := by rw [hk]
        rw [hk']
        refine vc_ahead hE ho (x := x) hP1m g1 hu1 hcl hk fun es' cl' ext hs' => ?_
        simp (implicitDefEqProofs := false) [enc_list]
        exact ⟨es', cl', hs', cut_pre' (n := m + 1) (by simp [hl1]) (Nat.zero_le _) (hu2 hs' _ (Nat.le_refl _)) (by simp (implicitDefEqProofs := false) [hm0])⟩
      · refine VW.run goodV_nil [] ?_
        simp (implicitDefEqProofs := false) [enc_list, hP1x, hP1t, hkp, hk]
        unfold VCo
        have hk' : (PV.int .i64 2 : PV) = .int .i64 x.Kind := by rw [hk]
        rw [hk']
        refine vc_within hE ho (x := x) hP1m g1 hu1 hcl hk fun es' cl' ext hs' => ?_
        simp (implicitDefEqProofs := false) [enc_list]
        exact ⟨es', cl', hs', cut_pre' (n := m + 1) (by simp [hl1]) (Nat.zero_le _) (hu2 hs' _ (Nat.le_refl _)) (by simp (implicitDefEqProofs := false) [hm0])⟩
    · rintro ⟨es', cl'⟩ hsx
      simp only at hsx ⊢
      obtain ⟨P2, hP2⟩ : ∃ P2, P1.set 6 (.map es' cl') = P2 := ⟨_, rfl⟩
      have hl2 : P2.length = m + 1 := by rw [← hP2]; simp [hl1]
      have hP2u : ∀ o ∈ P2, o.und (m + 1) := by rw [← hP2]; exact hu2 hsx _ (Nat.le_refl _)
      have hP2m : P2[6]? = some (.map es' cl') := by rw [← hP2]; exact List.getElem?_set_self (by omega)
      have hP2x : P2[1]? = some (.cells (clmC x)) := by rw [← hP2, List.getElem?_set_ne (by omega)]; exact hP1x
      have hP2t : P2[m]? = some (.cells (triC c (allR c.Calendar) 6)) := by rw [← hP2, List.getElem?_set_ne (by omega)]; exact hP1t
      have hP2g : ∀ h : m < P2.length, P2[m]'h = .cells (triC c (allR c.Calendar) 6) := fun h => by
        rw [List.getElem?_eq_getElem h] at hP2t
        exact Option.some.inj hP2t
      have hP2k : ∀ (X : VM) (h : 1 < (P2 ++ X).length), (P2 ++ X)[1]'h = .cells (clmC x) := fun X h => by
        have := get_hr hP2x X
        rw [List.getElem?_eq_getElem h] at this
        exact Option.some.inj this
      have hb1 : (m != m + 1) = true := bne_iff_ne.2 (by omega)
      have hshl := i_shl (n := c.Log.length) (by omega)
      rw [hP2]
      refine VW.seq (VW.run goodV_nil [] ?_); simp (implicitDefEqProofs := false) [enc_list, hl2, get_hr hP2t, hP2g, get_pre hl2, get_pre0 hl2, set_pre0 hl2, spliceV, -binInt_shl, hshl]
      refine VW.seq (VW.run goodV_nil [] ?_); simp (implicitDefEqProofs := false) [enc_list, hl2, get_pre hl2, get_pre0 hl2, set_pre0 hl2, set_pre hl2, spliceV]
      refine VW.seq (VW.run goodV_nil [] ?_); simp (implicitDefEqProofs := false) [enc_list, hl2, get_pre hl2, get_pre0 hl2, set_pre0 hl2, set_pre hl2, spliceV]
      refine VW.seq (VW.run goodV_nil [] ?_); simp (implicitDefEqProofs := false) [enc_list, hl2, get_pre hl2, get_pre0 hl2, set_pre0 hl2, set_pre hl2, spliceV, hb1]
      obtain ⟨mF, hmF⟩ : ∃ mF : PV, mF = .func 41 [] [.ptr m 14 0, .ptr (m + 1) 1 0] := ⟨_, rfl⟩
      obtain ⟨oF, hoF⟩ : ∃ oF : PV, oF = .func 45 [] [.ptr m 14 0, .ptr (m + 1) 1 0] := ⟨_, rfl⟩
      have hmU : ∀ j, m + 2 ≤ j → mF.und j = true := fun j hj => by rw [hmF]; simp (implicitDefEqProofs := false); omega
      have hoU : ∀ j, m + 2 ≤ j → oF.und j = true := fun j hj => by rw [hoF]; simp (implicitDefEqProofs := false); omega
      obtain ⟨M5, hM5⟩ : ∃ M5 : PV → PV → VM, ∀ y n, M5 y n = P2 ++ [.cells [.int .i64 ((p2 c.Log.length : Nat) : Int)], .cells [mF], .cells [oF], .cells [y], .cells [n]] := ⟨_, fun _ _ => rfl⟩
      have hl5 : ∀ y n, (M5 y n).length = m + 6 := fun y n => by rw [hM5]; simp [hl2]
      have hu5 : ∀ y n, y.und (m + 6) = true → n.und (m + 6) = true → ∀ o ∈ M5 y n, o.und (m + 6) := fun y n hy hn o ho => by
        rw [hM5] at ho
        rcases List.mem_append.1 ho with ho | ho
        · exact objs_any (by omega) (hP2u o ho)
        · simp only [List.mem_cons, List.not_mem_nil, or_false] at ho
          rcases ho with rfl | rfl | rfl | rfl | rfl
          · simp (implicitDefEqProofs := false)
          · intro v hv; rw [List.mem_singleton] at hv; subst hv; exact hmU _ (by omega)
          · intro v hv; rw [List.mem_singleton] at hv; subst hv; exact hoU _ (by omega)
          · intro v hv; rw [List.mem_singleton] at hv; subst hv; exact hy
          · intro v hv; rw [List.mem_singleton] at hv; subst hv; exact hn
      have hcan : ∀ (f : PV) (b : Bool) (y n : PV), y.und (m + 6) = true → n.und (m + 6) = true → ((f = mF ∧ b = metB c x) ∨ (f = oF ∧ b = noneB c x)) → ∀ K : PV → VM → Prop, (∀ ext, K (.bool b) (M5 y n ++ ext)) → VC E false f [] (M5 y n) K := fun f b y n hy hn hf K hK => by
        have hu6 : ∀ o ∈ M5 y n, o.und (M5 y n).length := by rw [hl5]; exact hu5 y n hy hn
        have ht6 : (M5 y n)[m]? = some (.cells (triC c (allR c.Calendar) 6)) := by rw [hM5]; exact get_hr hP2t _
        have hq6 : (M5 y n)[m + 1]? = some (.cells [.int .i64 ((2 ^ c.Log.length : Nat) : Int)]) := by rw [hM5, get_pre0 hl2]; rfl
        have hs6 : ∃ es cl, (M5 y n)[6]? = some (.map es cl) ∧ SayM (saysX c x) es cl := ⟨es', cl', by rw [hM5]; exact get_hr hP2m _, hsx⟩
        rcases hf with ⟨rfl, rfl⟩ | ⟨rfl, rfl⟩
        · rw [hmF]; exact vc_met hE ho hu6 ht6 hq6 hs6 hK
        · rw [hoF]; exact vc_none hE ho hu6 ht6 hq6 hs6 hK
      obtain ⟨yF, nF, yB, nB, hyF, hnF, hyU, hnU, hver, hsw⟩ : ∃ (yF nF : PV) (yB nB : Bool), ((yF = mF ∧ yB = metB c x) ∨ (yF = oF ∧ yB = noneB c x)) ∧ ((nF = mF ∧ nB = metB c x) ∨ (nF = oF ∧ nB = noneB c x)) ∧ yF.und (m + 6) = true ∧ nF.und (m + 6) = true ∧ verdK c x = (if yB then (if nB then 1 else 2) else 0) ∧ ((x.Kind = 0 ∧ yF = mF ∧ nF = oF) ∨ (x.Kind ≠ 0 ∧ yF = oF ∧ nF = mF)) := by
        by_cases hk : x.Kind = 0
        · exact ⟨mF, oF, metB c x, noneB c x, .inl ⟨rfl, rfl⟩, .inr ⟨rfl, rfl⟩, hmU _ (by omega), hoU _ (by omega), by unfold verdK; simp only [if_pos hk], .inl ⟨hk, rfl, rfl⟩⟩
        · exact ⟨oF, mF, noneB c x, metB c x, .inr ⟨rfl, rfl⟩, .inl ⟨rfl, rfl⟩, hoU _ (by omega), hmU _ (by omega), by unfold verdK; simp only [if_neg hk], .inr ⟨hk, rfl, rfl⟩⟩
      rw [hver, ← hmF, ← hoF]
      refine VW.seq_cut [(12, .ptr (m + 4) 1 0), (13, .ptr (m + 5) 1 0)] (M5 yF nF) (VW.run goodV_nil [] ?_) ?_
      · have hcut : ∀ (fr : VFr) (y n : PV), y.und (m + 6) = true → n.und (m + 6) = true → (∀ p ∈ [(12, PV.ptr (m + 4) 1 0), (13, .ptr (m + 5) 1 0)], (fr p.1).le p.2) → Cut 0 fr (M5 y n) [(12, .ptr (m + 4) 1 0), (13, .ptr (m + 5) 1 0)] (M5 y n) := fun fr y n hy hn hfr => by
          refine cut_all (Nat.zero_le _) (by rw [hl5]; exact hu5 y n hy hn) fun p hp => ⟨hfr p hp, ?_⟩
          rw [hl5]
          simp only [List.mem_cons, List.not_mem_nil, or_false] at hp
          rcases hp with rfl | rfl <;> simp (implicitDefEqProofs := false)
        have hb2 : (m != m + 2) = true := bne_iff_ne.2 (by omega)
        have hsm : PV.scal mF = true := by rw [hmF]; rfl
        have hso : PV.scal oF = true := by rw [hoF]; rfl
        rcases hsw with ⟨hk, rfl, rfl⟩ | ⟨hk, rfl, rfl⟩
        · simp (implicitDefEqProofs := false) [enc_list, hP2k, hkp, hk]
          have := fun fr => hcut fr _ _ hyU hnU
          simp only [hM5] at this ⊢
          refine this _ ?_
          simp (implicitDefEqProofs := false)
        · rcases hk3 with hk0 | hk0 | hk0
          · exact absurd hk0 hk
          · simp (implicitDefEqProofs := false) [enc_list, hP2k, hkp, hk0, hl2, get_pre hl2, set_pre hl2, spliceV, hb2, -PV.scal, hsm, hso]
            have := fun fr => hcut fr _ _ hyU hnU
            simp only [hM5] at this ⊢
            refine this _ ?_
            simp (implicitDefEqProofs := false)
          · simp (implicitDefEqProofs := false) [enc_list, hP2k, hkp, hk0, hl2, get_pre hl2, set_pre hl2, spliceV, hb2, -PV.scal, hsm, hso]
            have := fun fr => hcut fr _ _ hyU hnU
            simp only [hM5] at this ⊢
            refine this _ ?_
            simp (implicitDefEqProofs := false)
      · have hy4 : (M5 yF nF)[m + 4]? = some (.cells [yF]) := by rw [hM5, show m + 4 = (m + 1) + 3 by omega, get_pre hl2]; rfl
        have hn5 : (M5 yF nF)[m + 5]? = some (.cells [nF]) := by rw [hM5, show m + 5 = (m + 1) + 4 by omega, get_pre hl2]; rfl
        have hl6 := hl5 yF nF
        have hu6 := hu5 yF nF hyU hnU
        have hcy := hcan yF yB yF nF hyU hnU hyF
        have hcn := hcan nF nB yF nF hyU hnU hnF
        generalize M5 yF nF = M6 at *
        refine VW.seq (VW.block (VW.seq (VW.run goodV_nil [] ?_)))
        simp (implicitDefEqProofs := false) [enc_list, hy4, spc_nil]
        unfold VCo
        refine hcy _ fun ext => ?_
        simp (implicitDefEqProofs := false) [enc_list]
        cases yB
        · refine VW.run goodV_nil [] ?_
          simp (implicitDefEqProofs := false) [enc_list, AExit.leave]
        · refine VW.cond (t := false) (by simp) (fun h => by cases h) (fun _ => ?_)
          refine .ofCut (l := [(13, .ptr (m + 5) 1 0)]) (M := M6) (cut_pre' hl6 (Nat.zero_le _) hu6 (by simp (implicitDefEqProofs := false))) ?_
          refine VW.run goodV_nil [] ?_
          simp (implicitDefEqProofs := false) [enc_list, hn5, spc_nil]
          unfold VCo
          refine hcn _ fun ext2 => ?_
          cases nB
          · simp (implicitDefEqProofs := false) [enc_list, AExit.leave]
            refine VW.run goodV_nil [] ?_
            simp (implicitDefEqProofs := false) [enc_list]
          · simp (implicitDefEqProofs := false) [enc_list, AExit.leave]
end Go.RS.DC

