/- Walks: the program (9): the pieces that are needed: enough, choose, Needed. -/
import Derived.Test.YtcbkaiakncbcbaaDoorVwa
set_option linter.all false
namespace Go.RS.DC
open Go Go.RS
open Go.RS.Enc (enc dec)
variable {E : VEnv}
/-- A list as a value: nil, or not. -/
def LstV (l : List Int) (v : PV) : Prop := (v = .nilS ∧ l = []) ∨ ∃ ex, v = .lst ex l.length 1 (encL l) ∧ l ≠ []
theorem texts_ok {texts : List (List Int)} (h : textsOk texts = true) : texts.length ≤ 6 ∧ ∀ t ∈ texts, 1 ≤ t.length ∧ t.length ≤ 8 := by
  simp only [textsOk, Bool.and_eq_true, wi_iff, List.all_eq_true] at h
  exact ⟨by omega, fun t ht => words_le (n := 8) (h.2 t ht)⟩
theorem says_can {b : Book} (o : BookOk b) (texts : List (List Int)) (l : List Int) : (texts.all fun t => (sayF b (selA (canA l)) t 0).isSome) = saysAll b texts l := by
  unfold saysAll
  congr 1
  funext t
  have p2 := o.p2
  rw [sayF_congr (s := selA (canA l)) (s' := selL l) (fun i hi => ?_) t 0]
  unfold selA selL
  rw [List.getD_eq_getElem?_getD, List.getElem?_eq_getElem (show i < (canA l).l.length by rw [(canA l).h]; omega), Option.getD_some, canA_get _ _ (by omega)]
set_option maxRecDepth 20000 in
theorem vc_enough (hE : E.env.fn = G) {M : VM} {bb tb : Nat} {b : Book} {texts : List (List Int)} {l : List Int} {lv : PV} {K : PV → VM → Prop} (hb : M[bb]? = some (bcl b)) (htb : M[tb]? = some (.cells [enc texts])) (hu : ∀ o ∈ M, o.und M.length) (ho : okB b = true) (hte : textsOk texts = true)
    (hl : ∀ k ∈ l, 0 ≤ k ∧ k < 10) (hv : LstV l lv) (hk : ∀ ext, K (.bool (saysAll b texts l)) (M ++ ext)) : VC E false (.func 64 [] [.ptr bb 6 0, .ptr tb 1 0]) [lv] M K := by
  have o := okB_ok ho
  obtain ⟨t6, tt⟩ := texts_ok hte
  have good := goodV_cons (v_opened hE) goodV_nil
  have hO : openF b l = some ⟨b, canA l⟩ := if_pos hl
  have hsc := says_can o texts l
  generalize canA l = a at *
  have hd : (dec lv : Option (List Int)) = some l := by
    rcases hv with ⟨rfl, rfl⟩ | ⟨ex, rfl, hnil⟩
    · rfl
    · exact dec_lst ex l
  have hfz : ∀ M, PV.fz M lv = lv := fun M => by rcases hv with ⟨rfl, rfl⟩ | ⟨ex, rfl, hnil⟩ <;> rfl
  have hF : lv.isF = true := by rcases hv with ⟨rfl, rfl⟩ | ⟨ex, rfl, hnil⟩ <;> rfl
  refine VC.func (A := F64) (by rw [hE]; rfl) (by simp [F64]) ?_
  unfold F64
  refine VW.run good [] ?_
  simp (implicitDefEqProofs := false) [enc_list, hb, get_hr hb, get_hr htb, hd, hO, hfz, hF, enc_BookC, spc_capt, spliceV]
  unfold VCo
  refine vc_Contains66 (a := a) (b := b) hE (by simp [enc_list]) ?_ ho t6 tt ?_
  · intro o ho
    have e : ∀ x : VObj, (M ++ [x]).length = M.length + 1 := fun x => by simp
    rw [e]
    rcases List.mem_append.1 ho with ho | ho
    · exact obj_mono (by omega) (hu o ho)
    · rw [List.mem_singleton] at ho
      subst ho
      simp (implicitDefEqProofs := false) [undL_isF, encL_isF]
  · intro ext
    rw [hsc]
    have := hk (.cells [.func 65 [agC b a] []] :: ext)
    simp (implicitDefEqProofs := false) [enc_list]
    exact this
structure NeedM (b : Book) (texts : List (List Int)) (eb bb tb cb : Nat) (M : VM) : Prop where
  hb : M[bb]? = some (bcl b)
  ht : M[tb]? = some (.cells [enc texts])
  he : M[eb]? = some (.cells [.func 64 [] [.ptr bb 6 0, .ptr tb 1 0]])
  hc : M[cb]? = some (.cells [.func 67 [] [.ptr eb 1 0, .ptr bb 6 0, .ptr cb 1 0]])
theorem NeedM.grow {b : Book} {texts : List (List Int)} {eb bb tb cb : Nat} {M : VM} (h : NeedM b texts eb bb tb cb M) (ext : VM) : NeedM b texts eb bb tb cb (M ++ ext) := ⟨get_hr h.hb ext, get_hr h.ht ext, get_hr h.he ext, get_hr h.hc ext⟩
/-- What is told of a choice. -/
def ChooseV : Option (List Int) → PV → Prop
  | some l, r => ∃ v, LstV l v ∧ r = .tup [v, .bool true]
  | none, r => ∃ v, (∀ j, v.und j = true) ∧ r = .tup [v, .bool false]
theorem LstV.und {l : List Int} {v : PV} (h : LstV l v) (j : Nat) : v.und j = true := by rcases h with ⟨rfl, rfl⟩ | ⟨ex, rfl, hnil⟩ <;> rfl
def nextF (l : List Int) : Nat := match l.getLast? with | none => 0 | some k => k.toNat + 1
theorem slV_00 : slV 0 none (some (PV.int .i64 0)) (some (PV.int .i64 0)) = some (0, 0, some 0) := rfl
theorem app_back (M : VM) (l : List Int) (k : Int) (h : l.length ≤ 10) : appendV M 1 8 (.lst true l.length 1 (encL l)) (.lst true 1 1 [.int .i64 k]) = some (.sl M.length (l ++ [k]).length 0 (l ++ [k]).length (openCap + 1) 1, M ++ [.vec (encL (l ++ [k]))]) := by
  have hf : fits (l.length + 1) 8 = true := fits8L (by omega)
  have he : encL (l ++ [k]) = encL l ++ [.int .i64 k] := (snoc_Int l k).symm
  have hl : (encL l).length = l.length := by rw [encL_length]; exact Nat.mul_one _
  rw [he]
  simp [appendV, elemsV, okE, hf, newVec, PV.isFL, PV.isF, isFL_append, encL_isF, hl]
theorem app_nil (M : VM) (k : Int) : appendV M 1 8 .nilS (.lst true 1 1 [.int .i64 k]) = some (.sl M.length ([] ++ [k]).length 0 ([] ++ [k]).length (openCap + 1) 1, M ++ [.vec (encL ([] ++ [k]))]) := by
  have hf : fits 1 8 = true := fits8L (by omega)
  have he : encL ([] ++ [k]) = [.int .i64 k] := rfl
  rw [he]
  simp [appendV, elemsV, okE, hf, newVec, PV.isFL, PV.isF]
theorem nextF_snoc (l : List Int) (k : Nat) : nextF (l ++ [(k : Int)]) = k + 1 := by unfold nextF; rw [List.getLast?_concat]; simp
section
variable {b : Book} {texts : List (List Int)} {eb bb tb cb : Nat}
set_option maxHeartbeats 1600000 in
set_option maxRecDepth 20000 in
theorem vw_choose (hE : E.env.fn = G) (ho : okB b = true) (hte : textsOk texts = true) : ∀ (r many : Nat) (l : List Int), l.length + r = many → many ≤ 10 → (∀ k ∈ l, 0 ≤ k ∧ k < b.Pieces.length) → ∀ (M : VM) (lv : PV) (K : PV → VM → Prop), NeedM b texts eb bb tb cb M → (∀ o ∈ M, o.und M.length) → LstV l lv →
    (∀ v ext, ChooseV (chooseF (saysAll b texts) b.Pieces.length r (nextF l) l) v → K v (M ++ ext)) →
    VW E M.length F67.body (mkF [(0, lv), (1, .int .i64 many), (2, .ptr eb 1 0), (3, .ptr bb 6 0), (4, .ptr cb 1 0)]) M fun e fr M' => (e = .normal ∨ e = .ret) ∧ ∃ r, resultsV F67.results fr M' = some r ∧ K r M' := by
  have o := okB_ok ho
  have p2 := o.p2
  intro r
  induction r with
  | zero =>
    intro many l hlm hm hl M lv K hM hu hv hK
    have hlen : l.length = many := by omega
    have hlen' : (l.length : Int) = (many : Int) := by omega
    unfold F67
    refine VW.run goodV_nil [] ?_
    have hl10 : ∀ k ∈ l, 0 ≤ k ∧ k < 10 := fun k hk => by have := hl k hk; omega
    have hE2 := fun K' (h : ∀ ext, K' (PV.bool (saysAll b texts l)) (M ++ ext)) => vc_enough (M := M) (lv := lv) (K := K') hE hM.hb hM.ht hu ho hte hl10 hv h
    have hfin : ∀ ext, K (.tup [lv, .bool (saysAll b texts l)]) (M ++ ext) := fun ext => by
      refine hK _ _ ?_
      rw [chooseF]
      cases hs : saysAll b texts l
      · exact ⟨lv, hv.und, rfl⟩
      · exact ⟨lv, hv, rfl⟩
    generalize saysAll b texts l = B at *
    rcases hv with ⟨rfl, rfl⟩ | ⟨ex, rfl, hnil⟩
    · have h0 : many = 0 := by simpa using hlen.symm
      subst h0
      simp (implicitDefEqProofs := false) [enc_list, hM.he, spc_capt]
      unfold VCo
      refine hE2 _ fun ext => ?_
      have := hfin ext
      simp (implicitDefEqProofs := false) [enc_list]
      exact this
    · simp (implicitDefEqProofs := false) [enc_list, hlen', hlen, hM.he, spc_capt]
      unfold VCo
      rw [hlen] at hE2 hfin
      refine hE2 _ fun ext => ?_
      have := hfin ext
      simp (implicitDefEqProofs := false) [enc_list]
      exact this
  | succ r ih =>
    intro many l hlm hm hl M lv K hM hu hv hK
    have hne : ¬ (l.length : Int) = (many : Int) := by omega
    have hne' : ¬ l.length = many := by omega
    have lb := len_hr hM.hb
    have le := len_hr hM.he
    have lc := len_hr hM.hc
    have hcall : ∀ k : Nat, k < b.Pieces.length → ∀ K' : PV → VM → Prop, (∀ v ext, ChooseV (chooseF (saysAll b texts) b.Pieces.length r (k + 1) (l ++ [(k : Int)])) v → K' v (M ++ ext)) →
        VC E false (.func 67 [] [.ptr eb 1 0, .ptr bb 6 0, .ptr cb 1 0]) [.sl M.length (l ++ [(k : Int)]).length 0 (l ++ [(k : Int)]).length (openCap + 1) 1, .int .i64 many] (M ++ [.vec (encL (l ++ [(k : Int)]))]) K' := by
      intro k hk K' hK'
      have hnx := nextF_snoc l k
      have hWl : (l ++ [(k : Int)]).length = l.length + 1 := by simp
      have hWn : l ++ [(k : Int)] ≠ [] := by simp
      have hWr : ∀ j ∈ l ++ [(k : Int)], 0 ≤ j ∧ j < b.Pieces.length := fun j hj => by
        rcases List.mem_append.1 hj with hj | hj
        · exact hl j hj
        · rw [List.mem_singleton] at hj; omega
      generalize l ++ [(k : Int)] = W at *
      refine VC.func (A := F67) (by rw [hE]; rfl) (by simp [F67]) ?_
      have hlen1 : (M ++ [VObj.vec (encL W)]).length = (M ++ [VObj.gone]).length := by simp
      have hle := le_fzSl (M ++ [.vec (encL W)]) M.length W (by simp) (by decide)
      rw [show El.sz Int = 1 from rfl, Nat.mul_one] at hle
      refine VW.freeze (t := M.length) (len := W.length) (o := 0) (q := W.length) (cap := openCap + 1) (e := 1) 0 rfl ?_
      rw [show (M ++ [VObj.vec (encL W)]).set M.length .gone = M ++ [.gone] by simp, hlen1]
      have hu2 : ∀ o ∈ M ++ [VObj.gone], o.und (M ++ [VObj.gone]).length := fun o ho => by
        rw [show (M ++ [VObj.gone]).length = M.length + 1 by simp]
        rcases List.mem_append.1 ho with ho | ho
        · exact obj_mono (by omega) (hu o ho)
        · rw [List.mem_singleton] at ho; subst ho; trivial
      refine .ofCut (l := [(0, .lst false W.length 1 (encL W)), (1, .int .i64 many), (2, .ptr eb 1 0), (3, .ptr bb 6 0), (4, .ptr cb 1 0)]) (M := M ++ [.gone]) (cut_all (Nat.le_refl _) hu2 ?_) ?_
      · rw [show (M ++ [VObj.gone]).length = M.length + 1 by simp]
        intro pp hpp
        simp only [List.mem_cons, List.not_mem_nil, or_false] at hpp
        rcases hpp with rfl | rfl | rfl | rfl | rfl
        · exact ⟨of_eq_true hle, rfl⟩
        · exact ⟨le_refl _, rfl⟩
        · exact ⟨le_refl _, decide_eq_true (by omega)⟩
        · exact ⟨le_refl _, decide_eq_true (by omega)⟩
        · exact ⟨le_refl _, decide_eq_true (by omega)⟩
      refine ih many W (by omega) hm hWr (M ++ [.gone]) _ K' (hM.grow _) hu2 (.inr ⟨false, rfl, hWn⟩) ?_
      intro v ext hv
      rw [hnx] at hv
      have := hK' v (.gone :: ext) hv
      simpa using this
    unfold F67
    refine VW.run goodV_nil [] ?_
    rcases hv with ⟨rfl, rfl⟩ | ⟨ex, rfl, hnil⟩
    · have hne2 : ¬ (0 : Int) = (many : Int) := by simp at hne'; omega
      have hne3 : ¬ 0 = many := by simpa using hne'
      simp (implicitDefEqProofs := false) [enc_list, hne2, hne3, hM.he, spc_capt]
      generalize hC : chooseF (saysAll b texts) b.Pieces.length (r + 1) (nextF []) [] = C at hK
      obtain ⟨N, hN⟩ : ∃ N, b.Pieces.length - nextF [] = N := ⟨_, rfl⟩
      rw [chooseF, hN] at hC
      generalize hF : nextF [] = F at *
      have hF0 : F = 0 := hF.symm
      refine VW.loop_to 0 [] M (C = none) ?_ (fun hp f m hc => ?_)
      · obtain ⟨Inv, hI⟩ : ∃ Inv : Nat → List (Nat × PV) → VM → Prop, ∀ i f m, Inv i f m ↔ (f = [(0, .nilS), (1, .int .i64 many), (2, .ptr eb 1 0), (3, .ptr bb 6 0), (4, .ptr cb 1 0), (10, .int .i64 ((F + i : Nat) : Int))] ∧ m = M ∧ tryF (fun k => chooseF (saysAll b texts) b.Pieces.length r (k + 1) ([] ++ [(k : Int)])) (N - i) (F + i) = C) := ⟨_, fun _ _ _ => Iff.rfl⟩
        refine VW.loop_cut Inv N ?_ ?_ ?_
        · exact ⟨_, _, (hI _ _ _).2 ⟨rfl, rfl, hC⟩, cut_all (Nat.le_refl _) hu (by simp (implicitDefEqProofs := false) [enc_list, lb, le, lc, hF0])⟩
        · intro i f m hi hv
          obtain ⟨rfl, rfl, hT⟩ := (hI _ _ _).1 hv
          rw [show N - i = N - (i + 1) + 1 by omega, tryF] at hT
          obtain ⟨k, hk⟩ : ∃ k, F + i = k := ⟨_, rfl⟩
          rw [hk] at hT
          have hk1 : (k : Int) < b.Pieces.length := by omega
          have hk2 : k < b.Pieces.length := by omega
          have w1 : IntKind.i64.wrap ((k : Int) + 1) = k + 1 := wrap64 (by omega) (by omega)
          rw [hk]
          refine VW.run goodV_nil [] ?_; simp (implicitDefEqProofs := false) [enc_list, get_hr hM.hb, hM.hb, hM.hc, hk1, hk2, spliceV, w1, spc_capt, slV_00, app_nil]
          unfold VCo
          refine hcall k hk2 _ ?_
          intro v ext hcv
          cases hC2 : chooseF (saysAll b texts) b.Pieces.length r (k + 1) ([] ++ [(k : Int)]) with
          | some l' =>
            rw [hC2] at hcv hT
            obtain ⟨w, hw, rfl⟩ := hcv
            have := hK (.tup [w, .bool true]) ext (by rw [← hT]; exact ⟨w, hw, rfl⟩)
            simp (implicitDefEqProofs := false) [enc_list]
            exact this
          | none =>
            rw [hC2] at hcv hT
            obtain ⟨w, hw, rfl⟩ := hcv
            simp (implicitDefEqProofs := false) [enc_list, w1]
            refine ⟨_, _, (hI _ _ _).2 ⟨rfl, rfl, ?_⟩, cut_pre' rfl (Nat.le_refl _) hu ?_⟩
            · rw [show F + (i + 1) = k + 1 by omega]; exact hT
            · rw [show ((F + (i + 1) : Nat) : Int) = (k : Int) + 1 by omega]
              simp (implicitDefEqProofs := false) [enc_list, lb, le, lc]
        · intro f m hv
          obtain ⟨rfl, rfl, hT⟩ := (hI _ _ _).1 hv
          rw [Nat.sub_self, tryF] at hT
          have hk1 : ¬ ((F + N : Nat) : Int) < b.Pieces.length := by omega
          obtain ⟨k, hk⟩ : ∃ k, F + N = k := ⟨_, rfl⟩
          rw [hk] at hk1 ⊢
          have hk2 : ¬ k < b.Pieces.length := by omega
          refine VW.run goodV_nil [] ?_; simp (implicitDefEqProofs := false) [enc_list, hM.hb, hk1, hk2]
          exact ⟨hT.symm, cut_all (Nat.le_refl _) hu (by simp)⟩
      · have := hK (.tup [.nilS, .bool false]) [] (by rw [hp]; exact ⟨.nilS, fun _ => rfl, rfl⟩)
        rw [List.append_nil] at this
        simp (implicitDefEqProofs := false); refine .ofCut hc (VW.run goodV_nil [] ?_); simp (implicitDefEqProofs := false) [enc_list]
        exact this
    · have hpos : 0 < l.length := List.length_pos_iff.2 hnil
      have hpos' : (0 : Int) < (l.length : Int) := by omega
      obtain ⟨q, hq⟩ : ∃ q, l.length = q + 1 := ⟨l.length - 1, by omega⟩
      have hq1 : q < l.length := by omega
      have hq2 : (q : Int) < (l.length : Int) := by omega
      have w2 : IntKind.i64.wrap ((l.length : Int) - 1) = (q : Int) := by rw [wrap64 (by omega) (by omega)]; omega
      have hg := get_Int l q hq1
      have hx := hl _ (List.getElem_mem hq1)
      have hnl0 : nextF l = l[q].toNat + 1 := by
        unfold nextF
        rw [List.getLast?_eq_getElem?, show l.length - 1 = q by omega, List.getElem?_eq_getElem hq1]
      generalize l[q] = xq at *
      obtain ⟨y, rfl⟩ : ∃ y : Nat, xq = y := ⟨xq.toNat, by omega⟩
      have hnl : nextF l = y + 1 := by rw [hnl0]; simp
      have w3 : IntKind.i64.wrap ((y : Int) + 1) = y + 1 := wrap64 (by omega) (by omega)
      simp (implicitDefEqProofs := false) [enc_list, hne, hne', hM.he, spc_capt, hpos, hpos', hq1, hq2, w2, hg, w3]
      generalize hC : chooseF (saysAll b texts) b.Pieces.length (r + 1) (nextF l) l = C at hK
      obtain ⟨N, hN⟩ : ∃ N, b.Pieces.length - nextF l = N := ⟨_, rfl⟩
      rw [chooseF, hN] at hC
      generalize hF : nextF l = F at *
      have hF0 : F = y + 1 := hnl
      refine VW.loop_to 0 [] M (C = none) ?_ (fun hp f m hc => ?_)
      · obtain ⟨Inv, hI⟩ : ∃ Inv : Nat → List (Nat × PV) → VM → Prop, ∀ i f m, Inv i f m ↔ (f = [(0, .lst ex l.length 1 (encL l)), (1, .int .i64 many), (2, .ptr eb 1 0), (3, .ptr bb 6 0), (4, .ptr cb 1 0), (10, .int .i64 ((F + i : Nat) : Int))] ∧ m = M ∧ tryF (fun k => chooseF (saysAll b texts) b.Pieces.length r (k + 1) (l ++ [(k : Int)])) (N - i) (F + i) = C) := ⟨_, fun _ _ _ => Iff.rfl⟩
        refine VW.loop_cut Inv N ?_ ?_ ?_
        · exact ⟨_, _, (hI _ _ _).2 ⟨rfl, rfl, hC⟩, cut_all (Nat.le_refl _) hu (by simp (implicitDefEqProofs := false) [enc_list, lb, le, lc, hF0])⟩
        · intro i f m hi hv
          obtain ⟨rfl, rfl, hT⟩ := (hI _ _ _).1 hv
          rw [show N - i = N - (i + 1) + 1 by omega, tryF] at hT
          obtain ⟨k, hk⟩ : ∃ k, F + i = k := ⟨_, rfl⟩
          rw [hk] at hT
          have hk1 : (k : Int) < b.Pieces.length := by omega
          have hk2 : k < b.Pieces.length := by omega
          have w1 : IntKind.i64.wrap ((k : Int) + 1) = k + 1 := wrap64 (by omega) (by omega)
          rw [hk]
          refine VW.run goodV_nil [] ?_; simp (implicitDefEqProofs := false) [enc_list, get_hr hM.hb, hM.hb, hM.hc, hk1, hk2, spliceV, w1, spc_capt, slV_al, take_al, app_back m l k (by omega)]
          unfold VCo
          have hcl := hcall k hk2
          rw [show (l ++ [(k : Int)]).length = l.length + 1 by simp] at hcl
          refine hcl _ ?_
          intro v ext hcv
          cases hC2 : chooseF (saysAll b texts) b.Pieces.length r (k + 1) (l ++ [(k : Int)]) with
          | some l' =>
            rw [hC2] at hcv hT
            obtain ⟨w, hw, rfl⟩ := hcv
            have := hK (.tup [w, .bool true]) ext (by rw [← hT]; exact ⟨w, hw, rfl⟩)
            simp (implicitDefEqProofs := false) [enc_list]
            exact this
          | none =>
            rw [hC2] at hcv hT
            obtain ⟨w, hw, rfl⟩ := hcv
            simp (implicitDefEqProofs := false) [enc_list, w1]
            refine ⟨_, _, (hI _ _ _).2 ⟨rfl, rfl, ?_⟩, cut_pre' rfl (Nat.le_refl _) hu ?_⟩
            · rw [show F + (i + 1) = k + 1 by omega]; exact hT
            · rw [show ((F + (i + 1) : Nat) : Int) = (k : Int) + 1 by omega]
              simp (implicitDefEqProofs := false) [enc_list, lb, le, lc]
        · intro f m hv
          obtain ⟨rfl, rfl, hT⟩ := (hI _ _ _).1 hv
          rw [Nat.sub_self, tryF] at hT
          have hk1 : ¬ ((F + N : Nat) : Int) < b.Pieces.length := by omega
          obtain ⟨k, hk⟩ : ∃ k, F + N = k := ⟨_, rfl⟩
          rw [hk] at hk1 ⊢
          have hk2 : ¬ k < b.Pieces.length := by omega
          refine VW.run goodV_nil [] ?_; simp (implicitDefEqProofs := false) [enc_list, hM.hb, hk1, hk2]
          exact ⟨hT.symm, cut_all (Nat.le_refl _) hu (by simp)⟩
      · have := hK (.tup [.nilS, .bool false]) [] (by rw [hp]; exact ⟨.nilS, fun _ => rfl, rfl⟩)
        rw [List.append_nil] at this
        simp (implicitDefEqProofs := false); refine .ofCut hc (VW.run goodV_nil [] ?_); simp (implicitDefEqProofs := false) [enc_list]
        exact this
end
end Go.RS.DC

/- Walks: the program (10): the pieces that are needed. -/
namespace Go.RS.DC
open Go Go.RS
open Go.RS.Enc (enc dec)
variable {E : VEnv}
set_option maxHeartbeats 1600000 in
set_option maxRecDepth 20000 in
theorem v_Needed (hE : E.env.fn = G) : Ok E 21 (s2 fun b texts => some (NeededR b texts)) := by
  refine ok2 fun b texts r hr => ?_
  cases hr
  refine VP.bound fun hb => ?_
  simp [enc_list] at hb
  have good := goodV_cons (v_Check hE) (goodV_cons (v_within hE) (goodV_cons (v_Contains63 hE) goodV_nil))
  cases ho : okB b
  · have hck : checkB b = 50 := by unfold checkB; rw [ho]; rfl
    refine VP.run (A := F21) (good) [] (by rw [hE]; rfl) (by simp [F21]) ?_; unfold F21; simp (implicitDefEqProofs := false) [enc_list, hck, NeededR, ho]
  · have hck : checkB b = 0 := by unfold checkB; rw [ho]; rfl
    have o := okB_ok ho
    have p2 := o.p2
    cases h1 : wi texts.length 1 6
    · have hte : textsOk texts = false := by unfold textsOk; rw [h1]; rfl
      refine VP.run (A := F21) (good) [] (by rw [hE]; rfl) (by simp [F21]) ?_; unfold F21; simp (implicitDefEqProofs := false) [enc_list, hck, NeededR, ho, h1, hte]
    · cases h2 : texts.all fun t => wordsOk t 8
      · have hte : textsOk texts = false := by unfold textsOk; rw [h1, h2]; rfl
        refine VP.run (A := F21) (good) [] (by rw [hE]; rfl) (by simp [F21]) ?_; unfold F21; simp (implicitDefEqProofs := false) [enc_list, hck, NeededR, ho, h1, h2, hte]
      · have hte : textsOk texts = true := by unfold textsOk; rw [h1, h2]; rfl
        have hNR : NeededR b texts = (match needF (saysAll b texts) b.Pieces.length with | some l => (l, 0) | none => ([], 4)) := by unfold NeededR; rw [ho, hte]; rfl
        rw [hNR]
        generalize hT : needF (saysAll b texts) b.Pieces.length = T
        unfold needF at hT
        have w0 : IntKind.i64.wrap ((b.Pieces.length : Int) + 1) = ((b.Pieces.length + 1 : Nat) : Int) := by rw [wrap64 (by omega) (by omega)]; omega
        obtain ⟨N, hN⟩ : ∃ N, b.Pieces.length + 1 = N := ⟨_, rfl⟩
        rw [hN] at w0 hT
        refine VP.run (A := F21) (good) [] (by rw [hE]; rfl) (by simp [F21]) ?_; unfold F21; simp (implicitDefEqProofs := false) [enc_list, hck, h1, h2, w0, spliceV]
        refine VW.loop_to 0 [] [] (T = none) ?_ (fun hp f m hc => ?_)
        · obtain ⟨Inv, hI⟩ : ∃ Inv : Nat → List (Nat × PV) → VM → Prop, ∀ i f m, Inv i f m ↔ (f = [(8, .ptr 3 1 0), (30, .int .i64 N), (31, .int .i64 i)] ∧ m = [bcl b, .cells [enc texts], .cells [.func 64 [] [.ptr 0 6 0, .ptr 1 1 0]], .cells [.func 67 [] [.ptr 2 1 0, .ptr 0 6 0, .ptr 3 1 0]]] ∧ tryF (fun many => chooseF (saysAll b texts) b.Pieces.length many 0 []) (N - i) i = T) := ⟨_, fun _ _ _ => Iff.rfl⟩
          refine VW.loop_cut Inv N ?_ ?_ ?_
          · exact ⟨_, _, (hI _ _ _).2 ⟨rfl, rfl, hT⟩, ⟨4, [], by simp [enc_list], by simp, by simp, by simp (implicitDefEqProofs := false) [enc_list], by simp (implicitDefEqProofs := false) [enc_list]⟩⟩
          · intro i f m hi hv
            obtain ⟨rfl, rfl, hs⟩ := (hI _ _ _).1 hv
            rw [show N - i = N - (i + 1) + 1 by omega, tryF] at hs
            have w1 : IntKind.i64.wrap ((i : Int) + 1) = i + 1 := wrap64 (by omega) (by omega)
            have hi' : (i : Int) < (N : Int) := by omega
            refine VW.run good [] ?_; simp (implicitDefEqProofs := false) [enc_list, hi, hi', spc_capt]
            unfold VCo
            refine VC.func (A := F67) (by rw [hE]; rfl) (by simp [F67]) ?_
            refine .ofCut (l := [(0, .nilS), (1, .int .i64 i), (2, .ptr 2 1 0), (3, .ptr 0 6 0), (4, .ptr 3 1 0)]) (M := [bcl b, .cells [enc texts], .cells [.func 64 [] [.ptr 0 6 0, .ptr 1 1 0]], .cells [.func 67 [] [.ptr 2 1 0, .ptr 0 6 0, .ptr 3 1 0]]]) ⟨4, [], by simp [enc_list], by simp, by simp, by simp (implicitDefEqProofs := false) [enc_list], by simp (implicitDefEqProofs := false) [enc_list]⟩ ?_
            refine vw_choose (texts := texts) (eb := 2) (bb := 0) (tb := 1) (cb := 3) hE ho hte i i [] (by simp) (by omega) (by simp) _ _ _ ⟨rfl, rfl, rfl, rfl⟩ (by simp (implicitDefEqProofs := false)) (.inl ⟨rfl, rfl⟩) ?_
            intro v ext hcv
            rw [show nextF [] = 0 from rfl] at hcv
            cases hC2 : chooseF (saysAll b texts) b.Pieces.length i 0 [] with
            | some l' =>
              rw [hC2] at hcv hs
              subst hs
              obtain ⟨w, hw, rfl⟩ := hcv
              rcases hw with ⟨rfl, rfl⟩ | ⟨ex, rfl, _⟩
              · simp (implicitDefEqProofs := false) [enc_list, slV_00]
              · simp (implicitDefEqProofs := false) [enc_list, slV_al, take_al]
            | none =>
              rw [hC2] at hcv hs
              obtain ⟨w, hw, rfl⟩ := hcv
              simp (implicitDefEqProofs := false) [enc_list, w1]
              exact ⟨_, _, (hI _ _ _).2 ⟨rfl, rfl, hs⟩, ⟨4, [], by simp [enc_list], by simp, by simp, by simp (implicitDefEqProofs := false) [enc_list], by simp (implicitDefEqProofs := false) [enc_list]⟩⟩
          · intro f m hv
            obtain ⟨rfl, rfl, hs⟩ := (hI _ _ _).1 hv
            rw [Nat.sub_self, tryF] at hs
            refine VW.run good [] ?_; simp (implicitDefEqProofs := false) [enc_list]
            exact ⟨hs.symm, ⟨0, [], by simp [enc_list], by simp, by simp, by simp (implicitDefEqProofs := false) [enc_list], by simp (implicitDefEqProofs := false) [enc_list]⟩⟩
        · simp (implicitDefEqProofs := false); refine .ofCut hc (VW.run good [] ?_); simp (implicitDefEqProofs := false) [enc_list, hp]
end Go.RS.DC

/- Walks: the program (11): what is asked; whether something is a plan. -/
namespace Go.RS.DC
open Go Go.RS
open Go.RS.Enc (enc dec)
variable {E : VEnv}
section
variable {A B C D F R : Type} [Enc A] [Enc B] [Enc C] [Enc D] [Enc F] [Enc R]
def s5 (T : A → B → C → D → F → Option R) : List PV → Option PV | [a, b, c, d, e] => (dec a).bind fun a => (dec b).bind fun b => (dec c).bind fun c => (dec d).bind fun d => (dec e).bind fun e => (T a b c d e).map enc | _ => none
@[simp] theorem s5_app (T : A → B → C → D → F → Option R) (a b c d e : PV) : s5 T [a, b, c, d, e] = (dec a).bind fun a => (dec b).bind fun b => (dec c).bind fun c => (dec d).bind fun d => (dec e).bind fun e => (T a b c d e).map enc := rfl
theorem ok5 {f : Nat} {T : A → B → C → D → F → Option R} (h : ∀ a b c d e r, T a b c d e = some r → VP E f [enc a, enc b, enc c, enc d, enc e] (enc r)) : Ok E f (s5 T) := fun args r hr => by
  match args, hr with
  | [a, b, c, d, e], hr =>
    simp only [s5, Option.bind_eq_some_iff, Option.map_eq_some_iff] at hr
    obtain ⟨a', ha, b', hb, c', hc, d', hd, e', he, x, h1, rfl⟩ := hr
    exact (h a' b' c' d' e' x h1).args ⟨Enc.dec_le ha, Enc.dec_le hb, Enc.dec_le hc, Enc.dec_le hd, Enc.dec_le he, trivial⟩
end
theorem v_asked (hE : E.env.fn = G) : Ok E 69 (s4 fun b t f p => some (askedV b t f p)) := by
  refine ok4 fun b t f p r hr => ?_
  cases hr
  have good := goodV_cons (v_Check hE) (goodV_cons (v_within hE) (goodV_cons (v_areWords hE) goodV_nil))
  cases ho : okB b
  · have hck : checkB b = 50 := by unfold checkB; rw [ho]; rfl
    refine VP.run (A := F69) (good) [] (by rw [hE]; rfl) (by simp [F69]) ?_; unfold F69; simp (implicitDefEqProofs := false) [enc_list, hck, askedV, ho]
  · have hck : checkB b = 0 := by unfold checkB; rw [ho]; rfl
    cases hw : wordsOk t 8
    · refine VP.run (A := F69) (good) [] (by rw [hE]; rfl) (by simp [F69]) ?_; unfold F69; simp (implicitDefEqProofs := false) [enc_list, hck, hw, askedV, ho]
    · cases h1 : wi f 0 100000000
      · have hT : timesOk f p = false := by unfold timesOk; rw [h1]; rfl
        refine VP.run (A := F69) (good) [] (by rw [hE]; rfl) (by simp [F69]) ?_; unfold F69; simp (implicitDefEqProofs := false) [enc_list, hck, hw, h1, askedV, ho, hT]
      · cases h2 : wi p f 100000000
        · have hT : timesOk f p = false := by unfold timesOk; rw [h1, h2]; rfl
          refine VP.run (A := F69) (good) [] (by rw [hE]; rfl) (by simp [F69]) ?_; unfold F69; simp (implicitDefEqProofs := false) [enc_list, hck, hw, h1, h2, askedV, ho, hT]
        · obtain ⟨a1, a2⟩ := (wi_iff _ _ _).1 h1
          obtain ⟨b1, b2⟩ := (wi_iff _ _ _).1 h2
          have w1 : IntKind.i64.wrap (p - f) = p - f := wrap64 (by omega) (by omega)
          by_cases h3 : p - f ≤ 6100
          · have hT : timesOk f p = true := by unfold timesOk; rw [h1, h2, decide_eq_true h3]; rfl
            have h4 : ¬ 6100 < p - f := by omega
            refine VP.run (A := F69) (good) [] (by rw [hE]; rfl) (by simp [F69]) ?_; unfold F69; simp (implicitDefEqProofs := false) [enc_list, hck, hw, h1, h2, w1, h4, askedV, ho, hT]
          · have hT : timesOk f p = false := by unfold timesOk; rw [h1, h2, decide_eq_false h3]; rfl
            have h4 : 6100 < p - f := by omega
            refine VP.run (A := F69) (good) [] (by rw [hE]; rfl) (by simp [F69]) ?_; unfold F69; simp (implicitDefEqProofs := false) [enc_list, hck, hw, h1, h2, w1, h4, askedV, ho, hT]
end Go.RS.DC

/- Walks: the program (12): whether something is a plan. -/
namespace Go.RS.DC
open Go Go.RS
open Go.RS.Enc (enc dec)
variable {E : VEnv}
@[simp] theorem eta_Book2 (b : Book) : Book.mk b.Discs b.Pieces b.Pause b.Rest = b := rfl
def endO (k : Nat) (e : Int) : Option Int := if k = 0 then none else some e
set_option maxHeartbeats 1600000 in
set_option maxRecDepth 20000 in
theorem v_IsPlan (hE : E.env.fn = G) : Ok E 24 (s5 fun b t f p l => some (IsPlanR b t f p l)) := by
  refine ok5 fun b t f p l r hr => ?_
  cases hr
  refine VP.bound fun hb => ?_
  simp [enc_list] at hb
  have good := goodV_cons (v_asked hE) (goodV_cons (v_within hE) goodV_nil)
  by_cases ha : askedV b t f p = 0
  · have hR : IsPlanR b t f p l = (planB b t f p 0 none l, 0) := if_pos ha
    have a := asked_ok ha
    have o := a.o
    have p2 := o.p2
    have t8 := a.t8
    have f0 := a.f0
    have p1 := a.p1
    have fp := a.fp
    rw [hR]
    generalize hT : planB b t f p 0 none l = T
    have hbl : l.length < 9223372036854775808 := by omega
    clear hb
    refine VP.run (A := F24) (good) [] (by rw [hE]; rfl) (by simp [F24]) ?_; unfold F24; simp (implicitDefEqProofs := false) [enc_list, ha]
    refine VW.loop_toE 0 (fun (x : Nat × Int) => [(1, enc t), (3, .int .i64 p), (5, .ptr 0 6 0), (13, .int .i64 (x.1 : Int)), (14, .int .i64 x.2)]) (fun (x : Nat × Int) => [bcl b]) (fun (x : Nat × Int) => T = (decide (x.1 = t.length) && wi (p - x.2) b.Rest.Low b.Rest.High) ∧ 0 ≤ x.2 ∧ x.2 ≤ 100001000) ?_ (fun x hp f m hc => ?_)
    · obtain ⟨Inv, hI⟩ : ∃ Inv : Nat → List (Nat × PV) → VM → Prop, ∀ k g m, Inv k g m ↔ (∃ (q : Nat) (e : Int), g = [(1, enc t), (2, .int .i64 f), (3, .int .i64 p), (5, .ptr 0 6 0), (13, .int .i64 q), (14, .int .i64 e), (28, enc l), (29, .int .i64 l.length), (30, .int .i64 k)] ∧ m = [bcl b] ∧ planB b t f p q (endO k e) (l.drop k) = T ∧ q ≤ t.length ∧ 0 ≤ e ∧ e ≤ 100001000 ∧ (k = 0 → e = 0)) := ⟨_, fun _ _ _ => Iff.rfl⟩
      refine VW.loop_cut Inv l.length ?_ ?_ ?_
      · exact ⟨_, _, (hI _ _ _).2 ⟨0, 0, rfl, rfl, hT, by omega, by omega, by omega, fun _ => rfl⟩, ⟨1, [], by simp [enc_list], by simp, by simp, by simp (implicitDefEqProofs := false) [enc_list], by simp (implicitDefEqProofs := false) [enc_list]⟩⟩
      · intro k g m hk hi
        obtain ⟨q, e, rfl, rfl, hs, hq, he0, he1, hez⟩ := (hI _ _ _).1 hi
        have w1 : IntKind.i64.wrap ((k : Int) + 1) = k + 1 := wrap64 (by omega) (by omega)
        have hk' : (k : Int) < l.length := by omega
        rw [List.drop_eq_getElem_cons hk, planB] at hs
        have hg := get_Start l k hk
        generalize l[k] = y at *
        have wl : IntKind.i64.wrap ((b.Pieces.length : Int) - 1) = b.Pieces.length - 1 := wrap64 (by omega) (by omega)
        cases hA : wi y.Piece 0 (b.Pieces.length - 1)
        · have hTf : T = false := by rw [← hs, hA]; rfl
          refine VW.run good [] ?_; simp (implicitDefEqProofs := false) [enc_list, hk, hk', hg, spliceV, wl, hA, hTf]
        · cases hB : wi y.At f p
          · have hTf : T = false := by rw [← hs, hA, hB]; rfl
            refine VW.run good [] ?_; simp (implicitDefEqProofs := false) [enc_list, hk, hk', hg, spliceV, wl, hA, hB, hTf]
          · rw [hA, hB, Bool.true_and, Bool.true_and] at hs
            obtain ⟨kk, hkk⟩ : ∃ kk : Nat, y.Piece = kk := ⟨y.Piece.toNat, by have := (wi_iff _ _ _).1 hA; omega⟩
            obtain ⟨yB0, yB1⟩ := (wi_iff _ _ _).1 hB
            have hkn : kk < b.Pieces.length := by have := (wi_iff _ _ _).1 hA; omega
            have hkn' : (kk : Int) < b.Pieces.length := by omega
            have po := pieceN_ok o hkn
            have hpn : pieceN b kk = b.Pieces[kk] := by unfold pieceN; rw [List.getD_eq_getElem?_getD, List.getElem?_eq_getElem hkn]; rfl
            have hgp := get_Piece b.Pieces kk hkn
            rw [hkk, pieceAt_N, hpn] at hs
            rw [hpn] at po
            generalize b.Pieces[kk] = x at *
            obtain ⟨yP, yA⟩ := y
            simp only at hkk yB0 yB1 hA hB hs
            subst hkk
            have hg' : List.drop (k * 2) (encL l) = PV.int .i64 (kk : Int) :: .int .i64 yA :: encL (List.drop (k + 1) l) := hg
            refine VW.seq (VW.run good [] ?_); simp (implicitDefEqProofs := false) [enc_list, hk, hk']
            refine VW.seq (VW.run good [] ?_); simp (implicitDefEqProofs := false) [enc_list, hk, hk']
            refine VW.seq (VW.block ?_)
            refine VW.seq_cut [(1, enc t), (2, .int .i64 f), (3, .int .i64 p), (5, .ptr 0 6 0), (13, .int .i64 q), (14, .int .i64 e), (15, .int .i64 k), (16, .ptr 1 2 0), (28, enc l), (29, .int .i64 l.length), (30, .int .i64 k)] [bcl b, .cells [.int .i64 kk, .int .i64 yA]] (VW.run good [] ?_) ?_; simp (implicitDefEqProofs := false) [enc_list, hk, hk', hg', spliceV]
            · exact ⟨2, [], by simp [enc_list], by simp, by simp, by simp (implicitDefEqProofs := false) [enc_list], by simp (implicitDefEqProofs := false) [enc_list]⟩
            refine VW.seq (VW.run good [] ?_); simp (implicitDefEqProofs := false) [enc_list, wl, hA, hB]
            refine VW.seq (VW.run good [] ?_); simp (implicitDefEqProofs := false) [enc_list, hkn, hkn', hgp, spliceV]
            have pw1 := po.w1
            have pw2 := po.w2
            have l1 := po.l1
            have l2 := po.l2
            have t2 := po.t2
            have t1 := po.t1
            have b0 := po.b0
            have b1 := po.b1
            obtain ⟨dd, hd⟩ : ∃ d : Nat, x.Disc = d := ⟨x.Disc.toNat, by have := po.d0; omega⟩
            have hd1 : dd < b.Discs.length := by have := po.d1; omega
            have hd1' : (dd : Int) < b.Discs.length := by omega
            have hgd := get_Int b.Discs dd hd1
            have hTd : discOf b x = b.Discs[dd] := by unfold discOf; rw [hd, List.getD_eq_getElem?_getD, Int.toNat_natCast, List.getElem?_eq_getElem hd1]; rfl
            rw [hTd] at hs l2 t2 t1 b1
            generalize b.Discs[dd] = DT at *
            have hDT : ¬ DT = 0 := by omega
            have hrem : yA.tmod DT = yA % DT := Int.tmod_eq_emod_of_nonneg (by omega)
            have w2 : IntKind.i64.wrap (yA - e) = yA - e := wrap64 (by omega) (by omega)
            have w3 : IntKind.i64.wrap ((q : Int) + x.Words.length) = ((q + x.Words.length : Nat) : Int) := by rw [wrap64 (by omega) (by omega)]; omega
            obtain ⟨P, hP⟩ : ∃ P, (pauseB b (endO k e) yA && decide (yA % DT = x.Begin) && decide (q + x.Words.length ≤ t.length)) = P := ⟨_, rfl⟩
            refine VW.seq (VW.seq_cut [(1, enc t), (2, .int .i64 f), (3, .int .i64 p), (5, .ptr 0 6 0), (13, .int .i64 q), (16, .ptr 1 2 0), (17, .ptr 2 4 0), (28, enc l), (29, .int .i64 l.length), (30, .int .i64 k), (96, .bool (!P))] [bcl b, .cells [.int .i64 kk, .int .i64 yA], .cells [enc x.Words, enc x.Disc, enc x.Begin, enc x.Long]] (VW.run good [] ?_) ?_)
            · obtain ⟨r, hr⟩ : ∃ r, q + x.Words.length = r := ⟨_, rfl⟩
              rw [hr] at w3 hP
              obtain ⟨m, hm⟩ : ∃ m, yA % DT = m := ⟨_, rfl⟩
              rw [hm] at hrem hP
              have hle : ((t.length : Int) < (r : Int)) = ¬ (r ≤ t.length) := by apply propext; omega
              have hle' : (t.length < r) = ¬ (r ≤ t.length) := by apply propext; omega
              by_cases hk0 : k = 0
              · subst hk0
                have hpz : pauseB b (endO 0 e) yA = true := rfl
                rw [hpz, Bool.true_and] at hP
                by_cases h2 : m = x.Begin
                · by_cases h3 : r ≤ t.length
                  · rw [decide_eq_true h2, decide_eq_true h3] at hP
                    subst hP
                    simp (implicitDefEqProofs := false) [enc_list, hd, hd1, hd1', hgd, hDT, hrem, w2, w3, h2, hle, hle', h3]
                    exact ⟨3, [], by simp [enc_list], by simp, by simp, by simp (implicitDefEqProofs := false) [enc_list], by simp (implicitDefEqProofs := false) [enc_list]⟩
                  · rw [decide_eq_true h2, decide_eq_false h3] at hP
                    subst hP
                    simp (implicitDefEqProofs := false) [enc_list, hd, hd1, hd1', hgd, hDT, hrem, w2, w3, h2, hle, hle', h3]
                    exact ⟨3, [], by simp [enc_list], by simp, by simp, by simp (implicitDefEqProofs := false) [enc_list], by simp (implicitDefEqProofs := false) [enc_list]⟩
                · rw [decide_eq_false h2, Bool.false_and] at hP
                  subst hP
                  simp (implicitDefEqProofs := false) [enc_list, hd, hd1, hd1', hgd, hDT, hrem, w2, w3, h2, hle, hle']
                  exact ⟨3, [], by simp [enc_list], by simp, by simp, by simp (implicitDefEqProofs := false) [enc_list], by simp (implicitDefEqProofs := false) [enc_list]⟩
              · have hk1 : 0 < k := by omega
                have hk1' : (0 : Int) < (k : Int) := by omega
                have hpz : pauseB b (endO k e) yA = wi (yA - e) b.Pause.Low b.Pause.High := by unfold endO pauseB; rw [if_neg hk0]
                rw [hpz] at hP
                cases h1 : wi (yA - e) b.Pause.Low b.Pause.High
                · rw [h1, Bool.false_and, Bool.false_and] at hP
                  subst hP
                  simp (implicitDefEqProofs := false) [enc_list, hd, hd1, hd1', hgd, hDT, hrem, w2, w3, h1, hk1, hk1']
                  exact ⟨3, [], by simp [enc_list], by simp, by simp, by simp (implicitDefEqProofs := false) [enc_list], by simp (implicitDefEqProofs := false) [enc_list]⟩
                · rw [h1, Bool.true_and] at hP
                  by_cases h2 : m = x.Begin
                  · by_cases h3 : r ≤ t.length
                    · rw [decide_eq_true h2, decide_eq_true h3] at hP
                      subst hP
                      simp (implicitDefEqProofs := false) [enc_list, hd, hd1, hd1', hgd, hDT, hrem, w2, w3, h1, hk1, hk1', h2, hle, hle', h3]
                      exact ⟨3, [], by simp [enc_list], by simp, by simp, by simp (implicitDefEqProofs := false) [enc_list], by simp (implicitDefEqProofs := false) [enc_list]⟩
                    · rw [decide_eq_true h2, decide_eq_false h3] at hP
                      subst hP
                      simp (implicitDefEqProofs := false) [enc_list, hd, hd1, hd1', hgd, hDT, hrem, w2, w3, h1, hk1, hk1', h2, hle, hle', h3]
                      exact ⟨3, [], by simp [enc_list], by simp, by simp, by simp (implicitDefEqProofs := false) [enc_list], by simp (implicitDefEqProofs := false) [enc_list]⟩
                  · rw [decide_eq_false h2, Bool.false_and] at hP
                    subst hP
                    simp (implicitDefEqProofs := false) [enc_list, hd, hd1, hd1', hgd, hDT, hrem, w2, w3, h1, hk1, hk1', h2, hle, hle']
                    exact ⟨3, [], by simp [enc_list], by simp, by simp, by simp (implicitDefEqProofs := false) [enc_list], by simp (implicitDefEqProofs := false) [enc_list]⟩
            have hsP : (P && (decide ((t.drop q).take x.Words.length = x.Words) && planB b t f p (q + x.Words.length) (some (yA + x.Long)) (List.drop (k + 1) l))) = T := by
              rw [← hs, ← hP]
              unfold fitsB
              simp only [Bool.and_assoc]
            clear hs
            cases P
            · have hTf : T = false := hsP.symm
              refine VW.run good [] ?_; simp (implicitDefEqProofs := false) [enc_list, hTf]
              simp (implicitDefEqProofs := false) [enc_list, AExit.leave]
            · rw [Bool.true_and] at hsP
              have hle : q + x.Words.length ≤ t.length := by simp only [Bool.and_eq_true, decide_eq_true_eq] at hP; exact hP.2
              generalize hD : decide ((t.drop q).take x.Words.length = x.Words) = D at hsP
              have w4 : IntKind.i64.wrap (yA + x.Long) = yA + x.Long := wrap64 (by omega) (by omega)
              have hwl : (x.Words.length : Int) ≤ 4 := by omega
              refine VW.run good [] ?_; simp (implicitDefEqProofs := false) [enc_list]
              refine VW.run good [] ?_; simp (implicitDefEqProofs := false) [enc_list]
              refine VW.loop_to 2 [(1, enc t), (2, .int .i64 f), (3, .int .i64 p), (5, .ptr 0 6 0), (13, .int .i64 ((q + x.Words.length : Nat) : Int)), (16, .ptr 1 2 0), (17, .ptr 2 4 0), (28, enc l), (29, .int .i64 l.length), (30, .int .i64 k)] [bcl b, .cells [.int .i64 kk, .int .i64 yA], .cells [enc x.Words, enc x.Disc, enc x.Begin, enc x.Long]] (D = true) ?_ (fun hp f m hc => ?_)
              · obtain ⟨Inv2, hI2⟩ : ∃ Inv : Nat → List (Nat × PV) → VM → Prop, ∀ i g m, Inv i g m ↔ (∃ r, r = q + i ∧ g = [(1, enc t), (2, .int .i64 f), (3, .int .i64 p), (5, .ptr 0 6 0), (13, .int .i64 (r : Nat)), (16, .ptr 1 2 0), (17, .ptr 2 4 0), (28, enc l), (29, .int .i64 l.length), (30, .int .i64 k), (98, enc x.Words), (99, .int .i64 x.Words.length), (100, .int .i64 i)] ∧ m = [bcl b, .cells [.int .i64 kk, .int .i64 yA], .cells [enc x.Words, enc x.Disc, enc x.Begin, enc x.Long]] ∧ decide ((t.drop r).take (x.Words.length - i) = x.Words.drop i) = D) := ⟨_, fun _ _ _ => Iff.rfl⟩
                refine VW.loop_cut Inv2 x.Words.length ?_ ?_ ?_
                · exact ⟨_, _, (hI2 _ _ _).2 ⟨q, rfl, rfl, rfl, hD⟩, ⟨3, [], by simp [enc_list], by simp, by simp, by simp (implicitDefEqProofs := false) [enc_list], by simp (implicitDefEqProofs := false) [enc_list]⟩⟩
                · intro i g m hi2 hv
                  obtain ⟨r, hr, rfl, rfl, hs2⟩ := (hI2 _ _ _).1 hv
                  have v1 : IntKind.i64.wrap ((i : Int) + 1) = i + 1 := wrap64 (by omega) (by omega)
                  have v2 : IntKind.i64.wrap ((r : Int) + 1) = ((r + 1 : Nat) : Int) := by rw [wrap64 (by omega) (by omega)]; omega
                  have hrl : r < t.length := by omega
                  have hrl' : (r : Int) < t.length := by omega
                  have hi2' : (i : Int) < x.Words.length := by omega
                  rw [List.drop_eq_getElem_cons hrl, List.drop_eq_getElem_cons hi2, show x.Words.length - i = (x.Words.length - (i + 1)) + 1 by omega, List.take_succ_cons] at hs2
                  have hgt := get_Int t r hrl
                  have hgw := get_Int x.Words i hi2
                  by_cases hc : t[r] = x.Words[i]
                  · rw [hc] at hgt hs2
                    simp only [List.cons.injEq, true_and] at hs2
                    refine VW.run good [] ?_; simp (implicitDefEqProofs := false) [enc_list, hi2, hi2', hrl, hrl', hgt, hgw, v1, v2]
                    exact ⟨_, _, (hI2 _ _ _).2 ⟨r + 1, by omega, rfl, rfl, hs2⟩, ⟨3, [], by simp [enc_list], by simp, by simp, by simp (implicitDefEqProofs := false) [enc_list], by simp (implicitDefEqProofs := false) [enc_list]⟩⟩
                  · have hDf : D = false := by
                      rw [← hs2, decide_eq_false_iff_not]
                      intro h
                      exact hc (List.cons.inj h).1
                    subst hDf
                    rw [Bool.false_and] at hsP
                    refine VW.run good [] ?_; simp (implicitDefEqProofs := false) [enc_list, hi2, hi2', hrl, hrl', hgt, hgw, v1, v2, hc, ← hsP]
                    simp (implicitDefEqProofs := false) [enc_list, AExit.leave]
                · intro g m hv
                  obtain ⟨r, hr, rfl, rfl, hs2⟩ := (hI2 _ _ _).1 hv
                  rw [Nat.sub_self, List.drop_length, List.take_zero] at hs2
                  subst hr
                  refine VW.run good [] ?_; simp (implicitDefEqProofs := false) [enc_list]
                  exact ⟨hs2.symm, ⟨3, [], by simp [enc_list], by simp, by simp, by simp (implicitDefEqProofs := false) [enc_list], by simp (implicitDefEqProofs := false) [enc_list]⟩⟩
              · subst hp
                rw [Bool.true_and] at hsP
                simp (implicitDefEqProofs := false)
                refine .ofCut hc (VW.run good [] ?_)
                simp (implicitDefEqProofs := false) [enc_list, w1, w4]
                refine VW.run good [] ?_; simp (implicitDefEqProofs := false) [enc_list, w1]
                exact ⟨_, _, (hI _ _ _).2 ⟨q + x.Words.length, yA + x.Long, rfl, rfl, hsP, hle, by omega, by omega, fun h => by omega⟩, ⟨1, [], by simp [enc_list], by simp, by simp, by simp (implicitDefEqProofs := false) [enc_list], by simp (implicitDefEqProofs := false) [enc_list]⟩⟩
      · intro g m hi
        obtain ⟨q, e, rfl, rfl, hs, hq, he0, he1, hez⟩ := (hI _ _ _).1 hi
        rw [List.drop_length, planB] at hs
        have hee : (endO l.length e).getD 0 = e := by
          unfold endO
          split
          · rename_i h; simp [hez h]
          · rfl
        rw [hee] at hs
        refine VW.run good [] ?_; simp (implicitDefEqProofs := false) [enc_list]
        exact ⟨q, e, ⟨hs.symm, he0, he1⟩, ⟨1, [], by simp [enc_list], by simp, by simp, by simp (implicitDefEqProofs := false) [enc_list], by simp (implicitDefEqProofs := false) [enc_list]⟩⟩
    · obtain ⟨hT2, he0, he1⟩ := hp
      obtain ⟨q, e⟩ := x
      simp only at hT2 he0 he1 hc
      have w1 : IntKind.i64.wrap (p - e) = p - e := wrap64 (by omega) (by omega)
      by_cases hq : q = t.length
      · have hq' : (q : Int) = (t.length : Int) := by omega
        rw [decide_eq_true hq, Bool.true_and] at hT2
        simp (implicitDefEqProofs := false); refine .ofCut hc (VW.run good [] ?_); simp (implicitDefEqProofs := false) [enc_list, hq, hq', w1, ← hT2]
      · have hq' : ¬ (q : Int) = (t.length : Int) := by omega
        rw [decide_eq_false hq, Bool.false_and] at hT2
        simp (implicitDefEqProofs := false); refine .ofCut hc (VW.run good [] ?_); simp (implicitDefEqProofs := false) [enc_list, hq, hq', w1, hT2]
  · have hR : IsPlanR b t f p l = (false, askedV b t f p) := if_neg ha
    rw [hR]
    refine VP.run (A := F24) (good) [] (by rw [hE]; rfl) (by simp [F24]) ?_; unfold F24; simp (implicitDefEqProofs := false) [enc_list, ha]
end Go.RS.DC

/- Walks: the program (13): the times at which a piece can begin, one by one. -/
namespace Go.RS.DC
open Go Go.RS
open Go.RS.Enc (enc dec)
variable {E : VEnv}
theorem upL_spec {turn last : Int} (ht : 1 ≤ turn) : ∀ (f : Nat) (t : Int), last - t < f → (∀ i, i < (upL turn last f t).length → (upL turn last f t)[i]? = some (t + i * turn) ∧ t + i * turn ≤ last) ∧ last < t + (upL turn last f t).length * turn
  | 0, t, h => ⟨by intro i hx; simp [upL] at hx, by simp [upL]; omega⟩
  | f + 1, t, h => by
    rw [upL]
    by_cases hl : t ≤ last
    · rw [if_pos hl]
      obtain ⟨h1, h2⟩ := upL_spec (last := last) ht f (t + turn) (by omega)
      refine ⟨fun i hx => ?_, ?_⟩
      · cases i with
        | zero => simpa using hl
        | succ i =>
          obtain ⟨g1, g2⟩ := h1 i (by simpa using hx)
          have e : t + ((i + 1 : Nat) : Int) * turn = t + turn + i * turn := by push_cast; rw [Int.add_mul]; omega
          rw [e]
          exact ⟨by simpa using g1, g2⟩
      · rw [List.length_cons]; push_cast; rw [Int.add_mul]; omega
    · rw [if_neg hl]; exact ⟨by intro i hx; simp at hx, by simp; omega⟩
theorem vc_starts (hE : E.env.fn = G) {g : Bool} {M : VM} {b : Book} {a : Arr 10 Bool} {k : Nat} {u v : Int} {K : PV → VM → Prop} (hg : g = false)
    (hk : K (.func 113 [] [.ptr M.length 16 0, .ptr (M.length + 1) 1 0, .ptr (M.length + 2) 1 0, .ptr (M.length + 3) 1 0]) (M ++ [kbl b a.l, .cells [.int .i64 k], .cells [.int .i64 u], .cells [.int .i64 v]])) :
    VC E g (.func 93 [] []) [.agg (enc b.Discs :: enc b.Pieces :: enc b.Pause.Low :: enc b.Pause.High :: enc b.Rest.Low :: enc b.Rest.High :: encL a.l), .int .i64 k, .int .i64 u, .int .i64 v] M K := by
  subst hg
  refine VC.func (A := F93) (by rw [hE]; rfl) (by simp [F93]) ?_
  unfold F93
  refine VW.run goodV_nil [] ?_
  have h16 : (encL a.l).length = 10 := by rw [encL_length, a.h]; rfl
  simp (implicitDefEqProofs := false) [enc_list, h16]
  exact hk
set_option maxHeartbeats 1600000 in
set_option maxRecDepth 20000 in
theorem VW.rangeStarts (hE : E.env.fn = G) {f : Opd} {ps : List Nat} {assign body : ACode} {bb kb fb lb n0 kq k : Nat} {b : Book} {a : Arr 10 Bool} {u v : Int} {fr : VFr} {M : VM} {Q : AExit → VFr → VM → Prop} (J : Nat → VM → Prop) (D : AExit → VM → Prop)
    (hf : f.evV E fr = .func 113 [] [.ptr bb 16 0, .ptr kb 1 0, .ptr fb 1 0, .ptr lb 1 0]) (o : BookOk b) (hkn : k < b.Pieces.length) (hu1 : u ≤ 1000000000) (hv1 : v ≤ 1000000000) (hv0 : -1000000000 ≤ v) (hps : ps.length = 1) (hfr : ∀ i, (fr i).und (n0 + 1) = true) (hM : M.length = n0)
    (hb0 : M[bb]? = some (kbl b a.l)) (hk0 : M[kb]? = some (.cells [.int .i64 k])) (hf0 : M[fb]? = some (.cells [.int .i64 u]))
    (h0 : J 0 (M.set fb (.cells [.int .i64 (max 0 u)])))
    (hJ : ∀ i pre, J i pre → pre.length = n0 ∧ pre[bb]? = some (kbl b a.l) ∧ pre[lb]? = some (.cells [.int .i64 v]) ∧ ∀ o ∈ pre, o.und (n0 + 1))
    (step : ∀ i t pre, (startsL b (pieceN b k) u v)[i]? = some t → t ≤ v → 0 ≤ t → J i pre → ∀ (c6 : List PV) (Lr Lb : VObj), (∀ n, (∀ i, (fr i).und n = true) → Lb.und n) → (∀ n, ∀ v ∈ c6, v.und n = true) →
      VW E (n0 + 2) assign (setParamsV fr ps [.int .i64 t]) (pre ++ [Lr, .cells c6]) fun e fr1 M1 => e = .normal ∧ ∃ ext, M1 = pre ++ ([Lr, .cells c6] ++ ext) ∧
        VW E (n0 + 2) body fr1 (pre ++ ([Lb, .cells c6] ++ ext)) fun e fr2 M2 => ∃ pre2 ext2, M2 = pre2 ++ Lb :: .cells c6 :: ext2 ∧ pre2.length = n0 ∧ ((e = .normal ∧ J (i + 1) pre2) ∨ (e ≠ .normal ∧ D e pre2)))
    (fin : ∀ pre L ext, J (startsL b (pieceN b k) u v).length pre → Q .normal fr (pre ++ .loop L :: ext))
    (out : ∀ e pre L ext, D e pre → pre.length = n0 → e ≠ .normal → Q e fr (pre ++ .loop L :: ext)) : VW E kq (.rangeFunc f ps assign body) fr M Q := by
  have p2 := o.p2
  have d2 := o.d2
  have good := goodV_cons (v_greatest hE) goodV_nil
  refine VW.rangeFunc hf (VC.func (A := F113) (by rw [hE]; rfl) (by simp [F113]) ?_)
  have hl0 : (M.set fb (.cells [.int .i64 (max 0 u)])).length = n0 := by simp [hM]
  have hlen : (M ++ [VObj.loop ⟨fr, ps, assign, body, .ready, none⟩]).length = n0 + 1 := by simp [hM]
  rw [hlen, hM]
  generalize hL0 : VObj.loop ⟨fr, ps, assign, body, .ready, none⟩ = L0 at *
  have hu : L0.und (n0 + 1) := by rw [← hL0]; exact hfr
  have h16 : (encL a.l).length = 10 := by rw [encL_length, a.h]; rfl
  have po := pieceN_ok o hkn
  have hpn : pieceN b k = b.Pieces[k] := by unfold pieceN; rw [List.getD_eq_getElem?_getD, List.getElem?_eq_getElem hkn]; rfl
  have hg := get_Piece b.Pieces k hkn
  rw [hpn] at step fin po
  generalize b.Pieces[k] = x at *
  obtain ⟨d, hd⟩ : ∃ d : Nat, x.Disc = d := ⟨x.Disc.toNat, by have := po.d0; omega⟩
  have hd1 : d < b.Discs.length := by have := po.d1; omega
  have hd1' : (d : Int) < b.Discs.length := by omega
  have hgd := get_Int b.Discs d hd1
  have hT : discOf b x = b.Discs[d] := by unfold discOf; rw [hd, List.getD_eq_getElem?_getD, Int.toNat_natCast, List.getElem?_eq_getElem hd1]; rfl
  have t1 := po.t1
  have t2 := po.t2
  have b0 := po.b0
  have b1 := po.b1
  unfold startsL at step fin
  rw [hT] at t1 t2 b1 step fin
  generalize b.Discs[d] = T at *
  have hT0 : ¬ T = 0 := by omega
  have hm0 : 0 ≤ max 0 u := Int.le_max_left _ _
  have hm1 : max 0 u ≤ 1000000000 := Int.max_le.2 ⟨by omega, hu1⟩
  have hgr : (dec (PV.lst true 1 1 [PV.int .i64 u]) : Option (List Int)) = some [u] := dec_lst true [u]
  obtain ⟨m, hm⟩ : ∃ m, max 0 u = m := ⟨_, rfl⟩
  rw [hm] at h0 hl0 step fin hm0 hm1
  have r0 := Int.emod_nonneg m hT0
  have r1 := Int.emod_lt_of_pos m (show 0 < T by omega)
  have h1 : m.tmod T = m % T := Int.tmod_eq_emod_of_nonneg hm0
  have h2 : IntKind.i64.wrap (x.Begin - m % T) = x.Begin - m % T := wrap64 (by omega) (by omega)
  have h3 : IntKind.i64.wrap (x.Begin - m % T + T) = x.Begin - m % T + T := wrap64 (by omega) (by omega)
  have h4 : (x.Begin - m % T + T).tmod T = (x.Begin - m % T + T) % T := Int.tmod_eq_emod_of_nonneg (by omega)
  have q0 := Int.emod_nonneg (x.Begin - m % T + T) hT0
  have q1 := Int.emod_lt_of_pos (x.Begin - m % T + T) (show 0 < T by omega)
  obtain ⟨t0, ht0⟩ : ∃ t0, firstT T x.Begin m = t0 := ⟨_, rfl⟩
  rw [ht0] at step fin
  have h5 : IntKind.i64.wrap (m + (x.Begin - m % T + T) % T) = t0 := by rw [← ht0]; exact wrap64 (by omega) (by omega)
  have h5' : IntKind.i64.wrap (m + (x.Begin - m) % T) = t0 := by
    have e : (x.Begin - m % T + T) % T = (x.Begin - m) % T := by simp
    rw [← e]; exact h5
  have ht1 : m ≤ t0 ∧ t0 < m + T := by unfold firstT at ht0; omega
  obtain ⟨hu1', hu2'⟩ := upL_spec (last := v) (turn := T) t1 (v - m + 1).toNat t0 (by omega)
  obtain ⟨S, hS⟩ : ∃ S, upL T v (v - m + 1).toNat t0 = S := ⟨_, rfl⟩
  rw [hS] at hu1' hu2' step fin
  clear ht0 hS q0 q1 r0 r1
  have hlf := len_hr hf0
  have hsf : (M.set fb (.cells [.int .i64 m]))[fb]? = some (.cells [.int .i64 m]) := List.getElem?_set_self hlf
  have hset : ∀ l, (M ++ l).set fb (.cells [.int .i64 m]) = M.set fb (.cells [.int .i64 m]) ++ l := fun l => set_hr hlf l _
  obtain ⟨N, hN⟩ : ∃ N, M.set fb (.cells [.int .i64 m]) = N := ⟨_, rfl⟩
  rw [hN] at h0 hl0 hsf hset
  obtain ⟨cx, hcx⟩ : ∃ cx, [enc x.Words, PV.int .i64 (d : Int), enc x.Begin, enc x.Long] = cx := ⟨_, rfl⟩
  have hcu : ∀ n, ∀ v ∈ cx, v.und n = true := fun n v hv => by
    rw [← hcx] at hv
    simp only [List.mem_cons, List.not_mem_nil, or_false] at hv
    rcases hv with rfl | rfl | rfl | rfl <;> rfl
  unfold F113
  refine VW.run good [] ?_
  simp (implicitDefEqProofs := false) [enc_list, get_hr hb0, get_hr hk0, get_hr hf0, h16, hkn, hg, hd, hd1, hd1', hgd, get_pre hM, get_pre0 hM, set_pre hM, spliceV, hgr, hM, hm, hset, get_hr hsf, get_pre hl0, get_pre0 hl0, hT0, h1, h2, h3, h4, h5, h5']
  have hcutJ : ∀ (fr : VFr) (l : List (Nat × PV)) (i : Nat) (pre ext : VM), J i pre → (∀ p ∈ l, (fr p.1).le p.2 ∧ p.2.und (n0 + 2) = true) → Cut (n0 + 1) fr (pre ++ ([L0, .cells cx] ++ ext)) l (pre ++ [L0, .cells cx]) := fun fr l i pre ext hj hs => by
    obtain ⟨q1, _, _, q4⟩ := hJ i pre hj
    rw [← List.append_assoc]
    refine cut_pre' (n := n0 + 2) (by simp [q1]) (by omega) ?_ hs
    intro o ho
    rcases List.mem_append.1 ho with ho | ho
    · exact obj_mono (by omega) (q4 o ho)
    · simp only [List.mem_cons, List.not_mem_nil, or_false] at ho
      rcases ho with rfl | rfl
      · exact obj_mono (by omega) hu
      · exact hcu _
  have hbx : ∀ i pre, J i pre → bb < n0 ∧ lb < n0 := fun i pre hj => by
    obtain ⟨q1, q2, q3, _⟩ := hJ i pre hj
    have := len_hr q2
    have := len_hr q3
    omega
  obtain ⟨Inv, hI⟩ : ∃ Inv : Nat → List (Nat × PV) → VM → Prop, ∀ i l m, Inv i l m ↔ (∃ pre t, J i pre ∧ t = t0 + (i : Int) * T ∧ l = [(0, .yield n0), (1, .ptr bb 16 0), (4, .ptr lb 1 0), (7, .int .i64 T), (8, .int .i64 t)] ∧ m = pre ++ [L0, .cells cx]) := ⟨_, fun _ _ _ => Iff.rfl⟩
  refine VW.loop_cut Inv S.length ?_ ?_ ?_
  · obtain ⟨q1, q2⟩ := hbx _ _ h0
    refine ⟨_, _, (hI _ _ _).2 ⟨N, t0, h0, by simp, rfl, rfl⟩, ?_⟩
    subst hcx
    exact hcutJ _ _ 0 N [] h0 (by simp (implicitDefEqProofs := false) [enc_list]; omega)
  · intro i l mm hi hv
    obtain ⟨pre, t, hj, ht, rfl, rfl⟩ := (hI _ _ _).1 hv
    obtain ⟨hl, hb, hlb, hup⟩ := hJ i pre hj
    obtain ⟨hSi, hle⟩ := hu1' i hi
    rw [← ht] at hSi hle
    have ht0' : 0 ≤ t := by
      have : 0 ≤ (i : Int) * T := Int.mul_nonneg (by omega) (by omega)
      omega
    have w1 : IntKind.i64.wrap (t + T) = t0 + ((i + 1 : Nat) : Int) * T := by
      rw [wrap64 (by omega) (by omega), ht]; push_cast; rw [Int.add_mul]; omega
    have hst := step i t pre hSi hle ht0' hj cx L0 (.loop ⟨fr, ps, assign, body, .busy, none⟩) (fun n hn => hn) hcu
    refine VW.run good [] ?_; simp (implicitDefEqProofs := false) [enc_list, get_hr hb, get_hr hlb, get_pre hl, get_pre0 hl, set_pre hl, hle, spc_yield]
    unfold VCo
    refine VC.yield (L := ⟨fr, ps, assign, body, .ready, none⟩) (by rw [get_pre0 hl]; simp [hL0]) (by simp [hps]) ?_
    have hM3 : ∀ a : VObj, (pre ++ [L0, a]).length = n0 + 2 := fun a => by simp [hl]
    rw [hM3]
    refine hst.mono ?_
    rintro e fr1 M1 ⟨rfl, ext, rfl, hbody⟩
    refine ⟨rfl, ⟨fr, ps, assign, body, .ready, none⟩, by rw [get_pre0 hl]; simp [hL0], rfl, ?_⟩
    rw [set_pre0 hl]
    refine hbody.mono ?_
    rintro e fr2 M2 ⟨pre2, ext2, rfl, hl2, hres⟩
    refine ⟨⟨fr, ps, assign, body, .busy, none⟩, by rw [get_pre0 hl2]; rfl, ?_⟩
    rw [set_pre0 hl2]
    rcases hres with ⟨rfl, hj2⟩ | ⟨hne, hd⟩
    · simp (implicitDefEqProofs := false) [enc_list, AExit.goesOn, AExit.stateAfter, AExit.jump, hL0, w1]
      obtain ⟨q1, q2⟩ := hbx _ _ hj2
      refine ⟨_, _, (hI _ _ _).2 ⟨pre2, _, hj2, rfl, rfl, rfl⟩, hcutJ _ _ _ pre2 ext2 hj2 ?_⟩
      simp (implicitDefEqProofs := false) [w1]
      omega
    · have hgo : e.goesOn = false := by
        cases e
        · exact absurd rfl hne
        · rfl
        · rfl
      have hstt : ¬ e.stateAfter = LoopState.busy := by cases e <;> simp [AExit.stateAfter]
      simp (implicitDefEqProofs := false) [enc_list, hgo, get_pre0 hl2, set_pre0 hl2, pend_jump, hstt]
      exact out e pre2 _ _ hd hl2 hne
  · intro l mm hv
    obtain ⟨pre, t, hj, ht, rfl, rfl⟩ := (hI _ _ _).1 hv
    obtain ⟨hl, hb, hlb, hup⟩ := hJ _ pre hj
    have hlt : ¬ t ≤ v := by omega
    have hlt' : v < t := by omega
    have hfin := fin pre
    refine VW.run good [] ?_; simp (implicitDefEqProofs := false) [enc_list, get_hr hb, get_hr hlb, get_pre0 hl, set_pre0 hl, hlt, hlt']
    exact ⟨_, hL0.symm, by simp, hfin _ [.cells cx] hj⟩
end Go.RS.DC

