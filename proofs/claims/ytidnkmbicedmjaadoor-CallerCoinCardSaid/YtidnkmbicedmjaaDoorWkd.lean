/- Walks: the program (11): what a call pays. -/
import Derived.Test.YtidnkmbicedmjaaDoorWkc
set_option linter.all false
namespace Go.RS.CC
open Go Go.RS
open Go.RS.Enc (enc dec)
variable {E : VEnv}
theorem w_fee (hE : E.env.fn = G) : Ok E 95 (s2 fun (h : Hour) (x : JCall) => some h.book.Fee) := by
  refine ok2 fun h x r hr => ?_
  cases hr
  refine VP.run (A := F95) (goodV_nil) [] (by rw [hE]; rfl) (by simp [F95]) ?_; unfold F95; simp (implicitDefEqProofs := false) [enc_list]
def unitsP (b : Book) (s : Served) : Int := (s.Left - s.Joined + b.Unit - 1) / b.Unit * b.Rate
theorem w_units (hE : E.env.fn = G) : Ok E 96 (s2 fun (h : Hour) (x : JCall) => if 1 ≤ h.book.Unit ∧ h.book.Unit ≤ 600 ∧ 0 ≤ h.book.Rate ∧ h.book.Rate ≤ 100 ∧ 0 ≤ x.served.Joined ∧ x.served.Joined ≤ x.served.Left ∧ x.served.Left ≤ 432300 then some (unitsP h.book x.served) else none) := by
  refine ok2 fun h x r hr => ?_
  split at hr
  · rename_i hc
    cases hr
    obtain ⟨u1, u2, r1, r2, j1, j2, j3⟩ := hc
    have w1 : IntKind.i64.wrap (x.served.Left - x.served.Joined) = x.served.Left - x.served.Joined := wrap64 (by omega) (by omega)
    have w2 : IntKind.i64.wrap (x.served.Left - x.served.Joined + h.book.Unit) = x.served.Left - x.served.Joined + h.book.Unit := wrap64 (by omega) (by omega)
    have w3 : IntKind.i64.wrap (x.served.Left - x.served.Joined + h.book.Unit - 1) = x.served.Left - x.served.Joined + h.book.Unit - 1 := wrap64 (by omega) (by omega)
    generalize hn : x.served.Left - x.served.Joined + h.book.Unit - 1 = n at *
    have q0 : 0 ≤ n / h.book.Unit := Int.ediv_nonneg (by omega) (by omega)
    have q1 : n / h.book.Unit < 433000 := (Int.ediv_lt_iff_lt_mul (by omega)).2 (by omega)
    have w4 : IntKind.i64.wrap (n.tdiv h.book.Unit) = n / h.book.Unit := by
      rw [Int.tdiv_eq_ediv_of_nonneg (by omega)]; exact wrap64 (by omega) (by omega)
    have p0 : 0 ≤ n / h.book.Unit * h.book.Rate := Int.mul_nonneg q0 r1
    have p1 : n / h.book.Unit * h.book.Rate ≤ 433000 * 100 := Int.mul_le_mul (by omega) (by omega) (by omega) (by omega)
    have w5 : IntKind.i64.wrap (n / h.book.Unit * h.book.Rate) = n / h.book.Unit * h.book.Rate := wrap64 (by omega) (by omega)
    have h0 : h.book.Unit ≠ 0 := by omega
    refine VP.run (A := F96) (goodV_nil) [] (by rw [hE]; rfl) (by simp [F96]) ?_; unfold F96; simp (implicitDefEqProofs := false) [enc_list, w1, w2, w3, w4, w5, h0, hn, unitsP]
  · cases hr
end Go.RS.CC

/- Walks: the program (12): Pay. -/
namespace Go.RS.CC
open Go Go.RS
open Go.RS.Enc (enc dec)
variable {E : VEnv}
def sumW : List Int → Int → Int
  | [], a => a
  | x :: l, a => sumW l (IntKind.i64.wrap (a + x))
theorem w_sum (hE : E.env.fn = G) : Ok E 65 (s1 fun l : List Int => some (sumW l 0)) := by
  refine ok1 fun l r hr => ?_
  cases hr
  refine VP.bound fun hb => ?_
  simp [enc_list] at hb
  refine VP.run (A := F65) (goodV_nil) [] (by rw [hE]; rfl) (by simp [F65]) ?_; unfold F65; simp (implicitDefEqProofs := false) [enc_list]
  refine VW.loop_to 0 [(3, .int .i64 (sumW l 0))] [] (True) ?_ (fun hp f m hc => ?_)
  · obtain ⟨Inv, hI⟩ : ∃ Inv : Nat → List (Nat × PV) → VM → Prop, ∀ k f m, Inv k f m ↔ (∃ a : Int, f = [(3, .int .i64 a), (6, enc l), (7, .int .i64 l.length), (8, .int .i64 k)] ∧ m = [] ∧ sumW l 0 = sumW (l.drop k) a) := ⟨_, fun _ _ _ => Iff.rfl⟩
    refine VW.loop_cut Inv l.length ?_ ?_ ?_
    · exact ⟨_, _, (hI _ _ _).2 ⟨0, rfl, rfl, rfl⟩, ⟨0, [], by simp [enc_list], by simp, by simp, by simp (implicitDefEqProofs := false) [enc_list], by simp (implicitDefEqProofs := false) [enc_list]⟩⟩
    · intro k f m hk hi
      obtain ⟨a, rfl, rfl, hs⟩ := (hI _ _ _).1 hi
      have w1 : IntKind.i64.wrap ((k : Int) + 1) = k + 1 := wrap64 (by omega) (by omega)
      rw [List.drop_eq_getElem_cons hk, sumW] at hs
      refine VW.run goodV_nil [] ?_; simp (implicitDefEqProofs := false) [enc_list, hk, get_Int l k hk, w1]
      exact ⟨_, _, (hI _ _ _).2 ⟨_, rfl, rfl, hs⟩, ⟨0, [], by simp [enc_list], by simp, by simp, by simp (implicitDefEqProofs := false) [enc_list], by simp (implicitDefEqProofs := false) [enc_list]⟩⟩
    · intro f m hi
      obtain ⟨a, rfl, rfl, hs⟩ := (hI _ _ _).1 hi
      rw [List.drop_length, sumW] at hs
      refine VW.run goodV_nil [] ?_; simp (implicitDefEqProofs := false) [enc_list]
      exact ⟨0, [], by simp [enc_list,  hs], by simp, by simp, by simp (implicitDefEqProofs := false) [enc_list,  hs], by simp (implicitDefEqProofs := false) [enc_list,  hs]⟩
  · simp (implicitDefEqProofs := false); refine .ofCut hc (VW.run goodV_nil [] ?_); simp (implicitDefEqProofs := false) [enc_list]
theorem units_same {b : Book} (hu : 1 ≤ b.Unit) (s : Served) : b.Fee + unitsP b s = paysR b s := by
  have h1 := Int.mul_ediv_add_emod (s.Left - s.Joined + b.Unit - 1) b.Unit
  have h2 := Int.emod_nonneg (s.Left - s.Joined + b.Unit - 1) (show b.Unit ≠ 0 by omega)
  have h3 := Int.emod_lt_of_pos (s.Left - s.Joined + b.Unit - 1) (show 0 < b.Unit by omega)
  have h4 : (-(s.Left - s.Joined)) / b.Unit = -((s.Left - s.Joined + b.Unit - 1) / b.Unit) := by
    refine ((Int.ediv_emod_unique (r := b.Unit - 1 - (s.Left - s.Joined + b.Unit - 1) % b.Unit) (show 0 < b.Unit by omega)).2 ⟨?_, by omega, by omega⟩).1
    rw [Int.mul_neg]
    omega
  unfold paysR unitsP
  rw [h4, Int.neg_neg, Int.mul_comm]
theorem sliceV_all (t n : Nat) : sliceV 1 (some ⟨t, 0, none⟩) n n none (some (.int .i64 n)) (some (.int .i64 n)) = some (.slice (some ⟨t, 0, none⟩) n n) := by
  simp [sliceV, slBounds, optBound, bound, Addr.add]
abbrev f95w : Value := .func (.func 95) #[] #[]
abbrev f96w : Value := .func (.func 96) #[] #[]
set_option maxRecDepth 20000 in
theorem w_PayP (hE : E.env.fn = G) (hgl : E.gl 0 = some [f95w, f96w]) : Ok E 31 (s3 fun b h c => some (PayR b h c)) := by
  refine ok3 fun b h c r hr => ?_
  cases hr
  refine VP.bound fun hb => ?_
  simp [enc_list] at hb
  have good := goodV_cons (w_askedP hE) (goodV_cons (w_sum hE) (goodV_cons (w_fee hE) (goodV_cons (w_units hE) goodV_nil)))
  by_cases ha : askedR b h c = 0
  · have ho := hour_ok ha
    obtain ⟨hok, h0, h1, h2, h3⟩ := askedR_zero ha
    have bo := okR_ok hok
    obtain ⟨hm, hh, hd⟩ := hourOf_mem h0 h1
    have hsv := ServeR_ok (b := b) (h := h) (c := c)
    have hcx := bo.hc _ hm
    generalize hq : hourOf b h = q at *
    generalize hS : serveR b.Each c [] q = S
    have hR : ServeR b h c = (S, 0) := by rw [ServeR, if_pos ha, hq, hS]
    have hSl : S.length = q.length := by rw [← hS, serveR_len]; simp
    have hln : q.length ≤ 1000 := ho.ln
    have hln12 : q.length ≤ 12 := bo.hl _ hm
    have hB : PayR b h c = ⟨(payL b q S (List.replicate b.Shares.length 0) 0).1, (payL b q S (List.replicate b.Shares.length 0) 0).2, 0⟩ := by unfold PayR; rw [hR, hq]; rfl
    rw [hB]
    rw [hR] at hsv
    generalize hT : payL b q S (List.replicate b.Shares.length 0) 0 = T
    have s1 := bo.s1
    have s2 := bo.s2
    have hne : b.Shares.length ≠ 0 := by omega
    have hne2 : b.Shares ≠ [] := by intro hx; rw [hx] at hne; exact hne rfl
    have hmk : b.Shares.length * 8 ≤ 1099511627776 ∧ b.Shares.length ≤ 1099511627776 := by omega
    have hlb : b.Shares.length ≤ openCap := by have := openCap_eq; omega
    refine VP.run (A := F31) (good) [] (by rw [hE]; rfl) (by simp [F31]) ?_; unfold F31; simp (implicitDefEqProofs := false) [enc_list, spliceV, askedP, ha, hq, hne, hne2, hmk, made_Int']
    unfold VCo
    refine vc_joined (h := ⟨b, q, c⟩) hE rfl ?_
    simp (implicitDefEqProofs := false) [enc_list]
    refine .ofCut (l := [(3, .ptr 0 6 0), (6, .ptr 1 1 0), (7, .ptr 2 1 0), (9, .ptr 3 8 0), (32, .func 75 [] [.ptr 5 8 0])]) (M := [bkc b, .cells [.sl 4 b.Shares.length 0 b.Shares.length b.Shares.length 1], .cells [.int .i64 0], hrc ⟨b, q, c⟩, .vec (encL (List.replicate b.Shares.length (0 : Int))), hrc ⟨b, q, c⟩]) ⟨6, [], by simp [enc_list], by simp, by simp, by simp (implicitDefEqProofs := false) [enc_list], by simp (implicitDefEqProofs := false) [enc_list]⟩ ?_
    refine VW.rangeJ (b := 5) (n0 := 6) (h := ⟨b, q, c⟩) hE (fun i pre => ∃ (p : List Int) (w : Int), pre = [bkc b, .cells [.sl 4 b.Shares.length 0 b.Shares.length b.Shares.length 1], .cells [.int .i64 w], hrc ⟨b, q, c⟩, .vec (encL p), hrc ⟨b, q, c⟩] ∧ p.length = b.Shares.length ∧ (∀ v ∈ p, 0 ≤ v ∧ v ≤ i * 43230200) ∧ 0 ≤ w ∧ w ≤ i * 43230200 ∧ T = payL b (q.drop i) (S.drop i) p w) (fun e pre => False) (by simp) ho hS rfl (mkF_und (by simp)) rfl ⟨List.replicate b.Shares.length 0, 0, rfl, by simp, fun v hv => by simp at hv; omega, by omega, by omega, hT.symm⟩ ?_ ?_ ?_ ?_ ?_
    · rintro i pre ⟨p, w, rfl, hpl, _⟩
      exact ⟨rfl, rfl, by simp (implicitDefEqProofs := false) [enc_list]⟩
    · rintro i pre hi ⟨p, w, rfl, hpl, hpv, hw0, hw1, hs⟩ hj
      have hi2 : i < q.length := by omega
      rw [List.drop_eq_getElem_cons hi, List.drop_eq_getElem_cons hi2, payL, if_pos hj] at hs
      exact ⟨p, w, rfl, hpl, fun v hv => by have := hpv v hv; omega, hw0, by omega, hs⟩
    · rintro i pre hi hc ⟨p, w, rfl, hpl, hpv, hw0, hw1, hs⟩ hj c3 c7 Lr Lb hLb
      have hi2 : i < q.length := by omega
      rw [List.drop_eq_getElem_cons hi, List.drop_eq_getElem_cons hi2, payL, if_neg (by omega)] at hs
      have hsv1 := hsv _ (List.getElem_mem hi)
      have hcx1 := hcx _ (List.getElem_mem hi2)
      generalize hx : S[i] = x at *
      generalize hy : q[i] = y at *
      refine VW.run good [] ?_; simp (implicitDefEqProofs := false) [enc_list, setParamsV]
      have hpr : ∀ fr, (Opd.c (Value.pointer (some { block := 0, off := 0 }))).evV E fr = .lptr [.func 95 [] [], .func 96 [] []] := fun fr => by simp [Opd.evV, PV.ofV, hgl, PV.ofS]
      refine VW.run good [] ?_; simp (implicitDefEqProofs := false) [enc_list, hpr, spliceV]
      refine VW.declare 12 1 (by simp) ?_
      have hcond : 1 ≤ b.Unit ∧ b.Unit ≤ 600 ∧ 0 ≤ b.Rate ∧ b.Rate ≤ 100 ∧ 0 ≤ x.Joined ∧ x.Joined ≤ x.Left ∧ x.Left ≤ 432300 := ⟨bo.u1, bo.u2, bo.r1, bo.r2, hj, by have := hsv1.d; omega, hsv1.l2⟩
      refine VW.loop_to 2 [(3, .ptr 0 6 0), (6, .ptr 1 1 0), (7, .ptr 2 1 0), (9, .ptr 3 8 0), (11, .ptr 9 7 0), (12, sl1 10 [b.Fee, unitsP b x])] [bkc b, .cells [.sl 4 b.Shares.length 0 b.Shares.length b.Shares.length 1], .cells [.int .i64 w], hrc ⟨b, q, c⟩, .vec (encL p), hrc ⟨b, q, c⟩, Lb, .gone, .gone, .cells (El.cells (JCall.mk y x)), .vec (encL [b.Fee, unitsP b x])] (True) ?_ (fun hp f m hc => ?_)
      · obtain ⟨Inv, hI⟩ : ∃ Inv : Nat → List (Nat × PV) → VM → Prop, ∀ k f m, Inv k f m ↔ (∃ out : List Int, f = [(3, .ptr 0 6 0), (6, .ptr 1 1 0), (7, .ptr 2 1 0), (9, .ptr 3 8 0), (11, .ptr 9 7 0), (12, sl1 10 out), (35, .agg [.func 95 [] [], .func 96 [] []]), (36, .int .i64 k)] ∧ m = [bkc b, .cells [.sl 4 b.Shares.length 0 b.Shares.length b.Shares.length 1], .cells [.int .i64 w], hrc ⟨b, q, c⟩, .vec (encL p), hrc ⟨b, q, c⟩, Lb, .gone, .gone, .cells (El.cells (JCall.mk y x)), .vec (encL out)] ∧ out = [b.Fee, unitsP b x].take k) := ⟨_, fun _ _ _ => Iff.rfl⟩
        refine VW.loop_cut Inv 2 ?_ ?_ ?_
        · exact ⟨_, _, (hI _ _ _).2 ⟨[], rfl, rfl, rfl⟩, ⟨11, [7, 8], by simp [enc_list], by simp, by simp, by simp (implicitDefEqProofs := false) [enc_list], by have hu := hLb 11 (mkF_und (by simp)); simpa (implicitDefEqProofs := false) [enc_list] using hu⟩⟩
        · intro k f m hk hi
          obtain ⟨out, rfl, rfl, ho⟩ := (hI _ _ _).1 hi
          have f1 : fits 1 8 = true := fits8 (by omega)
          have f2 : fits 2 8 = true := fits8 (by omega)
          have w01 : IntKind.i64.wrap 1 = 1 := wrap64 (by omega) (by omega)
          have w12 : IntKind.i64.wrap 2 = 2 := wrap64 (by omega) (by omega)
          have hk01 : k = 0 ∨ k = 1 := by omega
          rcases hk01 with rfl | rfl
          · obtain rfl : out = [] := ho
            refine VW.run good [] ?_; simp (implicitDefEqProofs := false) [enc_list, f1, spliceV, w01]
            exact ⟨_, _, (hI _ _ _).2 ⟨[b.Fee], rfl, rfl, rfl⟩, ⟨11, [], by simp [enc_list], by simp, by simp, by simp (implicitDefEqProofs := false) [enc_list, w01, w12], by have hu := hLb 11 (mkF_und (by simp)); simpa (implicitDefEqProofs := false) [enc_list] using hu⟩⟩
          · obtain rfl : out = [b.Fee] := ho
            refine VW.run good [] ?_; simp (implicitDefEqProofs := false) [enc_list, f2, hcond, spliceV, w12]
            exact ⟨_, _, (hI _ _ _).2 ⟨[b.Fee, unitsP b x], rfl, rfl, rfl⟩, ⟨11, [], by simp [enc_list], by simp, by simp, by simp (implicitDefEqProofs := false) [enc_list, w01, w12], by have hu := hLb 11 (mkF_und (by simp)); simpa (implicitDefEqProofs := false) [enc_list] using hu⟩⟩
        · intro f m hi
          obtain ⟨out, rfl, rfl, ho⟩ := (hI _ _ _).1 hi
          obtain rfl : out = [b.Fee, unitsP b x] := ho
          refine VW.run good [] ?_; simp (implicitDefEqProofs := false) [enc_list]
          exact ⟨11, [], by simp [enc_list], by simp, by simp, by simp (implicitDefEqProofs := false) [enc_list], by have hu := hLb 11 (mkF_und (by simp)); simpa (implicitDefEqProofs := false) [enc_list] using hu⟩
      · have hdec := fun (M : VM) (h' : M[10]? = some (.vec (encL [b.Fee, unitsP b x]))) => decf_Int M 10 [b.Fee, unitsP b x] h'
        simp only [List.length_cons, List.length_nil, Nat.zero_add, Nat.reduceAdd] at hdec
        obtain ⟨g1, g2, g3, g4, g5, g6⟩ := paysR_rng bo hsv1
        have hus := units_same bo.u1 x
        have k4 : sumW [b.Fee, unitsP b x] 0 = paysR b x := by
          have f1 := bo.f1
          have f2 := bo.f2
          rw [sumW, sumW, sumW, wrap64 (n := 0 + b.Fee) (by omega) (by omega), wrap64 (by omega) (by omega)]
          omega
        obtain ⟨hxr, hx1, hx2⟩ := hcx1
        have hxn : y.From.toNat < b.Shares.length := by omega
        obtain ⟨g7, g8, g9, g10⟩ := partR_rng bo hsv1 hxn
        have gsh : b.Shares.getD y.From.toNat 0 = b.Shares[y.From.toNat] := by simp [hxn]
        have hpn : y.From.toNat < p.length := by omega
        have gp : p.getD y.From.toNat 0 = p[y.From.toNat] := by simp [hpn]
        obtain ⟨v1, v2⟩ := hpv _ (List.getElem_mem hpn)
        have k5 : IntKind.i64.wrap (paysR b x * b.Shares[y.From.toNat]) = paysR b x * b.Shares[y.From.toNat] := by rw [← gsh]; exact wrap64 (by omega) (by omega)
        have k6 : IntKind.i64.wrap ((paysR b x * b.Shares[y.From.toNat]).tdiv 100) = partR b y x := by
          rw [← gsh, Int.tdiv_eq_ediv_of_nonneg g7]; exact wrap64 (by unfold partR at g9; omega) (by unfold partR at g10; omega)
        have k7 : IntKind.i64.wrap (p[y.From.toNat] + partR b y x) = p[y.From.toNat] + partR b y x := wrap64 (by omega) (by omega)
        have k8 : IntKind.i64.wrap (paysR b x - partR b y x) = paysR b x - partR b y x := wrap64 (by omega) (by omega)
        have k9 : IntKind.i64.wrap (w + (paysR b x - partR b y x)) = w + (paysR b x - partR b y x) := wrap64 (by omega) (by omega)
        have hxle : y.From.toNat + 1 ≤ b.Shares.length := hxn
        have hpos : 0 < b.Shares.length := by omega
        have hne0 : ¬ b.Shares.length = 0 := hne
        simp (implicitDefEqProofs := false); refine .ofCut hc (VW.run good [] ?_); simp (implicitDefEqProofs := false) [enc_list, hdec, k4, k5, k6, k7, k8, k9, hx1, hx2, hpos, hpl, hxle, get_Int _ _ hxn, at_Int _ _ hpn, splice_Int _ _ _ hpn, spliceV]
        rw [gp] at hs
        have hsp : List.take y.From.toNat (encL p) ++ PV.int .i64 (p[y.From.toNat] + partR b y x) :: List.drop (y.From.toNat + 1) (encL p) = encL (p.set y.From.toNat (p[y.From.toNat] + partR b y x)) := by
          have := splice_Int p y.From.toNat (p[y.From.toNat] + partR b y x) hpn
          simpa [spliceV] using this
        rw [hsp]
        refine ⟨[bkc b, .cells [.sl 4 b.Shares.length 0 b.Shares.length b.Shares.length 1], .cells [.int .i64 (w + (paysR b x - partR b y x))], hrc ⟨b, q, c⟩, .vec (encL (p.set y.From.toNat (p[y.From.toNat] + partR b y x))), hrc ⟨b, q, c⟩], ⟨_, rfl⟩, rfl, _, _, rfl, by simpa using hpl, fun v hv => ?_, by omega, by omega, hs⟩
        rcases List.mem_or_eq_of_mem_set hv with hv | hv
        · have := hpv v hv; omega
        · omega
    · rintro pre L ext ⟨p, w, rfl, hpl, hpv, hw0, hw1, hs⟩
      rw [List.drop_length] at hs
      have hz : payL b (q.drop S.length) [] p w = (p, w) := by cases q.drop S.length <;> rfl
      rw [hz] at hs
      subst hs
      simp (implicitDefEqProofs := false) [enc_list]
      have hcp : b.Shares.length < openCap ∨ b.Shares.length = openCap ∨ b.Shares.length = openCap + 1 := by omega
      have hsa := sliceV_all 4 b.Shares.length
      refine VW.run good [] ?_; simp (implicitDefEqProofs := false) [enc_list, lefm_Int', hpl, hlb, slV_all, hne, hcp, hsa, ofSlice, PV.toS, spliceV]
    · intro e pre L ext hf; exact hf.elim
  · have hR : PayR b h c = ⟨[], 0, askedR b h c⟩ := by unfold PayR ServeR; rw [if_neg ha]; simp [ha]
    rw [hR]
    refine VP.run (A := F31) (good) [] (by rw [hE]; rfl) (by simp [F31]) ?_; unfold F31; simp (implicitDefEqProofs := false) [enc_list, spliceV, askedP, ha, noHour]
end Go.RS.CC

/- Walks: the program (13): Change. -/
namespace Go.RS.CC
open Go Go.RS
open Go.RS.Enc (enc dec)
variable {E : VEnv}
theorem w_soonerP (hE : E.env.fn = G) : Ok E 78 (s2 fun a b => some (sooner a b)) := by
  refine ok2 fun a b r hr => ?_
  cases hr
  refine VP.run (A := F78) (goodV_nil) [] (by rw [hE]; rfl) (by simp [F78]) ?_; unfold F78; simp (implicitDefEqProofs := false) [enc_list]
  repeat' (first | (refine vstep_split (fun hb => ?_) (fun hb => ?_) <;> (try simp only [Bool.not_eq_eq_eq_not, Bool.not_true, Bool.not_false, decide_eq_true_eq, decide_eq_false_iff_not] at hb) <;> simp (implicitDefEqProofs := false) [hb, enc_list]) | (refine vcond_split (fun hb => ?_) (fun hb => ?_) <;> (try simp only [Bool.not_eq_eq_eq_not, Bool.not_true, Bool.not_false, decide_eq_true_eq, decide_eq_false_iff_not] at hb) <;> simp (implicitDefEqProofs := false) [hb, enc_list]))
  all_goals simp [sooner, *]
abbrev fn78 : PV := .func 78 [] []
def s67 : List PV → Option PV | [] => some (.agg [fn78]) | _ => none
theorem w_order (hE : E.env.fn = G) : Ok E 67 s67 := by
  intro args r hr
  match args, hr with
  | [], hr =>
    cases hr
    refine VP.run (A := F67) (goodV_nil) [] (by rw [hE]; rfl) (by simp [F67]) ?_; unfold F67; simp (implicitDefEqProofs := false) [enc_list, spliceV]
theorem w_ChangeP (hE : E.env.fn = G) : Ok E 33 (s3 fun b h c => some (ChangeR b h c)) := by
  refine ok3 fun b h c r hr => ?_
  cases hr
  refine VP.bound fun hb => ?_
  simp [enc_list] at hb
  have good := goodV_cons (w_askedP hE) (goodV_cons (w_order hE) (goodV_cons (w_soonerP hE) (goodV_cons (w_serveH hE) goodV_nil)))
  by_cases ha : askedR b h c = 0
  · have ho := hour_ok ha
    obtain ⟨hok, h0, h1, h2, h3⟩ := askedR_zero ha
    have bo := okR_ok hok
    obtain ⟨hm, hh, hd⟩ := hourOf_mem h0 h1
    have hS0 : ServeR b h c = (serveR b.Each c [] (hourOf b h), 0) := by rw [ServeR, if_pos ha]
    by_cases h20 : c = 20
    · have ha2 : askedR b h (c + 1) = 91 := by
        have hw : wi (c + 1) 1 20 = false := by rw [h20]; rfl
        unfold askedR; rw [if_pos hok, hw, Bool.and_false, if_neg (by decide)]
      have hR : ChangeR b h c = ⟨[], [], 91⟩ := by unfold ChangeR; rw [hS0]; unfold ServeR; rw [ha2]; rfl
      subst h20
      rw [hR]
      refine VP.run (A := F33) (good) [] (by rw [hE]; rfl) (by simp [F33]) ?_; unfold F33; simp (implicitDefEqProofs := false) [enc_list, spliceV, askedP, ha]
    · have ha2 : askedR b h (c + 1) = 0 := by
        have hw : wi (c + 1) 1 20 = true := (wi_iff _ _ _).2 ⟨by omega, by omega⟩
        have hw2 : wi c 1 20 = true := (wi_iff _ _ _).2 ⟨by omega, by omega⟩
        unfold askedR at ha ⊢
        rw [if_pos hok, hw2] at ha
        rw [if_pos hok, hw]
        exact ha
      have ho2 := hour_ok ha2
      have hS1 : ServeR b h (c + 1) = (serveR b.Each (c + 1) [] (hourOf b h), 0) := by rw [ServeR, if_pos ha2]
      have hF1 := serveHF_asked ha
      have hF2 := serveHF_asked ha2
      have hln12 : (hourOf b h).length ≤ 12 := bo.hl _ hm
      generalize hq : hourOf b h = q at *
      have hSl : (serveR b.Each c [] q).length = q.length := by rw [serveR_len]; simp
      have hTl : (serveR b.Each (c + 1) [] q).length = q.length := by rw [serveR_len]; simp
      generalize serveR b.Each c [] q = S at *
      generalize serveR b.Each (c + 1) [] q = T at *
      have hR : ChangeR b h c = ⟨(chgL 0 S T).1, (chgL 0 S T).2, 0⟩ := by unfold ChangeR; rw [hS0, hS1]; rfl
      rw [hR]
      have w0 : IntKind.i64.wrap (c + 1) = c + 1 := wrap64 (by omega) (by omega)
      refine VP.run (A := F33) (good) [] (by rw [hE]; rfl) (by simp [F33]) ?_; unfold F33; simp (implicitDefEqProofs := false) [enc_list, spliceV, askedP, ha, h20, hq, w0, hF1, hF2, s67]
      refine VW.declare 6 1 (by simp) (VW.declare 7 1 (by simp) ?_)
      refine VW.loop_to 0 [(6, sl1 4 (chgL 0 S T).1), (7, sl1 5 (chgL 0 S T).2)] [.gone, .gone, .gone, .gone, .vec (encL (chgL 0 S T).1), .vec (encL (chgL 0 S T).2)] (True) ?_ (fun hp f m hc => ?_)
      · obtain ⟨Inv, hI⟩ : ∃ Inv : Nat → List (Nat × PV) → VM → Prop, ∀ k f m, Inv k f m ↔ (∃ x y : List Int, f = [(6, sl1 4 x), (7, sl1 5 y), (11, .ptr 3 1 0), (12, enc S), (36, enc T), (37, .int .i64 T.length), (38, .int .i64 k)] ∧ m = [.gone, .gone, .gone, .cells [fn78], .vec (encL x), .vec (encL y)] ∧ x.length ≤ k ∧ y.length ≤ k ∧ chgL 0 S T = (x ++ (chgL k (S.drop k) (T.drop k)).1, y ++ (chgL k (S.drop k) (T.drop k)).2)) := ⟨_, fun _ _ _ => Iff.rfl⟩
        refine VW.loop_cut Inv T.length ?_ ?_ ?_
        · exact ⟨_, _, (hI _ _ _).2 ⟨[], [], rfl, rfl, by simp, by simp, rfl⟩, ⟨6, [0, 1, 2], by simp [enc_list], by simp, by simp, by simp (implicitDefEqProofs := false) [enc_list], by simp (implicitDefEqProofs := false) [enc_list]⟩⟩
        · intro k f m hk2 hi
          obtain ⟨x, y, rfl, rfl, hx, hy, hs⟩ := (hI _ _ _).1 hi
          have hk : k < S.length := by omega
          have w1 : IntKind.i64.wrap ((k : Int) + 1) = k + 1 := wrap64 (by omega) (by omega)
          have f1 : fits (x.length + 1) 8 = true := fits8 (by omega)
          have f2 : fits (y.length + 1) 8 = true := fits8 (by omega)
          rw [List.drop_eq_getElem_cons hk, List.drop_eq_getElem_cons hk2, chgL] at hs
          simp only [] at hs
          have e1 : (x ++ [(k : Int)]).length = x.length + 1 := by simp
          have e2 : (y ++ [(k : Int)]).length = y.length + 1 := by simp
          refine VW.run good [] ?_; simp (implicitDefEqProofs := false) [enc_list, hk, hk2, w1, f1, f2, spliceV, get_Served S k hk, get_Served T k hk2]
          repeat' (first | (refine vstep_split (fun hb => ?_) (fun hb => ?_) <;> (try simp only [Bool.not_eq_eq_eq_not, Bool.not_true, Bool.not_false, decide_eq_true_eq, decide_eq_false_iff_not] at hb) <;> simp (implicitDefEqProofs := false) [hb, enc_list, hk, hk2, w1, f1, f2, spliceV, get_Served S k hk, get_Served T k hk2]) | (refine vcond_split (fun hb => ?_) (fun hb => ?_) <;> (try simp only [Bool.not_eq_eq_eq_not, Bool.not_true, Bool.not_false, decide_eq_true_eq, decide_eq_false_iff_not] at hb) <;> simp (implicitDefEqProofs := false) [hb, enc_list, hk, hk2, w1, f1, f2, spliceV, get_Served S k hk, get_Served T k hk2]))
          · refine ⟨_, _, (hI _ _ _).2 ⟨x ++ [(k : Int)], y ++ [(k : Int)], rfl, rfl, by omega, by omega, ?_⟩, ⟨6, [], by simp [enc_list,  e1, e2], by simp, by simp, by simp (implicitDefEqProofs := false) [enc_list,  e1, e2], by simp (implicitDefEqProofs := false) [enc_list,  e1, e2]⟩⟩
            rw [hs]; simp [*]
          · refine ⟨_, _, (hI _ _ _).2 ⟨x ++ [(k : Int)], y, rfl, rfl, by omega, by omega, ?_⟩, ⟨6, [], by simp [enc_list,  e1, e2], by simp, by simp, by simp (implicitDefEqProofs := false) [enc_list,  e1, e2], by simp (implicitDefEqProofs := false) [enc_list,  e1, e2]⟩⟩
            rw [hs]; simp [*]
          · refine ⟨_, _, (hI _ _ _).2 ⟨x, y ++ [(k : Int)], rfl, rfl, by omega, by omega, ?_⟩, ⟨6, [], by simp [enc_list,  e1, e2], by simp, by simp, by simp (implicitDefEqProofs := false) [enc_list,  e1, e2], by simp (implicitDefEqProofs := false) [enc_list,  e1, e2]⟩⟩
            rw [hs]; simp [*]
          · refine ⟨_, _, (hI _ _ _).2 ⟨x, y, rfl, rfl, by omega, by omega, ?_⟩, ⟨6, [], by simp [enc_list,  e1, e2], by simp, by simp, by simp (implicitDefEqProofs := false) [enc_list,  e1, e2], by simp (implicitDefEqProofs := false) [enc_list,  e1, e2]⟩⟩
            rw [hs]; simp [*]
        · intro f m hi
          obtain ⟨x, y, rfl, rfl, hx, hy, hs⟩ := (hI _ _ _).1 hi
          rw [List.drop_length] at hs
          have hz : chgL T.length (S.drop T.length) [] = ([], []) := by simp [chgL]
          rw [hz] at hs
          simp at hs
          refine VW.run good [] ?_; simp (implicitDefEqProofs := false) [enc_list]
          exact ⟨6, [3], by simp [enc_list, hs], by simp, by simp, by simp (implicitDefEqProofs := false) [enc_list, hs], by simp (implicitDefEqProofs := false) [enc_list]⟩
      · generalize (chgL 0 S T).1 = X at *
        generalize (chgL 0 S T).2 = Y at *
        simp (implicitDefEqProofs := false) [enc_list]
        refine .ofCut hc ?_
        refine VW.freeze 6 (t := 4) (len := X.length) (o := 0) (q := X.length) (cap := openCap + 1) (e := 1) (by simp) (VW.freeze 7 (t := 5) (len := Y.length) (o := 0) (q := Y.length) (cap := openCap + 1) (e := 1) (by simp) ?_)
        refine VW.less [(6, enc X), (7, enc Y)] (by simp (implicitDefEqProofs := false) [enc_list]) ?_
        refine VW.run good [] ?_; simp (implicitDefEqProofs := false) [enc_list, slV_all, take_In]
  · have hR : ChangeR b h c = ⟨[], [], askedR b h c⟩ := by unfold ChangeR ServeR; rw [if_neg ha]; simp [ha]
    rw [hR]
    refine VP.run (A := F33) (good) [] (by rw [hE]; rfl) (by simp [F33]) ?_; unfold F33; simp (implicitDefEqProofs := false) [enc_list, spliceV, askedP, ha, noHour]
end Go.RS.CC

/- Walks: the program (14): Which (a map of lists). -/
namespace Go.RS.CC
open Go Go.RS
open Go.RS.Enc (enc dec)
variable {E : VEnv}
/-- An entry: what was counted, where its list lies, its list. -/
abbrev WE := (Int × Int) × Nat × List Int
def kV (K : Int × Int) : PV := .agg [.int .i64 K.1, .int .i64 K.2]
def esW : Nat → List WE → List (PV × PV × Nat)
  | _, [] => []
  | j, p :: r => (kV p.1, sl1 p.2.1 p.2.2, j) :: esW (j + 1) r
abbrev KW : KS := .agg [.int, .int]
theorem key_pair (a b : Int × Int) : keyEqV KW (kV a) (kV b) = some (decide (a = b)) := by
  simp [keyEqV, kV, atomsEqV, atomEqV]
  rw [Bool.eq_iff_iff]
  simp [Prod.ext_iff]
theorem keyOk_pair (a : Int × Int) : keyOkV KW (kV a) = true := by unfold keyOkV; rw [key_pair]; simp
theorem esW_len : ∀ (ps : List WE) (j : Nat), (esW j ps).length = ps.length
  | [], _ => rfl
  | p :: r, j => by simp [esW, esW_len r]
theorem esW_append : ∀ (a c : List WE) (j : Nat), esW j (a ++ c) = esW j a ++ esW (j + a.length) c
  | [], c, j => by simp [esW]
  | p :: a, c, j => by
    rw [List.cons_append, esW, esW, esW_append a c (j + 1), List.cons_append, List.length_cons]
    congr 3; omega
theorem find_esN {K : Int × Int} : ∀ (ps : List WE) (j i : Nat), (∀ p ∈ ps, p.1 ≠ K) → findKV KW (kV K) (esW j ps) i = some none
  | [], _, _, _ => rfl
  | p :: r, j, i, h => by
    simp only [esW, findKV, key_pair]
    have : ¬ K = p.1 := fun e => h p (by simp) e.symm
    simp only [this, decide_false]
    exact find_esN r (j + 1) (i + 1) fun x hx => h x (by simp [hx])
theorem find_esS {K : Int × Int} {p : WE} {c : List WE} (hp : p.1 = K) : ∀ (a : List WE) (j i : Nat), (∀ x ∈ a, x.1 ≠ K) → findKV KW (kV K) (esW j (a ++ p :: c)) i = some (some (i + a.length, sl1 p.2.1 p.2.2))
  | [], j, i, _ => by
    simp only [List.nil_append, esW, findKV, key_pair, hp, decide_true]
    rfl
  | x :: a, j, i, h => by
    simp only [List.cons_append, esW, findKV, key_pair]
    have : ¬ K = x.1 := fun e => h x (by simp) e.symm
    simp only [this, decide_false]
    rw [find_esS hp a (j + 1) (i + 1) fun y hy => h y (by simp [hy])]
    simp only [List.length_cons]
    congr 3; omega
theorem modify_mid {α : Type} (f : α → α) (x : α) (l2 : List α) : ∀ l1 : List α, (l1 ++ x :: l2).modify l1.length f = l1 ++ f x :: l2
  | [] => rfl
  | y :: l1 => by simpa using modify_mid f x l2 l1
theorem findIdx_es : ∀ (ps : List WE) (j b : Nat), j ≤ b → b < j + ps.length → (esW j ps).findIdx? (fun e => (e.2.2 : Int) == (b : Int)) = some (b - j)
  | [], j, b, h1, h2 => by simp at h2; omega
  | p :: r, j, b, h1, h2 => by
    rw [esW, List.findIdx?_cons]
    by_cases hb : j = b
    · subst hb; simp
    · have : ((j : Int) == (b : Int)) = false := by simp; omega
      simp only [this]
      rw [findIdx_es r (j + 1) b (by omega) (by simp at h2; omega)]
      simp; omega
def listOf (K : Int × Int) (ps : List WE) : List Int := match ps.find? (fun p => decide (p.1 = K)) with | some p => p.2.2 | none => []
theorem listOf_split (K : Int × Int) (ps : List WE) : (∀ p ∈ ps, p.1 ≠ K) ∨ ∃ a p c, ps = a ++ p :: c ∧ p.1 = K ∧ ∀ x ∈ a, x.1 ≠ K := by
  induction ps with
  | nil => exact .inl (by simp)
  | cons p r ih =>
    by_cases hp : p.1 = K
    · exact .inr ⟨[], p, r, rfl, hp, by simp⟩
    · rcases ih with h | ⟨a, x, c, rfl, h1, h2⟩
      · exact .inl fun x hx => by
          rcases List.mem_cons.1 hx with rfl | hx
          · exact hp
          · exact h x hx
      · exact .inr ⟨p :: a, x, c, rfl, h1, fun y hy => by
          rcases List.mem_cons.1 hy with rfl | hy
          · exact hp
          · exact h2 y hy⟩
theorem listOf_none {K : Int × Int} {ps : List WE} (h : ∀ p ∈ ps, p.1 ≠ K) : listOf K ps = [] := by
  unfold listOf
  rw [List.find?_eq_none.2 (fun p hp => by simpa using h p hp)]
theorem listOf_mid {K : Int × Int} {a c : List WE} {p : WE} (hp : p.1 = K) (h : ∀ x ∈ a, x.1 ≠ K) : listOf K (a ++ p :: c) = p.2.2 := by
  unfold listOf
  rw [List.find?_append, List.find?_eq_none.2 (fun x hx => by simpa using h x hx)]
  simp [hp]
theorem listOf_other {K K' : Int × Int} {a c : List WE} {p p' : WE} (hp : p.1 = K) (hp' : p'.1 = K) (h : K ≠ K') : listOf K' (a ++ p :: c) = listOf K' (a ++ p' :: c) := by
  unfold listOf
  have e1 : ¬ p.1 = K' := by rw [hp]; exact h
  have e2 : ¬ p'.1 = K' := by rw [hp']; exact h
  simp [List.find?_append, List.find?_cons, e1, e2]
theorem listOf_snoc {K K' : Int × Int} {ps : List WE} {p : WE} (hp : p.1 = K) (h : K ≠ K') : listOf K' (ps ++ [p]) = listOf K' ps := by
  unfold listOf
  have e1 : ¬ p.1 = K' := by rw [hp]; exact h
  simp [List.find?_append, List.find?_cons, e1]
theorem whL_snoc (t : Int → Bool) : ∀ (n : Nat) (c : Int), whL t (n + 1) c = whL t n c ++ (if t (c + n) then [c + n] else [])
  | 0, c => by simp [whL]
  | n + 1, c => by
    rw [whL, whL_snoc t n (c + 1), whL, List.append_assoc]
    have : c + 1 + (n : Int) = c + ((n + 1 : Nat) : Int) := by omega
    rw [this]
theorem whL_len (t : Int → Bool) : ∀ (n : Nat) (c : Int), (whL t n c).length ≤ n
  | 0, c => by simp [whL]
  | n + 1, c => by
    rw [whL, List.length_append]
    have := whL_len t n (c + 1)
    split <;> simp <;> omega
/-- The memory at the head of the loop. -/
structure WOk (b : Book) (q : List Call) (c : Int) (M : VM) (ps : List WE) : Prop where
  hr : M[1]? = some (hrc ⟨b, q, c⟩)
  mp : M[2]? = some (.map (esW 0 ps) ps.length)
  vec : ∀ p ∈ ps, M[p.2.1]? = some (.vec (encL p.2.2))
  und : ∀ o ∈ M, ∀ n, M.length ≤ n → o.und n
  keys : ps.Pairwise fun x y => x.1 ≠ y.1
  poss : ps.Pairwise fun x y => x.2.1 ≠ y.2.1
theorem esW_und {n : Nat} : ∀ (ps : List WE) (j : Nat), (∀ p ∈ ps, p.2.1 < n) → ∀ e ∈ esW j ps, e.1.und n = true ∧ e.2.1.und n = true
  | [], _, _, e, he => by cases he
  | p :: r, j, h, e, he => by
    rcases List.mem_cons.1 he with rfl | he
    · exact ⟨rfl, by have := h p (by simp); simpa using this⟩
    · exact esW_und r (j + 1) (fun x hx => h x (by simp [hx])) e he
theorem vec_und (l : List Int) (n : Nat) : (VObj.vec (encL l)).und n := by simp (implicitDefEqProofs := false)
theorem cells2_und (a t : Int) (n : Nat) : (VObj.cells [.int .i64 a, .int .i64 t]).und n := by simp (implicitDefEqProofs := false)
theorem hrc_und (h : Hour) (n : Nat) : (hrc h).und n := by simp (implicitDefEqProofs := false) [enc_list]
theorem mem_set_cases {α : Type} {l : List α} {i : Nat} {x y : α} (h : y ∈ l.set i x) : y ∈ l ∨ y = x := List.mem_or_eq_of_mem_set h
theorem WOk.chan {b : Book} {q : List Call} {c : Int} {M : VM} {ps : List WE} (w : WOk b q c M ps) (c' : Int) : WOk b q c' (M.set 1 (hrc ⟨b, q, c'⟩)) ps := by
  have h1 : 1 < M.length := (List.getElem?_eq_some_iff.1 w.hr).1
  refine ⟨by rw [List.getElem?_set_self h1], by rw [List.getElem?_set_ne (by decide)]; exact w.mp, fun p hp => ?_, fun o ho n hn => ?_, w.keys, w.poss⟩
  · have := w.vec p hp
    rw [List.getElem?_set_ne (fun he => by rw [← he, w.hr] at this; cases this)]
    exact this
  · rcases mem_set_cases ho with ho | rfl
    · exact w.und o ho n (by simpa using hn)
    · exact hrc_und _ n
/-- A first one. -/
theorem WOk.new {b : Book} {q : List Call} {c : Int} {M : VM} {ps : List WE} (w : WOk b q c M ps) {K : Int × Int} (hK : ∀ p ∈ ps, p.1 ≠ K) (x : Int) (o : VObj) (ho : ∀ n, o.und n) :
    WOk b q c (M.set 2 (.map (esW 0 (ps ++ [(K, M.length + 1, [x])])) (ps.length + 1)) ++ [o, .vec (encL [x])]) (ps ++ [(K, M.length + 1, [x])]) := by
  have h2 : 2 < M.length := (List.getElem?_eq_some_iff.1 w.mp).1
  have lt : ∀ p ∈ ps, p.2.1 < M.length := fun p hp => (List.getElem?_eq_some_iff.1 (w.vec p hp)).1
  refine ⟨?_, ?_, fun p hp => ?_, fun o' ho' n hn => ?_, ?_, ?_⟩
  · rw [List.getElem?_append_left (by simp; omega), List.getElem?_set_ne (by decide)]; exact w.hr
  · rw [List.getElem?_append_left (by simp; omega), List.getElem?_set_self h2]; simp
  · rcases List.mem_append.1 hp with hp | hp
    · have := w.vec p hp
      rw [List.getElem?_append_left (by simpa using lt p hp), List.getElem?_set_ne (fun he => by rw [← he, w.mp] at this; cases this)]
      exact this
    · simp only [List.mem_singleton] at hp
      subst hp
      rw [List.getElem?_append_right (by simp)]
      simp
  · simp only [List.length_append, List.length_set, List.length_cons, List.length_nil] at hn
    rcases List.mem_append.1 ho' with ho' | ho'
    · rcases mem_set_cases ho' with ho' | rfl
      · exact w.und o' ho' n (by omega)
      · intro e he
        refine esW_und _ 0 (fun p hp => ?_) e he
        rcases List.mem_append.1 hp with hp | hp
        · have := lt p hp; omega
        · simp only [List.mem_singleton] at hp; subst hp; show M.length + 1 < n; omega
    · rcases List.mem_cons.1 ho' with rfl | ho'
      · exact ho n
      · simp only [List.mem_singleton] at ho'; subst ho'; exact vec_und _ n
  · rw [List.pairwise_append]
    exact ⟨w.keys, by simp, fun p hp y hy => by simp only [List.mem_singleton] at hy; subst hy; exact hK p hp⟩
  · rw [List.pairwise_append]
    exact ⟨w.poss, by simp, fun p hp y hy => by simp only [List.mem_singleton] at hy; subst hy; have := lt p hp; show p.2.1 ≠ M.length + 1; omega⟩
/-- One more. -/
theorem WOk.more {b : Book} {q : List Call} {c : Int} {M : VM} {ps a d : List WE} {p : WE} (w : WOk b q c M ps) (hs : ps = a ++ p :: d) (x : Int) (o : VObj) (ho : ∀ n, o.und n) :
    WOk b q c ((M.set 2 (.map (esW 0 (a ++ (p.1, p.2.1, p.2.2 ++ [x]) :: d)) ps.length) ++ [o]).set p.2.1 (.vec (encL (p.2.2 ++ [x])))) (a ++ (p.1, p.2.1, p.2.2 ++ [x]) :: d) := by
  have h2 : 2 < M.length := (List.getElem?_eq_some_iff.1 w.mp).1
  have lt : ∀ p ∈ ps, p.2.1 < M.length := fun p hp => (List.getElem?_eq_some_iff.1 (w.vec p hp)).1
  have hp : p ∈ ps := by rw [hs]; simp
  have hpl := lt p hp
  have hv := w.vec p hp
  have n1 : p.2.1 ≠ 1 := fun he => by rw [he, w.hr] at hv; cases hv
  have n2 : p.2.1 ≠ 2 := fun he => by rw [he, w.mp] at hv; cases hv
  have hposs := w.poss
  have hkeys := w.keys
  rw [hs] at hposs hkeys
  have hdist : ∀ y, y ∈ a ∨ y ∈ d → y.2.1 ≠ p.2.1 := fun y hy => by
    rw [List.pairwise_append, List.pairwise_cons] at hposs
    rcases hy with hy | hy
    · exact hposs.2.2 y hy p (by simp)
    · exact fun he => hposs.2.1.1 y hy he.symm
  refine ⟨?_, ?_, fun y hy => ?_, fun o' ho' n hn => ?_, ?_, ?_⟩
  · rw [List.getElem?_set_ne n1, List.getElem?_append_left (by simp; omega), List.getElem?_set_ne (by decide)]; exact w.hr
  · rw [List.getElem?_set_ne n2, List.getElem?_append_left (by simp; omega), List.getElem?_set_self h2, hs]; simp
  · have key : y = (p.1, p.2.1, p.2.2 ++ [x]) ∨ (y ∈ a ∨ y ∈ d) := by
      rcases List.mem_append.1 hy with h | h
      · exact .inr (.inl h)
      · rcases List.mem_cons.1 h with h | h
        · exact .inl h
        · exact .inr (.inr h)
    rcases key with rfl | hy
    · rw [List.getElem?_set_self (by simp; omega)]
    · have hyp : y ∈ ps := by rw [hs]; rcases hy with h | h <;> simp [h]
      have := w.vec y hyp
      rw [List.getElem?_set_ne (fun e => hdist y hy e.symm), List.getElem?_append_left (by simpa using lt y hyp), List.getElem?_set_ne (fun he => by rw [← he, w.mp] at this; cases this)]
      exact this
  · simp only [List.length_append, List.length_set, List.length_cons, List.length_nil] at hn
    rcases mem_set_cases ho' with ho' | rfl
    · rcases List.mem_append.1 ho' with ho' | ho'
      · rcases mem_set_cases ho' with ho' | rfl
        · exact w.und o' ho' n (by omega)
        · intro e he
          refine esW_und _ 0 (fun y hy => ?_) e he
          have : ∃ z ∈ ps, z.2.1 = y.2.1 := by
            rw [hs]
            rcases List.mem_append.1 hy with h | h
            · exact ⟨y, by simp [h], rfl⟩
            · rcases List.mem_cons.1 h with rfl | h
              · exact ⟨p, by simp, rfl⟩
              · exact ⟨y, by simp [h], rfl⟩
          obtain ⟨z, hz, e⟩ := this
          have := lt z hz
          omega
      · simp only [List.mem_singleton] at ho'; subst ho'; exact ho n
    · exact vec_und _ n
  · rw [List.pairwise_append, List.pairwise_cons] at hkeys ⊢
    refine ⟨hkeys.1, ⟨fun y hy => hkeys.2.1.1 y hy, hkeys.2.1.2⟩, fun y hy z hz => ?_⟩
    rcases List.mem_cons.1 hz with rfl | hz
    · exact hkeys.2.2 y hy p (by simp)
    · exact hkeys.2.2 y hy z (by simp [hz])
  · rw [List.pairwise_append, List.pairwise_cons] at hposs ⊢
    refine ⟨hposs.1, ⟨fun y hy => hposs.2.1.1 y hy, hposs.2.1.2⟩, fun y hy z hz => ?_⟩
    rcases List.mem_cons.1 hz with rfl | hz
    · exact hposs.2.2 y hy p (by simp)
    · exact hposs.2.2 y hy z (by simp [hz])
theorem cut_take {k : Nat} {f : VFr} {l : List (Nat × PV)} {pre ext : VM} {n : Nat} (hn : pre.length = n) (hk : k ≤ n) (hu : ∀ o ∈ pre, o.und n) (hs : ∀ p ∈ l, (f p.1).le p.2 ∧ p.2.und n = true) : Cut k f (pre ++ ext) l pre := by
  subst hn
  have e : pre = (forgetL [] (pre ++ ext)).take pre.length := by rw [forgetL_nil, List.take_left]
  exact ⟨pre.length, [], e, hk, by simp, hs, by rw [← e]; exact hu⟩
end Go.RS.CC

/- Walks: the program (15): Which. -/
namespace Go.RS.CC
open Go Go.RS
open Go.RS.Enc (enc dec)
variable {E : VEnv}
def cntOf (b : Book) (q : List Call) (c : Int) : Int × Int := cntL (serveR b.Each c [] q) 0 0
theorem testR_eq (b : Book) (q : List Call) (m s c : Int) : testR b q m s c = decide (cntOf b q c = (m, s)) := by
  unfold testR cntOf
  rw [Bool.eq_iff_iff]
  simp [Prod.ext_iff]
theorem cut_all {k : Nat} {f : VFr} {l : List (Nat × PV)} {pre : VM} {n : Nat} (hn : pre.length = n) (hk : k ≤ n) (hu : ∀ o ∈ pre, o.und n) (hs : ∀ p ∈ l, (f p.1).le p.2 ∧ p.2.und n = true) : Cut k f pre l pre := by
  have := cut_take (ext := []) hn hk hu hs
  rwa [List.append_nil] at this
theorem app_nilS (M : VM) (c : Int) : appendV M 1 8 .nilS (.lst true 1 1 [.int .i64 c]) = some (.sl M.length 1 0 1 (openCap + 1) 1, M ++ [.vec (encL [c])]) := by
  have f : fits 1 8 = true := fits8 (by omega)
  simp [appendV, elemsV, okE, newVec, f, PV.isFL, PV.isF, encL]
theorem findIdx_none : ∀ (ps : List WE) (j b : Nat), j + ps.length ≤ b → (esW j ps).findIdx? (fun e => (e.2.2 : Int) == (b : Int)) = none
  | [], _, _, _ => rfl
  | p :: r, j, b, h => by
    simp only [List.length_cons] at h
    rw [esW, List.findIdx?_cons]
    have : ((j : Int) == (b : Int)) = false := by simp; omega
    simp only [this]
    rw [findIdx_none r (j + 1) b (by omega)]; rfl
theorem slV_0 : slV 0 none (some (PV.int .i64 0)) (some (PV.int .i64 0)) = some (0, 0, some 0) := rfl
theorem app_clone (M : VM) (t : Nat) (l : List Int) (h : M[t]? = some (.vec (encL l))) (hne : l ≠ []) (hl : l.length ≤ 20) : appendV M 1 8 (.lst true 0 0 []) (sl1 t l) = some (sl1 M.length l, M ++ [.vec (encL l)]) := by
  have hn : ¬ l.length = 0 := fun h0 => hne (List.eq_nil_of_length_eq_zero h0)
  have f : fits (0 + l.length) 8 = true := fits8 (by omega)
  have hv : vcells M t = some (encL l) := by unfold vcells; rw [h]
  have he : elemsV M 1 (sl1 t l) = some (l.length, encL l) := by
    simp only [sl1, elemsV, if_neg hn, hv]
    rw [if_pos ⟨by simp, by omega⟩]
    congr 2
    rw [List.drop_zero]
    exact List.take_of_length_le (by simp)
  have hc : encL l ≠ [] := fun h0 => hn (by have := congrArg List.length h0; simpa using this)
  unfold appendV
  simp only [he]
  rw [if_pos ⟨trivial, rfl⟩, if_neg hn, if_pos f]
  simp only [newVec, List.nil_append, Nat.zero_add]
  rw [if_pos ⟨encL_isF l, hc⟩]
  simp
theorem whL_congr {t t' : Int → Bool} (h : ∀ c, t c = t' c) : whL t = whL t' := by rw [funext h]
set_option maxRecDepth 20000 in
theorem w_WhichP (hE : E.env.fn = G) : Ok E 35 (s4 fun b h n t => some (WhichR b h n t)) := by
  refine ok4 fun b h many secs r hr => ?_
  cases hr
  refine VP.bound fun hb => ?_
  simp [enc_list] at hb
  have good := goodV_cons (w_askedP hE) goodV_nil
  by_cases ha : askedR b h 1 = 0
  · have ho := hour_ok ha
    obtain ⟨hok, h0, h1, h2, h3⟩ := askedR_zero ha
    have bo := okR_ok hok
    obtain ⟨hm, hh, hd⟩ := hourOf_mem h0 h1
    have hln12 : (hourOf b h).length ≤ 12 := bo.hl _ hm
    have hR : WhichR b h many secs = (whL (fun c => decide (cntOf b (hourOf b h) c = (many, secs))) 20 1, 0) := by
      unfold WhichR; rw [if_pos ha, whL_congr (testR_eq b (hourOf b h) many secs)]
    rw [hR]
    generalize hq : hourOf b h = q at *
    generalize hT : whL (fun c => decide (cntOf b q c = (many, secs))) 20 1 = T
    refine VP.run (A := F35) (good) [] (by rw [hE]; rfl) (by simp [F35]) ?_; unfold F35; simp (implicitDefEqProofs := false) [enc_list, spliceV, askedP, ha, hq]
    obtain ⟨Inv, hI⟩ : ∃ Inv : Nat → List (Nat × PV) → VM → Prop, ∀ i f m, Inv i f m ↔ (∃ (c : Int) (ps : List WE), f = [(2, .int .i64 many), (3, .int .i64 secs), (10, .ptr 1 8 0), (12, .map 2), (28, .int .i64 i)] ∧ WOk b q c m ps ∧ (∀ p ∈ ps, p.2.2 ≠ []) ∧ ∀ K, listOf K ps = whL (fun c => decide (cntOf b q c = K)) i 1) := ⟨_, fun _ _ _ => Iff.rfl⟩
    refine VW.loop_cut Inv 20 ?_ ?_ ?_
    · refine ⟨_, [bkc b, hrc ⟨b, q, 1⟩, .map [] 0], (hI _ _ _).2 ⟨1, [], rfl, ⟨rfl, rfl, by simp, ?_, .nil, .nil⟩, by simp, fun K => rfl⟩, ⟨3, [], by simp [enc_list], by simp, by simp, by simp (implicitDefEqProofs := false) [enc_list], by simp (implicitDefEqProofs := false) [enc_list]⟩⟩
      intro o ho n hn
      simp only [List.mem_cons, List.not_mem_nil, or_false] at ho
      rcases ho with rfl | rfl | rfl <;> simp (implicitDefEqProofs := false) [enc_list]
    · intro i f m hi hv
      obtain ⟨c0, ps, rfl, w0, hnn, hps⟩ := (hI _ _ _).1 hv
      have hr := w0.hr
      have h1n : 1 < m.length := (List.getElem?_eq_some_iff.1 hr).1
      have w1 : IntKind.i64.wrap ((i : Int) + 1) = i + 1 := wrap64 (by omega) (by omega)
      have i20 : (i : Int) < 20 := by omega
      refine VW.seq (VW.run good [] ?_); simp (implicitDefEqProofs := false) [enc_list, i20]
      refine VW.seq (VW.run good [] ?_); simp (implicitDefEqProofs := false) [enc_list]
      refine VW.seq (VW.block ?_)
      refine VW.seq (VW.run good [] ?_); simp (implicitDefEqProofs := false) [enc_list]
      refine VW.seq (VW.run good [] ?_); simp (implicitDefEqProofs := false) [enc_list, w1, hr, spliceV]
      have w2 := w0.chan ((i : Int) + 1)
      change VW E 0 _ _ (m.set 1 (hrc ⟨b, q, (i : Int) + 1⟩)) _
      generalize m.set 1 (hrc ⟨b, q, (i : Int) + 1⟩) = M1 at w2
      clear hr h1n w0
      obtain ⟨n, hn⟩ : ∃ n, M1.length = n := ⟨_, rfl⟩
      have hr1 := w2.hr
      have hmp := w2.mp
      have hund : ∀ o ∈ M1, ∀ k, n ≤ k → o.und k := fun o ho k hk => w2.und o ho k (by omega)
      have hlt : ∀ p ∈ ps, p.2.1 < n := fun p hp => by rw [← hn]; exact (List.getElem?_eq_some_iff.1 (w2.vec p hp)).1
      have h1n : 1 < n := by rw [← hn]; exact (List.getElem?_eq_some_iff.1 hr1).1
      have h2n : 2 < n := by rw [← hn]; exact (List.getElem?_eq_some_iff.1 hmp).1
      have ho' : HourOk ⟨b, q, (i : Int) + 1⟩ := ⟨ho.e1, ho.e2, ho.rg, by show (1 : Int) ≤ i + 1; omega, by show (i : Int) + 1 ≤ 20; omega, ho.ln⟩
      obtain ⟨S, hS⟩ : ∃ S, serveR b.Each ((i : Int) + 1) [] q = S := ⟨_, rfl⟩
      have hSl : S.length = q.length := by rw [← hS, serveR_len]; simp
      have hsv : ∀ s ∈ S, SvOk s := fun s hs => by
        rw [← hS] at hs
        rcases serveR_mem hs with hs | ⟨x, hx, o, rfl⟩
        · cases hs
        · exact oneR_ok bo.e1 bo.e2 (bo.hc _ hm x hx).1
      refine VW.run good [] ?_; simp (implicitDefEqProofs := false) [enc_list, get_hr hr1, hn]
      unfold VCo
      refine vc_joined (h := ⟨b, q, (i : Int) + 1⟩) hE rfl ?_
      simp (implicitDefEqProofs := false) [enc_list, hn]
      refine .ofCut (l := [(2, .int .i64 many), (3, .int .i64 secs), (10, .ptr 1 8 0), (12, .map 2), (13, .int .i64 i), (14, .ptr n 2 0), (28, .int .i64 i), (35, .func 75 [] [.ptr (n + 1) 8 0])]) (M := M1 ++ [.cells [.int .i64 0, .int .i64 0], hrc ⟨b, q, (i : Int) + 1⟩]) ?_ ?_
      · refine cut_all (n := n + 2) (by simp [hn]) (by omega) (fun o ho => ?_) (by simp (implicitDefEqProofs := false) [enc_list]; omega)
        rcases List.mem_append.1 ho with ho | ho
        · exact hund o ho _ (by omega)
        · simp only [List.mem_cons, List.not_mem_nil, or_false] at ho
          rcases ho with rfl | rfl
          · exact cells2_und _ _ _
          · exact hrc_und _ _
      refine VW.rangeJ (b := n + 1) (n0 := n + 2) (h := ⟨b, q, (i : Int) + 1⟩) hE (fun j pre => ∃ a t : Int, pre = M1 ++ [.cells [.int .i64 a, .int .i64 t], hrc ⟨b, q, (i : Int) + 1⟩] ∧ 0 ≤ a ∧ a ≤ j ∧ 0 ≤ t ∧ t ≤ j * 432301 ∧ cntL S 0 0 = cntL (S.drop j) a t) (fun _ _ => False) (by simp) ho' hS rfl (mkF_und (by simp; omega)) (by simp [hn]) ⟨0, 0, rfl, by omega, by omega, by omega, by omega, rfl⟩ ?_ ?_ ?_ ?_ ?_
      · rintro j pre ⟨a, t, rfl, _⟩
        refine ⟨by simp [hn], by rw [get_pre hn]; rfl, fun o ho => ?_⟩
        rcases List.mem_append.1 ho with ho | ho
        · exact hund o ho _ (by omega)
        · simp only [List.mem_cons, List.not_mem_nil, or_false] at ho
          rcases ho with rfl | rfl
          · exact cells2_und _ _ _
          · exact hrc_und _ _
      · rintro j pre hj ⟨a, t, rfl, a1, a2, t1, t2, hs⟩ hneg
        rw [List.drop_eq_getElem_cons hj, cntL, if_neg (by omega)] at hs
        exact ⟨a, t, rfl, a1, by omega, t1, by omega, hs⟩
      · rintro j pre hj hc ⟨a, t, rfl, a1, a2, t1, t2, hs⟩ hpos c3 c7 Lr Lb hLb
        have hsj := hsv _ (List.getElem_mem hj)
        rw [List.drop_eq_getElem_cons hj, cntL, if_pos hpos] at hs
        generalize hx : S[j] = x at *
        generalize hy : q[j] = y at *
        obtain ⟨j1, j2, l1, l2, d⟩ := hsj
        have hjn : j ≤ 12 := by omega
        have v1 : IntKind.i64.wrap (a + 1) = a + 1 := wrap64 (by omega) (by omega)
        have v2 : IntKind.i64.wrap (x.Left - x.Joined) = x.Left - x.Joined := wrap64 (by omega) (by omega)
        have v3 : IntKind.i64.wrap (t + (x.Left - x.Joined)) = t + (x.Left - x.Joined) := wrap64 (by omega) (by omega)
        refine VW.run good [] ?_; simp (implicitDefEqProofs := false) [enc_list, setParamsV, hn, get_pre hn, set_pre hn, get_pre0 hn, set_pre0 hn, spliceV]
        refine VW.run good [] ?_; simp (implicitDefEqProofs := false) [enc_list, hn, get_pre hn, set_pre hn, get_pre0 hn, set_pre0 hn, spliceV, v1, v2, v3]
        exact ⟨M1 ++ [.cells [.int .i64 (a + 1), .int .i64 (t + (x.Left - x.Joined))], hrc ⟨b, q, (i : Int) + 1⟩], ⟨_, by simp; rfl⟩, by simp [hn], _, _, rfl, by omega, by omega, by omega, by omega, hs⟩
      · rintro pre L ext ⟨a, t, rfl, a1, a2, t1, t2, hs⟩
        rw [List.drop_length, cntL] at hs
        simp (implicitDefEqProofs := false) [enc_list]
        refine .ofCut (l := [(2, .int .i64 many), (3, .int .i64 secs), (10, .ptr 1 8 0), (12, .map 2), (13, .int .i64 i), (14, .ptr n 2 0), (28, .int .i64 i)]) (M := M1 ++ [.cells [.int .i64 a, .int .i64 t]]) ?_ ?_
        · have := cut_take (k := 0) (f := mkF [(2, .int .i64 many), (3, .int .i64 secs), (10, .ptr 1 8 0), (12, .map 2), (13, .int .i64 i), (14, .ptr n 2 0), (28, .int .i64 i), (35, .func 75 [] [.ptr (n + 1) 8 0])]) (l := [(2, .int .i64 many), (3, .int .i64 secs), (10, .ptr 1 8 0), (12, .map 2), (13, .int .i64 i), (14, .ptr n 2 0), (28, .int .i64 i)]) (pre := M1 ++ [.cells [.int .i64 a, .int .i64 t]]) (n := n + 1) (ext := hrc ⟨b, q, (i : Int) + 1⟩ :: .loop L :: ext) (by simp [hn]) (by omega) (fun o ho => ?_) (by simp (implicitDefEqProofs := false) [enc_list]; omega)
          · simpa using this
          · rcases List.mem_append.1 ho with ho | ho
            · exact hund o ho _ (by omega)
            · simp only [List.mem_singleton] at ho
              subst ho
              exact cells2_und _ _ _
        have hK : cntOf b q ((i : Int) + 1) = (a, t) := by unfold cntOf; rw [hS]; exact hs
        have hg2 : ∀ (X : VObj) (l : VM), (M1.set 2 X ++ l)[2]? = some X := fun X l => by rw [List.getElem?_append_left (by simp [hn]; omega), List.getElem?_set_self (by omega)]
        have hs2 : ∀ (X : VObj) (l : VM), (M1 ++ l).set 2 X = M1.set 2 X ++ l := fun X l => by rw [List.set_append_left _ _ (by omega)]
        have hs22 : ∀ (X Y : VObj) (l : VM), (M1.set 2 X ++ l).set 2 Y = M1.set 2 Y ++ l := fun X Y l => by rw [List.set_append_left _ _ (by simp [hn]; omega), List.set_set]
        have hkv : PV.agg [.int .i64 a, .int .i64 t] = kV (a, t) := rfl
        have hps1 : ∀ K, listOf K ps ++ (if cntOf b q ((i : Int) + 1) = K then [(i : Int) + 1] else []) = whL (fun c => decide (cntOf b q c = K)) (i + 1) 1 := fun K => by
          rw [whL_snoc, hps K]
          have : (1 : Int) + i = i + 1 := by omega
          rw [this]
          simp
        rcases listOf_split (a, t) ps with hno | ⟨pa, p, pd, hsp, hpk, hpa⟩
        · have hf := find_esN (K := (a, t)) ps 0 0 hno
          have hfi : (esW 0 ps ++ [(kV (a, t), PV.nilS, ps.length)]).findIdx? (fun e => (e.2.2 : Int) == ((ps.length : Nat) : Int)) = some ps.length := by
            rw [List.findIdx?_append, findIdx_none ps 0 ps.length (by omega)]
            simp [esW_len]
          have hmod : ∀ (x : PV × PV × Nat) (g : PV × PV × Nat → PV × PV × Nat), (esW 0 ps ++ [x]).modify ps.length g = esW 0 ps ++ [g x] := fun x g => by
            have := modify_mid g x [] (esW 0 ps)
            rwa [esW_len] at this
          refine VW.run good [] ?_; simp (implicitDefEqProofs := false) [enc_list, get_pre0 hn, w1, spliceV, hkv, keyOk_pair, hf, get_hr hmp, hg2, hs2, hs22, entMapV, PV.ofV, app_nilS, hfi, hmod, hn]
          refine VW.run good [] ?_; simp (implicitDefEqProofs := false) [enc_list, w1]
          have hnew := w2.new hno ((i : Int) + 1) (.cells [.int .i64 a, .int .i64 t]) (cells2_und _ _)
          rw [hn] at hnew
          have ees : esW 0 (ps ++ [((a, t), n + 1, [(i : Int) + 1])]) = esW 0 ps ++ [(kV (a, t), .sl (n + 1) 1 0 1 (openCap + 1) 1, ps.length)] := by
            rw [esW_append]; simp [esW]
          rw [ees] at hnew
          refine ⟨_, _, (hI _ _ _).2 ⟨_, _, rfl, hnew, fun x hx => ?_, fun K => ?_⟩, ?_⟩
          · rcases List.mem_append.1 hx with hx | hx
            · exact hnn x hx
            · simp only [List.mem_singleton] at hx; subst hx; simp
          · rw [← hps1 K, hK]
            by_cases hKK : (a, t) = K
            · subst hKK
              rw [if_pos rfl, listOf_none hno]
              exact listOf_mid (c := []) rfl hno
            · rw [if_neg hKK, List.append_nil]
              exact listOf_snoc rfl hKK
          · exact cut_all (n := n + 2) (by simp [hn]) (by omega) (fun o ho => hnew.und o ho _ (by simp [hn])) (by simp (implicitDefEqProofs := false) [enc_list]; omega)
        · have hf := find_esS (K := (a, t)) (c := pd) hpk pa 0 0 hpa
          rw [← hsp, Nat.zero_add] at hf
          have hes : esW 0 ps = esW 0 pa ++ (kV (a, t), sl1 p.2.1 p.2.2, pa.length) :: esW (pa.length + 1) pd := by
            rw [hsp, esW_append, esW, hpk]; simp
          have hpal : pa.length < ps.length := by rw [hsp]; simp
          have hb : (esW 0 ps)[pa.length]? = some (kV (a, t), sl1 p.2.1 p.2.2, pa.length) := by
            rw [hes, List.getElem?_append_right (by rw [esW_len]; exact Nat.le_refl _), esW_len]; simp
          have hmod : ∀ (g : PV × PV × Nat → PV × PV × Nat), (esW 0 ps).modify pa.length g = esW 0 pa ++ g (kV (a, t), sl1 p.2.1 p.2.2, pa.length) :: esW (pa.length + 1) pd := fun g => by
            rw [hes]
            have := modify_mid g (kV (a, t), sl1 p.2.1 p.2.2, pa.length) (esW (pa.length + 1) pd) (esW 0 pa)
            rwa [esW_len] at this
          have hfi := findIdx_es ps 0 pa.length (by omega) (by omega)
          rw [Nat.sub_zero] at hfi
          have hpm : p ∈ ps := by rw [hsp]; simp
          have hpv := w2.vec p hpm
          have hpl := hlt p hpm
          have n2 : p.2.1 ≠ 2 := fun he => by rw [he, hmp] at hpv; cases hpv
          have hvec : ∀ (X : VObj) (l : VM), (M1.set 2 X ++ l)[p.2.1]? = some (.vec (encL p.2.2)) := fun X l => by
            rw [List.getElem?_append_left (by simp [hn]; omega), List.getElem?_set_ne (fun e => n2 e.symm)]; exact hpv
          have hg2p : ∀ (X V : VObj) (l : VM), ((M1.set 2 X ++ l).set p.2.1 V)[2]? = some X := fun X V l => by rw [List.getElem?_set_ne n2]; exact hg2 X l
          have hs2p : ∀ (X Y V : VObj) (l : VM), ((M1.set 2 X ++ l).set p.2.1 V).set 2 Y = (M1.set 2 Y ++ l).set p.2.1 V := fun X Y V l => by rw [List.set_comm _ _ n2, hs22]
          have hll : p.2.2.length ≤ i := by
            have := whL_len (fun c => decide (cntOf b q c = (a, t))) i 1
            rw [← hps (a, t), hsp, listOf_mid hpk hpa] at this
            exact this
          have f1 : fits (p.2.2.length + 1) 8 = true := fits8 (by omega)
          refine VW.run good [] ?_; simp (implicitDefEqProofs := false) [enc_list, get_pre0 hn, w1, spliceV, hkv, keyOk_pair, hf, get_hr hmp, hg2, hs2, hs22, entMapV, PV.ofV, hb, hmod, ← hes, hvec, f1, hg2p, hfi, hs2p, hn]
          simp (implicitDefEqProofs := false) [enc_list, AExit.leave]
          refine VW.run good [] ?_; simp (implicitDefEqProofs := false) [enc_list, w1]
          have hnew := w2.more hsp ((i : Int) + 1) (.cells [.int .i64 a, .int .i64 t]) (cells2_und _ _)
          have ees : esW 0 (pa ++ (p.1, p.2.1, p.2.2 ++ [(i : Int) + 1]) :: pd) = esW 0 pa ++ (kV (a, t), .sl p.2.1 (p.2.2.length + 1) 0 (p.2.2.length + 1) (openCap + 1) 1, pa.length) :: esW (pa.length + 1) pd := by
            rw [esW_append, esW, hpk]; simp
          rw [ees] at hnew
          refine ⟨_, _, (hI _ _ _).2 ⟨_, _, rfl, hnew, fun x hx => ?_, fun K => ?_⟩, ?_⟩
          · rcases List.mem_append.1 hx with hx | hx
            · exact hnn x (by rw [hsp]; simp [hx])
            · rcases List.mem_cons.1 hx with rfl | hx
              · simp
              · exact hnn x (by rw [hsp]; simp [hx])
          · rw [← hps1 K, hK]
            by_cases hKK : (a, t) = K
            · subst hKK
              rw [if_pos rfl, hsp, listOf_mid hpk hpa, listOf_mid (p := (p.1, p.2.1, p.2.2 ++ [(i : Int) + 1])) hpk hpa]
            · rw [if_neg hKK, List.append_nil, hsp]
              exact listOf_other hpk hpk hKK
          · exact cut_all (n := n + 1) (by simp [hn]) (by omega) (fun o ho => hnew.und o ho _ (by simp [hn])) (by simp (implicitDefEqProofs := false) [enc_list]; omega)
      · intro e pre L ext hf; exact hf.elim
    · intro f m hv
      obtain ⟨c0, ps, rfl, w0, hnn, hps⟩ := (hI _ _ _).1 hv
      refine VW.run good [] ?_; simp (implicitDefEqProofs := false) [enc_list]
      have hr := w0.hr
      have hmp := w0.mp
      rcases listOf_split (many, secs) ps with hno | ⟨pa, p, pd, hsp, hpk, hpa⟩
      · have hf := find_esN (K := (many, secs)) ps 0 0 hno
        have hkv : PV.agg [.int .i64 many, .int .i64 secs] = kV (many, secs) := rfl
        have hTn : T = [] := by rw [← hT, ← hps (many, secs), listOf_none hno]
        subst hTn
        refine VW.run good [] ?_; simp (implicitDefEqProofs := false) [enc_list, spliceV, hkv, keyOk_pair, hf, hmp, lookResV, mapEsV, PV.ofV]
        refine VC.func (A := F69) (by rw [hE]; rfl) (by simp [F69]) ?_
        unfold F69
        refine VW.run goodV_nil [] ?_; simp (implicitDefEqProofs := false) [enc_list]
        simp (implicitDefEqProofs := false) [slV_0]
      · have hf := find_esS (K := (many, secs)) (c := pd) hpk pa 0 0 hpa
        rw [← hsp, Nat.zero_add] at hf
        have hkv : PV.agg [.int .i64 many, .int .i64 secs] = kV (many, secs) := rfl
        have hpm : p ∈ ps := by rw [hsp]; simp
        have hpv := w0.vec p hpm
        have hne := hnn p hpm
        have hTp : T = p.2.2 := by rw [← hT, ← hps (many, secs), hsp, listOf_mid hpk hpa]
        have hTl : T.length ≤ 20 := by rw [← hT]; exact whL_len _ _ _
        obtain ⟨pk, pos, l⟩ := p
        simp only at hpv hne hTp
        subst hTp
        have hnl : ¬ T.length = 0 := by intro h; exact hne (List.eq_nil_of_length_eq_zero h)
        refine VW.seq (VW.run good [] ?_); simp (implicitDefEqProofs := false) [enc_list, spliceV, hkv, keyOk_pair, hf, hmp, lookResV, mapEsV, PV.ofV]
        refine VC.func (A := F69) (by rw [hE]; rfl) (by simp [F69]) ?_
        unfold F69
        refine VW.run goodV_nil [] ?_; simp (implicitDefEqProofs := false) [enc_list, hnl, hne, app_clone, hpv, hTl]
        refine VW.freeze 17 (t := m.length) (len := T.length) (o := 0) (q := T.length) (cap := openCap + 1) (e := 1) (by simp) ?_
        refine VW.less [(17, enc T)] (by simp (implicitDefEqProofs := false) [enc_list]) ?_
        refine VW.run good [] ?_; simp (implicitDefEqProofs := false) [enc_list, slV_all, take_In]
  · have hR : WhichR b h many secs = ([], askedR b h 1) := by unfold WhichR; rw [if_neg ha]
    rw [hR]
    refine VP.run (A := F35) (good) [] (by rw [hE]; rfl) (by simp [F35]) ?_; unfold F35; simp (implicitDefEqProofs := false) [enc_list, spliceV, askedP, ha, noHour]
end Go.RS.CC

/- Walks: what the statements share. -/
namespace Go.RS.CC
open Go Go.RS
open Go.RS.Enc (enc dec)
variable {E : VEnv}
theorem w_served (hE : E.env.fn = G) : Ok E 39 (s3 fun a b c => some (Served.mk a b c)) := by
  refine ok3 fun a b c r hr => ?_
  cases hr
  refine VP.run (A := F39) (goodV_nil) [] (by rw [hE]; rfl) (by simp [F39]) ?_; unfold F39; simp (implicitDefEqProofs := false) [enc_list, spliceV]
theorem w_during (hE : E.env.fn = G) : Ok E 42 (s2 fun l a => some (joinedR l a : Int)) := by
  refine ok2 fun l a r hr => ?_
  cases hr
  refine VP.bound fun hb => ?_
  simp [enc_list] at hb
  refine VP.run (A := F42) (goodV_nil) [] (by rw [hE]; rfl) (by simp [F42]) ?_; unfold F42; simp (implicitDefEqProofs := false) [enc_list]
  refine VW.loop_to 0 [(5, .int .i64 (joinedR l a))] [] (True) ?_ (fun hp f m hc => ?_)
  · obtain ⟨Inv, hI⟩ : ∃ Inv : Nat → List (Nat × PV) → VM → Prop, ∀ k f m, Inv k f m ↔ (f = [(0, enc l), (1, .int .i64 a), (5, .int .i64 (joinedR (l.take k) a)), (6, .int .i64 k)] ∧ m = []) := ⟨_, fun _ _ _ => Iff.rfl⟩
    refine VW.loop_cut Inv l.length ?_ ?_ ?_
    · exact ⟨_, _, (hI _ _ _).2 ⟨rfl, rfl⟩, ⟨0, [], by simp [enc_list,  joinedR], by simp, by simp, by simp (implicitDefEqProofs := false) [enc_list,  joinedR], by simp (implicitDefEqProofs := false) [enc_list,  joinedR]⟩⟩
    · intro k f m hk hi
      obtain ⟨rfl, rfl⟩ := (hI _ _ _).1 hi
      have w1 : IntKind.i64.wrap ((k : Int) + 1) = k + 1 := wrap64 (by omega) (by omega)
      have hc : joinedR (l.take k) a ≤ k := Nat.le_trans List.countP_le_length (by simp; omega)
      have w2 : IntKind.i64.wrap ((joinedR (l.take k) a : Int) + 1) = joinedR (l.take k) a + 1 := wrap64 (by omega) (by omega)
      have hn : joinedR (l.take (k + 1)) a = joinedR (l.take k) a + if (decide (0 ≤ l[k].Joined) && decide (l[k].Joined ≤ a) && decide (a < l[k].Left)) = true then 1 else 0 := by
        rw [List.take_succ_eq_append_getElem hk, joinedR, List.countP_append, List.countP_singleton]; rfl
      refine VW.run goodV_nil [] ?_; simp (implicitDefEqProofs := false) [enc_list, hk, get_Served l k hk, w1, w2]
      repeat' (first | (refine vstep_split (fun hb => ?_) (fun hb => ?_) <;> (try simp only [Bool.not_eq_eq_eq_not, Bool.not_true, Bool.not_false, decide_eq_true_eq, decide_eq_false_iff_not] at hb) <;> simp (implicitDefEqProofs := false) [hb, enc_list, w1, w2, hk, get_Served l k hk]) | (refine vcond_split (fun hb => ?_) (fun hb => ?_) <;> (try simp only [Bool.not_eq_eq_eq_not, Bool.not_true, Bool.not_false, decide_eq_true_eq, decide_eq_false_iff_not] at hb) <;> simp (implicitDefEqProofs := false) [hb, enc_list, w1, w2, hk, get_Served l k hk]))
      all_goals refine ⟨_, _, (hI _ _ _).2 ⟨rfl, rfl⟩, ⟨0, [], by simp [enc_list,  hn, *], by simp, by simp, by simp (implicitDefEqProofs := false) [enc_list,  hn, *], by simp (implicitDefEqProofs := false) [enc_list,  hn, *]⟩⟩
    · intro f m hi
      obtain ⟨rfl, rfl⟩ := (hI _ _ _).1 hi
      refine VW.run goodV_nil [] ?_; simp (implicitDefEqProofs := false) [enc_list]
      exact ⟨0, [], by simp [enc_list], by simp, by simp, by simp (implicitDefEqProofs := false) [enc_list], by simp (implicitDefEqProofs := false) [enc_list]⟩
  · simp (implicitDefEqProofs := false); refine .ofCut hc (VW.run goodV_nil [] ?_); simp (implicitDefEqProofs := false) [enc_list]
def climbsR (below : Int) : Int → List Int → Bool
  | _, [] => true
  | least, x :: l => wi x least (IntKind.i64.wrap (below - 1)) && climbsR below (IntKind.i64.wrap (x + 1)) l
theorem w_Climbs (hE : E.env.fn = G) : Ok E 44 (s2 fun l n => some (climbsR n 0 l)) := by
  refine ok2 fun l n r hr => ?_
  cases hr
  refine VP.bound fun hb => ?_
  simp [enc_list] at hb
  have good := goodV_cons (w_Lies hE) goodV_nil
  generalize hT : climbsR n 0 l = T
  refine VP.run (A := F44) (good) [] (by rw [hE]; rfl) (by simp [F44]) ?_; unfold F44; simp (implicitDefEqProofs := false) [enc_list]
  refine VW.loop_to 0 [] [] (T = true) ?_ (fun hp f m hc => ?_)
  · obtain ⟨Inv, hI⟩ : ∃ Inv : Nat → List (Nat × PV) → VM → Prop, ∀ k f m, Inv k f m ↔ (∃ a : Int, f = [(0, enc l), (1, .int .i64 n), (5, .int .i64 a), (7, enc l), (8, .int .i64 l.length), (9, .int .i64 k)] ∧ m = [] ∧ T = climbsR n a (l.drop k)) := ⟨_, fun _ _ _ => Iff.rfl⟩
    refine VW.loop_cut Inv l.length ?_ ?_ ?_
    · exact ⟨_, _, (hI _ _ _).2 ⟨0, rfl, rfl, hT.symm⟩, ⟨0, [], by simp [enc_list], by simp, by simp, by simp (implicitDefEqProofs := false) [enc_list], by simp (implicitDefEqProofs := false) [enc_list]⟩⟩
    · intro k f m hk hi
      obtain ⟨a, rfl, rfl, hs⟩ := (hI _ _ _).1 hi
      have w1 : IntKind.i64.wrap ((k : Int) + 1) = k + 1 := wrap64 (by omega) (by omega)
      rw [List.drop_eq_getElem_cons hk, climbsR] at hs
      by_cases hw : wi l[k] a (IntKind.i64.wrap (n - 1)) = true
      · rw [hw, Bool.true_and] at hs
        refine VW.run good [] ?_; simp (implicitDefEqProofs := false) [enc_list, hk, get_Int l k hk, w1, hw]
        exact ⟨_, _, (hI _ _ _).2 ⟨_, rfl, rfl, hs⟩, ⟨0, [], by simp [enc_list], by simp, by simp, by simp (implicitDefEqProofs := false) [enc_list], by simp (implicitDefEqProofs := false) [enc_list]⟩⟩
      · have hw : wi l[k] a (IntKind.i64.wrap (n - 1)) = false := by simpa using hw
        rw [hw, Bool.false_and] at hs
        refine VW.run good [] ?_; simp (implicitDefEqProofs := false) [enc_list, hk, get_Int l k hk, w1, hw, hs]
    · intro f m hi
      obtain ⟨a, rfl, rfl, hs⟩ := (hI _ _ _).1 hi
      rw [List.drop_length, climbsR] at hs
      refine VW.run good [] ?_; simp (implicitDefEqProofs := false) [enc_list]
      exact ⟨hs, ⟨0, [], by simp [enc_list], by simp, by simp, by simp (implicitDefEqProofs := false) [enc_list], by simp (implicitDefEqProofs := false) [enc_list]⟩⟩
  · simp (implicitDefEqProofs := false); refine .ofCut hc (VW.run good [] ?_); simp (implicitDefEqProofs := false) [enc_list, hp]
def findR (n : Int) : Nat → List Int → Int
  | _, [] => -1
  | k, x :: l => if x = n then (k : Int) else findR n (k + 1) l
theorem w_Find (hE : E.env.fn = G) : Ok E 45 (s2 fun l n => some (findR n 0 l)) := by
  refine ok2 fun l n r hr => ?_
  cases hr
  refine VP.bound fun hb => ?_
  simp [enc_list] at hb
  generalize hT : findR n 0 l = T
  refine VP.run (A := F45) (goodV_nil) [] (by rw [hE]; rfl) (by simp [F45]) ?_; unfold F45; simp (implicitDefEqProofs := false) [enc_list]
  refine VW.loop_to 0 [] [] (T = -1) ?_ (fun hp f m hc => ?_)
  · obtain ⟨Inv, hI⟩ : ∃ Inv : Nat → List (Nat × PV) → VM → Prop, ∀ k f m, Inv k f m ↔ (f = [(0, enc l), (1, .int .i64 n), (6, enc l), (7, .int .i64 l.length), (8, .int .i64 k)] ∧ m = [] ∧ T = findR n k (l.drop k)) := ⟨_, fun _ _ _ => Iff.rfl⟩
    refine VW.loop_cut Inv l.length ?_ ?_ ?_
    · exact ⟨_, _, (hI _ _ _).2 ⟨rfl, rfl, hT.symm⟩, ⟨0, [], by simp [enc_list], by simp, by simp, by simp (implicitDefEqProofs := false) [enc_list], by simp (implicitDefEqProofs := false) [enc_list]⟩⟩
    · intro k f m hk hi
      obtain ⟨rfl, rfl, hs⟩ := (hI _ _ _).1 hi
      have w1 : IntKind.i64.wrap ((k : Int) + 1) = k + 1 := wrap64 (by omega) (by omega)
      rw [List.drop_eq_getElem_cons hk, findR] at hs
      by_cases hw : l[k] = n
      · rw [if_pos hw] at hs
        refine VW.run goodV_nil [] ?_; simp (implicitDefEqProofs := false) [enc_list, hk, get_Int l k hk, w1, hw, hs]
      · rw [if_neg hw] at hs
        refine VW.run goodV_nil [] ?_; simp (implicitDefEqProofs := false) [enc_list, hk, get_Int l k hk, w1, hw]
        exact ⟨_, _, (hI _ _ _).2 ⟨rfl, rfl, hs⟩, ⟨0, [], by simp [enc_list], by simp, by simp, by simp (implicitDefEqProofs := false) [enc_list], by simp (implicitDefEqProofs := false) [enc_list]⟩⟩
    · intro f m hi
      obtain ⟨rfl, rfl, hs⟩ := (hI _ _ _).1 hi
      rw [List.drop_length, findR] at hs
      refine VW.run goodV_nil [] ?_; simp (implicitDefEqProofs := false) [enc_list]
      exact ⟨hs, ⟨0, [], by simp [enc_list], by simp, by simp, by simp (implicitDefEqProofs := false) [enc_list], by simp (implicitDefEqProofs := false) [enc_list]⟩⟩
  · simp (implicitDefEqProofs := false); refine .ofCut hc (VW.run goodV_nil [] ?_); simp (implicitDefEqProofs := false) [enc_list, hp]
theorem w_Total (hE : E.env.fn = G) : Ok E 46 (s1 fun l : List Int => some (sumW l 0)) := by
  refine ok1 fun l r hr => ?_
  cases hr
  refine VP.bound fun hb => ?_
  simp [enc_list] at hb
  refine VP.run (A := F46) (goodV_nil) [] (by rw [hE]; rfl) (by simp [F46]) ?_; unfold F46; simp (implicitDefEqProofs := false) [enc_list]
  refine VW.loop_to 0 [(3, .int .i64 (sumW l 0))] [] (True) ?_ (fun hp f m hc => ?_)
  · obtain ⟨Inv, hI⟩ : ∃ Inv : Nat → List (Nat × PV) → VM → Prop, ∀ k f m, Inv k f m ↔ (∃ a : Int, f = [(0, enc l), (3, .int .i64 a), (5, enc l), (6, .int .i64 l.length), (7, .int .i64 k)] ∧ m = [] ∧ sumW l 0 = sumW (l.drop k) a) := ⟨_, fun _ _ _ => Iff.rfl⟩
    refine VW.loop_cut Inv l.length ?_ ?_ ?_
    · exact ⟨_, _, (hI _ _ _).2 ⟨0, rfl, rfl, rfl⟩, ⟨0, [], by simp [enc_list], by simp, by simp, by simp (implicitDefEqProofs := false) [enc_list], by simp (implicitDefEqProofs := false) [enc_list]⟩⟩
    · intro k f m hk hi
      obtain ⟨a, rfl, rfl, hs⟩ := (hI _ _ _).1 hi
      have w1 : IntKind.i64.wrap ((k : Int) + 1) = k + 1 := wrap64 (by omega) (by omega)
      rw [List.drop_eq_getElem_cons hk, sumW] at hs
      refine VW.run goodV_nil [] ?_; simp (implicitDefEqProofs := false) [enc_list, hk, get_Int l k hk, w1]
      exact ⟨_, _, (hI _ _ _).2 ⟨_, rfl, rfl, hs⟩, ⟨0, [], by simp [enc_list], by simp, by simp, by simp (implicitDefEqProofs := false) [enc_list], by simp (implicitDefEqProofs := false) [enc_list]⟩⟩
    · intro f m hi
      obtain ⟨a, rfl, rfl, hs⟩ := (hI _ _ _).1 hi
      rw [List.drop_length, sumW] at hs
      refine VW.run goodV_nil [] ?_; simp (implicitDefEqProofs := false) [enc_list]
      exact ⟨0, [], by simp [enc_list,  hs], by simp, by simp, by simp (implicitDefEqProofs := false) [enc_list,  hs], by simp (implicitDefEqProofs := false) [enc_list,  hs]⟩
  · simp (implicitDefEqProofs := false); refine .ofCut hc (VW.run goodV_nil [] ?_); simp (implicitDefEqProofs := false) [enc_list]
open Classical in
noncomputable def countedF (l : List Served) : Option (Int × Int) := if l.length ≤ 1000 ∧ ∀ s ∈ l, SvOk s then some (cntL l 0 0) else none
theorem w_counted (hE : E.env.fn = G) : Ok E 47 (s1 countedF) := by
  refine ok1 fun l r hr => ?_
  unfold countedF at hr
  split at hr
  · rename_i hc
    obtain ⟨hl, hok⟩ := hc
    cases hr
    generalize hT : cntL l 0 0 = T
    obtain ⟨T1, T2⟩ := T
    refine VP.run (A := F47) (goodV_nil) [] (by rw [hE]; rfl) (by simp [F47]) ?_; unfold F47; simp (implicitDefEqProofs := false) [enc_list]
    refine VW.loop_to 0 [(4, .int .i64 T1), (5, .int .i64 T2)] [] (True) ?_ (fun hp f m hc => ?_)
    · obtain ⟨Inv, hI⟩ : ∃ Inv : Nat → List (Nat × PV) → VM → Prop, ∀ k f m, Inv k f m ↔ (∃ n t : Int, f = [(0, enc l), (4, .int .i64 n), (5, .int .i64 t), (6, .int .i64 k)] ∧ m = [] ∧ 0 ≤ n ∧ n ≤ k ∧ 0 ≤ t ∧ t ≤ k * 432301 ∧ (T1, T2) = cntL (l.drop k) n t) := ⟨_, fun _ _ _ => Iff.rfl⟩
      refine VW.loop_cut Inv l.length ?_ ?_ ?_
      · exact ⟨_, _, (hI _ _ _).2 ⟨0, 0, rfl, rfl, by omega, by omega, by omega, by omega, hT.symm⟩, ⟨0, [], by simp [enc_list], by simp, by simp, by simp (implicitDefEqProofs := false) [enc_list], by simp (implicitDefEqProofs := false) [enc_list]⟩⟩
      · intro k f m hk hi
        obtain ⟨n, t, rfl, rfl, n1, n2, t1, t2, hc⟩ := (hI _ _ _).1 hi
        obtain ⟨j1, j2, l1, l2, d⟩ := hok _ (List.getElem_mem hk)
        have w1 : IntKind.i64.wrap ((k : Int) + 1) = k + 1 := wrap64 (by omega) (by omega)
        rw [List.drop_eq_getElem_cons hk, cntL] at hc
        have w2 : IntKind.i64.wrap (n + 1) = n + 1 := wrap64 (by omega) (by omega)
        have w3 : IntKind.i64.wrap (l[k].Left - l[k].Joined) = l[k].Left - l[k].Joined := wrap64 (by omega) (by omega)
        have w4 : IntKind.i64.wrap (t + (l[k].Left - l[k].Joined)) = t + (l[k].Left - l[k].Joined) := wrap64 (by omega) (by omega)
        by_cases hj : 0 ≤ l[k].Joined
        · rw [if_pos hj] at hc
          refine VW.run goodV_nil [] ?_; simp (implicitDefEqProofs := false) [enc_list, hk, get_Served l k hk, w1, w2, w3, w4, hj]
          exact ⟨_, _, (hI _ _ _).2 ⟨n + 1, t + (l[k].Left - l[k].Joined), rfl, rfl, by omega, by omega, by omega, by omega, hc⟩, ⟨0, [], by simp [enc_list], by simp, by simp, by simp (implicitDefEqProofs := false) [enc_list], by simp (implicitDefEqProofs := false) [enc_list]⟩⟩
        · rw [if_neg hj] at hc
          refine VW.run goodV_nil [] ?_; simp (implicitDefEqProofs := false) [enc_list, hk, get_Served l k hk, w1, w2, w3, w4, hj]
          exact ⟨_, _, (hI _ _ _).2 ⟨n, t, rfl, rfl, by omega, by omega, by omega, by omega, hc⟩, ⟨0, [], by simp [enc_list], by simp, by simp, by simp (implicitDefEqProofs := false) [enc_list], by simp (implicitDefEqProofs := false) [enc_list]⟩⟩
      · intro f m hi
        obtain ⟨n, t, rfl, rfl, n1, n2, t1, t2, hc⟩ := (hI _ _ _).1 hi
        rw [List.drop_length, cntL] at hc
        simp only [Prod.mk.injEq] at hc
        obtain ⟨rfl, rfl⟩ := hc
        refine VW.run goodV_nil [] ?_; simp (implicitDefEqProofs := false) [enc_list]
        exact ⟨0, [], by simp [enc_list], by simp, by simp, by simp (implicitDefEqProofs := false) [enc_list], by simp (implicitDefEqProofs := false) [enc_list]⟩
    · simp (implicitDefEqProofs := false); refine .ofCut hc (VW.run goodV_nil [] ?_); simp (implicitDefEqProofs := false) [enc_list]
  · cases hr
theorem w_hourly (hE : E.env.fn = G) : Ok E 38 (s2 fun (b : Book) (n : Span) => if 1 ≤ b.Hours.length then some (n.Low % b.Hours.length, 1 + n.High % 20) else none) := by
  refine ok2 fun b n r hr => ?_
  split at hr
  · rename_i hl
    cases hr
    refine VP.bound fun hb => ?_
    simp [enc_list] at hb
    have good := goodV_cons (w_Rest hE) goodV_nil
    have r1 : restF n.Low b.Hours.length = some (n.Low % b.Hours.length) := if_pos ⟨by omega, by omega⟩
    have r2 : restF n.High 20 = some (n.High % 20) := if_pos ⟨by omega, by omega⟩
    have w1 : IntKind.i64.wrap (1 + n.High % 20) = 1 + n.High % 20 := wrap64 (by omega) (by omega)
    refine VP.run (A := F38) (good) [] (by rw [hE]; rfl) (by simp [F38]) ?_; unfold F38; simp (implicitDefEqProofs := false) [enc_list, r1, r2, w1]
  · cases hr
theorem w_sound (hE : E.env.fn = G) : Ok E 37 (s1 fun b => some (okR b)) := by
  refine ok1 fun b r hr => ?_
  cases hr
  refine VP.bound fun hb => ?_
  simp [enc_list] at hb
  have good := goodV_cons (w_CheckP hE) (goodV_cons (w_Lies hE) goodV_nil)
  by_cases ho : okR b = true
  · have bo := okR_ok ho
    have s1 := bo.s1
    have s2 := bo.s2
    have h1 := bo.h1
    have h2 := bo.h2
    have v1 : wi b.Each 1 60 = true := (wi_iff _ _ _).2 ⟨bo.e1, bo.e2⟩
    have v2 : wi b.Fee 0 100 = true := (wi_iff _ _ _).2 ⟨bo.f1, bo.f2⟩
    have v3 : wi b.Rate 0 100 = true := (wi_iff _ _ _).2 ⟨bo.r1, bo.r2⟩
    have v4 : wi b.Unit 1 600 = true := (wi_iff _ _ _).2 ⟨bo.u1, bo.u2⟩
    have v5 : wi b.Shares.length 1 4 = true := (wi_iff _ _ _).2 ⟨by omega, by omega⟩
    have v6 : wi b.Hours.length 1 5 = true := (wi_iff _ _ _).2 ⟨by omega, by omega⟩
    refine VP.run (A := F37) (good) [] (by rw [hE]; rfl) (by simp [F37]) ?_; unfold F37; simp (implicitDefEqProofs := false) [enc_list, checkR, ho, v1, v2, v3, v4, v5, v6]
    refine VW.loop_to 0 [(3, .bool true)] [] (True) ?_ (fun hp f m hc => ?_)
    · obtain ⟨Inv, hI⟩ : ∃ Inv : Nat → List (Nat × PV) → VM → Prop, ∀ k f m, Inv k f m ↔ (f = [(1, .ptr 0 6 0), (3, .bool true), (4, .int .i64 k)] ∧ m = [bkc b]) := ⟨_, fun _ _ _ => Iff.rfl⟩
      refine VW.loop_cut Inv b.Hours.length ?_ ?_ ?_
      · exact ⟨_, _, (hI _ _ _).2 ⟨rfl, rfl⟩, ⟨1, [], by simp [enc_list], by simp, by simp, by simp (implicitDefEqProofs := false) [enc_list], by simp (implicitDefEqProofs := false) [enc_list]⟩⟩
      · intro k f m hk hi
        obtain ⟨rfl, rfl⟩ := (hI _ _ _).1 hi
        have w1 : IntKind.i64.wrap ((k : Int) + 1) = k + 1 := wrap64 (by omega) (by omega)
        have hl := bo.hl _ (List.getElem_mem hk)
        have hc := bo.hc _ (List.getElem_mem hk)
        have hg := get_List b.Hours k hk
        generalize b.Hours[k] = q at *
        have hl' : (q.length : Int) ≤ 12 := by omega
        refine VW.run good [] ?_; simp (implicitDefEqProofs := false) [enc_list, hk, hg, hl']
        refine VW.loop_to 2 [(1, .ptr 0 6 0), (3, .bool true), (4, .int .i64 k)] [bkc b] (True) ?_ (fun hp f m hc => ?_)
        · clear hI hi
          obtain ⟨Inv, hI⟩ : ∃ Inv : Nat → List (Nat × PV) → VM → Prop, ∀ j f m, Inv j f m ↔ (f = [(1, .ptr 0 6 0), (3, .bool true), (4, .int .i64 k), (5, enc q), (6, .int .i64 j)] ∧ m = [bkc b]) := ⟨_, fun _ _ _ => Iff.rfl⟩
          refine VW.loop_cut Inv q.length ?_ ?_ ?_
          · exact ⟨_, _, (hI _ _ _).2 ⟨rfl, rfl⟩, ⟨1, [], by simp [enc_list], by simp, by simp, by simp (implicitDefEqProofs := false) [enc_list], by simp (implicitDefEqProofs := false) [enc_list]⟩⟩
          · intro j f m hj hi
            obtain ⟨rfl, rfl⟩ := (hI _ _ _).1 hi
            have w2 : IntKind.i64.wrap ((j : Int) + 1) = j + 1 := wrap64 (by omega) (by omega)
            obtain ⟨⟨x1, x2, x3, x4, x5, x6⟩, x7, x8⟩ := hc _ (List.getElem_mem hj)
            have w3 : IntKind.i64.wrap ((b.Shares.length : Int) - 1) = b.Shares.length - 1 := wrap64 (by omega) (by omega)
            have u1 : wi q[j].At 0 3599 = true := (wi_iff _ _ _).2 ⟨x1, x2⟩
            have u2 : wi q[j].Wait 0 3600 = true := (wi_iff _ _ _).2 ⟨x3, x4⟩
            have u3 : wi q[j].Hear 1 5 = true := (wi_iff _ _ _).2 ⟨x5, x6⟩
            have u4 : wi q[j].From 0 ((b.Shares.length : Int) - 1) = true := (wi_iff _ _ _).2 ⟨x7, by omega⟩
            refine VW.run good [] ?_; simp (implicitDefEqProofs := false) [enc_list, hj, get_Call q j hj, w2, w3, u1, u2, u3, u4]
            exact ⟨_, _, (hI _ _ _).2 ⟨rfl, rfl⟩, ⟨1, [], by simp [enc_list], by simp, by simp, by simp (implicitDefEqProofs := false) [enc_list], by simp (implicitDefEqProofs := false) [enc_list]⟩⟩
          · intro f m hi
            obtain ⟨rfl, rfl⟩ := (hI _ _ _).1 hi
            refine VW.run good [] ?_; simp (implicitDefEqProofs := false) [enc_list]
            exact ⟨1, [], by simp [enc_list], by simp, by simp, by simp (implicitDefEqProofs := false) [enc_list], by simp (implicitDefEqProofs := false) [enc_list]⟩
        · simp (implicitDefEqProofs := false); refine .ofCut hc (VW.run good [] ?_); simp (implicitDefEqProofs := false) [enc_list, w1]
          exact ⟨_, _, (hI _ _ _).2 ⟨rfl, rfl⟩, ⟨1, [], by simp [enc_list], by simp, by simp, by simp (implicitDefEqProofs := false) [enc_list], by simp (implicitDefEqProofs := false) [enc_list]⟩⟩
      · intro f m hi
        obtain ⟨rfl, rfl⟩ := (hI _ _ _).1 hi
        refine VW.run good [] ?_; simp (implicitDefEqProofs := false) [enc_list]
        exact ⟨0, [], by simp [enc_list], by simp, by simp, by simp (implicitDefEqProofs := false) [enc_list], by simp (implicitDefEqProofs := false) [enc_list]⟩
    · simp (implicitDefEqProofs := false); refine .ofCut hc (VW.run good [] ?_); simp (implicitDefEqProofs := false) [enc_list]
  · have ho : okR b = false := by simpa using ho
    refine VP.run (A := F37) (good) [] (by rw [hE]; rfl) (by simp [F37]) ?_; unfold F37; simp (implicitDefEqProofs := false) [enc_list, checkR, ho]
    refine VW.loop_to 0 [(3, .bool false)] [] (True) ?_ (fun hp f m hc => ?_)
    · obtain ⟨Inv, hI⟩ : ∃ Inv : Nat → List (Nat × PV) → VM → Prop, ∀ k f m, Inv k f m ↔ (f = [(1, .ptr 0 6 0), (3, .bool false), (4, .int .i64 k)] ∧ m = [bkc b]) := ⟨_, fun _ _ _ => Iff.rfl⟩
      refine VW.loop_cut Inv 0 ?_ ?_ ?_
      · exact ⟨_, _, (hI _ _ _).2 ⟨rfl, rfl⟩, ⟨1, [], by simp [enc_list], by simp, by simp, by simp (implicitDefEqProofs := false) [enc_list], by simp (implicitDefEqProofs := false) [enc_list]⟩⟩
      · intro k f m hk hi
        omega
      · intro f m hi
        obtain ⟨rfl, rfl⟩ := (hI _ _ _).1 hi
        refine VW.run good [] ?_; simp (implicitDefEqProofs := false) [enc_list]
        exact ⟨0, [], by simp [enc_list], by simp, by simp, by simp (implicitDefEqProofs := false) [enc_list], by simp (implicitDefEqProofs := false) [enc_list]⟩
    · simp (implicitDefEqProofs := false); refine .ofCut hc (VW.run good [] ?_); simp (implicitDefEqProofs := false) [enc_list]
end Go.RS.CC

