/- Walks: the program (11): what a call pays. -/
import Derived.Test.YtidnkmbicedmjaaDoorWkc
set_option linter.all false
namespace Go.RS.CC
open Go Go.RS
open Go.RS.Enc (enc dec)
variable {E : VEnv}
theorem w_fee (hE : E.env.fn = G) : Ok E 95 (s2 fun (h : Hour) (x : JCall) => some h.book.Fee) := by
  refine ok2 fun h x r hr => ?_
  cases hr
  refine VP.run (A := F95) (goodV_nil) [] (by rw [hE]; rfl) (by simp [F95]) ?_; unfold F95; simp (implicitDefEqProofs := false) [enc_list]
def unitsP (b : Book) (s : Served) : Int := (s.Left - s.Joined + b.Unit - 1) / b.Unit * b.Rate
theorem w_units (hE : E.env.fn = G) : Ok E 96 (s2 fun (h : Hour) (x : JCall) => if 1 ≤ h.book.Unit ∧ h.book.Unit ≤ 600 ∧ 0 ≤ h.book.Rate ∧ h.book.Rate ≤ 100 ∧ 0 ≤ x.served.Joined ∧ x.served.Joined ≤ x.served.Left ∧ x.served.Left ≤ 432300 then some (unitsP h.book x.served) else none) := by
  refine ok2 fun h x r hr => ?_
  split at hr
  · rename_i hc
    cases hr
    obtain ⟨u1, u2, r1, r2, j1, j2, j3⟩ := hc
    have w1 : IntKind.i64.wrap (x.served.Left - x.served.Joined) = x.served.Left - x.served.Joined := wrap64 (by omega) (by omega)
    have w2 : IntKind.i64.wrap (x.served.Left - x.served.Joined + h.book.Unit) = x.served.Left - x.served.Joined + h.book.Unit := wrap64 (by omega) (by omega)
    have w3 : IntKind.i64.wrap (x.served.Left - x.served.Joined + h.book.Unit - 1) = x.served.Left - x.served.Joined + h.book.Unit - 1 := wrap64 (by omega) (by omega)
    generalize hn : x.served.Left - x.served.Joined + h.book.Unit - 1 = n at *
    have q0 : 0 ≤ n / h.book.Unit := Int.ediv_nonneg (by omega) (by omega)
    have q1 : n / h.book.Unit < 433000 := (Int.ediv_lt_iff_lt_mul (by omega)).2 (by omega)
    have w4 : IntKind.i64.wrap (n.tdiv h.book.Unit) = n / h.book.Unit := by
      rw [Int.tdiv_eq_ediv_of_nonneg (by omega)]; exact wrap64 (by omega) (by omega)
    have p0 : 0 ≤ n / h.book.Unit * h.book.Rate := Int.mul_nonneg q0 r1
    have p1 : n / h.book.Unit * h.book.Rate ≤ 433000 * 100 := Int.mul_le_mul (by omega) (by omega) (by omega) (by omega)
    have w5 : IntKind.i64.wrap (n / h.book.Unit * h.book.Rate) = n / h.book.Unit * h.book.Rate := wrap64 (by omega) (by omega)
    have h0 : h.book.Unit ≠ 0 := by omega
    refine VP.run (A := F96) (goodV_nil) [] (by rw [hE]; rfl) (by simp [F96]) ?_; unfold F96; simp (implicitDefEqProofs := false) [enc_list, w1, w2, w3, w4, w5, h0, hn, unitsP]
  · cases hr
end Go.RS.CC

/- Walks: the program (12): Pay. -/
namespace Go.RS.CC
open Go Go.RS
open Go.RS.Enc (enc dec)
variable {E : VEnv}
def sumW : List Int → Int → Int
  | [], a => a
  | x :: l, a => sumW l (IntKind.i64.wrap (a + x))
theorem w_sum (hE : E.env.fn = G) : Ok E 65 (s1 fun l : List Int => some (sumW l 0)) := by
  refine ok1 fun l r hr => ?_
  cases hr
  refine VP.bound fun hb => ?_
  simp [enc_list] at hb
  refine VP.run (A := F65) (goodV_nil) [] (by rw [hE]; rfl) (by simp [F65]) ?_; unfold F65; simp (implicitDefEqProofs := false) [enc_list]
  refine VW.loop_to 0 [(3, .int .i64 (sumW l 0))] [] (True) ?_ (fun hp f m hc => ?_)
  · obtain ⟨Inv, hI⟩ : ∃ Inv : Nat → List (Nat × PV) → VM → Prop, ∀ k f m, Inv k f m ↔ (∃ a : Int, f = [(3, .int .i64 a), (6, enc l), (7, .int .i64 l.length), (8, .int .i64 k)] ∧ m = [] ∧ sumW l 0 = sumW (l.drop k) a) := ⟨_, fun _ _ _ => Iff.rfl⟩
    refine VW.loop_cut Inv l.length ?_ ?_ ?_
    · exact ⟨_, _, (hI _ _ _).2 ⟨0, rfl, rfl, rfl⟩, ⟨0, [], by simp [enc_list], by simp, by simp, by simp (implicitDefEqProofs := false) [enc_list], by simp (implicitDefEqProofs := false) [enc_list]⟩⟩
    · intro k f m hk hi
      obtain ⟨a, rfl, rfl, hs⟩ := (hI _ _ _).1 hi
      have w1 : IntKind.i64.wrap ((k : Int) + 1) = k + 1 := wrap64 (by omega) (by omega)
      rw [List.drop_eq_getElem_cons hk, sumW] at hs
      refine VW.run goodV_nil [] ?_; simp (implicitDefEqProofs := false) [enc_list, hk, get_Int l k hk, w1]
      exact ⟨_, _, (hI _ _ _).2 ⟨_, rfl, rfl, hs⟩, ⟨0, [], by simp [enc_list], by simp, by simp, by simp (implicitDefEqProofs := false) [enc_list], by simp (implicitDefEqProofs := false) [enc_list]⟩⟩
    · intro f m hi
      obtain ⟨a, rfl, rfl, hs⟩ := (hI _ _ _).1 hi
      rw [List.drop_length, sumW] at hs
      refine VW.run goodV_nil [] ?_; simp (implicitDefEqProofs := false) [enc_list]
      exact ⟨0, [], by simp [enc_list,  hs], by simp, by simp, by simp (implicitDefEqProofs := false) [enc_list,  hs], by simp (implicitDefEqProofs := false) [enc_list,  hs]⟩
  · simp (implicitDefEqProofs := false); refine .ofCut hc (VW.run goodV_nil [] ?_); simp (implicitDefEqProofs := false) [enc_list]
theorem units_same {b : Book} (hu : 1 ≤ b.Unit) (s : Served) : b.Fee + unitsP b s = paysR b s := by
  have h1 := Int.mul_ediv_add_emod (s.Left - s.Joined + b.Unit - 1) b.Unit
  have h2 := Int.emod_nonneg (s.Left - s.Joined + b.Unit - 1) (show b.Unit ≠ 0 by omega)
  have h3 := Int.emod_lt_of_pos (s.Left - s.Joined + b.Unit - 1) (show 0 < b.Unit by omega)
  have h4 : (-(s.Left - s.Joined)) / b.Unit = -((s.Left - s.Joined + b.Unit - 1) / b.Unit) := by
    refine ((Int.ediv_emod_unique (r := b.Unit - 1 - (s.Left - s.Joined + b.Unit - 1) % b.Unit) (show 0 < b.Unit by omega)).2 ⟨?_, by omega, by omega⟩).1
    rw [Int.mul_neg]
    omega
  unfold paysR unitsP
  rw [h4, Int.neg_neg, Int.mul_comm]
theorem sliceV_all (t n : Nat) : sliceV 1 (some ⟨t, 0, none⟩) n n none (some (.int .i64 n)) (some (.int .i64 n)) = some (.slice (some ⟨t, 0, none⟩) n n) := by
  simp [sliceV, slBounds, optBound, bound, Addr.add]
abbrev f95w : Value := .func (.func 95) #[] #[]
abbrev f96w : Value := .func (.func 96) #[] #[]
set_option maxRecDepth 20000 in
theorem w_PayP (hE : E.env.fn = G) (hgl : E.gl 0 = some [f95w, f96w]) : Ok E 31 (s3 fun b h c => some (PayR b h c)) := by
  refine ok3 fun b h c r hr => ?_
  cases hr
  refine VP.bound fun hb => ?_
  simp [enc_list] at hb
  have good := goodV_cons (w_askedP hE) (goodV_cons (w_sum hE) (goodV_cons (w_fee hE) (goodV_cons (w_units hE) goodV_nil)))
  by_cases ha : askedR b h c = 0
  · have ho := hour_ok ha
    obtain ⟨hok, h0, h1, h2, h3⟩ := askedR_zero ha
    have bo := okR_ok hok
    obtain ⟨hm, hh, hd⟩ := hourOf_mem h0 h1
    have hsv := ServeR_ok (b := b) (h := h) (c := c)
    have hcx := bo.hc _ hm
    generalize hq : hourOf b h = q at *
    generalize hS : serveR b.Each c [] q = S
    have hR : ServeR b h c = (S, 0) := by rw [ServeR, if_pos ha, hq, hS]
    have hSl : S.length = q.length := by rw [← hS, serveR_len]; simp
    have hln : q.length ≤ 1000 := ho.ln
    have hln12 : q.length ≤ 12 := bo.hl _ hm
    have hB : PayR b h c = ⟨(payL b q S (List.replicate b.Shares.length 0) 0).1, (payL b q S (List.replicate b.Shares.length 0) 0).2, 0⟩ := by unfold PayR; rw [hR, hq]; rfl
    rw [hB]
    rw [hR] at hsv
    generalize hT : payL b q S (List.replicate b.Shares.length 0) 0 = T
    have s1 := bo.s1
    have s2 := bo.s2
    have hne : b.Shares.length ≠ 0 := by omega
    have hne2 : b.Shares ≠ [] := by intro hx; rw [hx] at hne; exact hne rfl
    have hmk : b.Shares.length * 8 ≤ 1099511627776 ∧ b.Shares.length ≤ 1099511627776 := by omega
    have hlb : b.Shares.length ≤ openCap := by have := openCap_eq; omega
    refine VP.run (A := F31) (good) [] (by rw [hE]; rfl) (by simp [F31]) ?_; unfold F31; simp (implicitDefEqProofs := false) [enc_list, spliceV, askedP, ha, hq, hne, hne2, hmk, made_Int']
    unfold VCo
    refine vc_joined (h := ⟨b, q, c⟩) hE rfl ?_
    simp (implicitDefEqProofs := false) [enc_list]
    refine .ofCut (l := [(3, .ptr 0 6 0), (6, .ptr 1 1 0), (7, .ptr 2 1 0), (9, .ptr 3 8 0), (32, .func 75 [] [.ptr 5 8 0])]) (M := [bkc b, .cells [.sl 4 b.Shares.length 0 b.Shares.length b.Shares.length 1], .cells [.int .i64 0], hrc ⟨b, q, c⟩, .vec (encL (List.replicate b.Shares.length (0 : Int))), hrc ⟨b, q, c⟩]) ⟨6, [], by simp [enc_list], by simp, by simp, by simp (implicitDefEqProofs := false) [enc_list], by simp (implicitDefEqProofs := false) [enc_list]⟩ ?_
    refine VW.rangeJ (b := 5) (n0 := 6) (h := ⟨b, q, c⟩) hE (fun i pre => ∃ (p : List Int) (w : Int), pre = [bkc b, .cells [.sl 4 b.Shares.length 0 b.Shares.length b.Shares.length 1], .cells [.int .i64 w], hrc ⟨b, q, c⟩, .vec (encL p), hrc ⟨b, q, c⟩] ∧ p.length = b.Shares.length ∧ (∀ v ∈ p, 0 ≤ v ∧ v ≤ i * 43230200) ∧ 0 ≤ w ∧ w ≤ i * 43230200 ∧ T = payL b (q.drop i) (S.drop i) p w) (fun e pre => False) (by simp) ho hS rfl (mkF_und (by simp)) rfl ⟨List.replicate b.Shares.length 0, 0, rfl, by simp, fun v hv => by simp at hv; omega, by omega, by omega, hT.symm⟩ ?_ ?_ ?_ ?_ ?_
    · rintro i pre ⟨p, w, rfl, hpl, _⟩
      exact ⟨rfl, rfl, by simp (implicitDefEqProofs := false) [enc_list]⟩
    · rintro i pre hi ⟨p, w, rfl, hpl, hpv, hw0, hw1, hs⟩ hj
      have hi2 : i < q.length := by omega
      rw [List.drop_eq_getElem_cons hi, List.drop_eq_getElem_cons hi2, payL, if_pos hj] at hs
      exact ⟨p, w, rfl, hpl, fun v hv => by have := hpv v hv; omega, hw0, by omega, hs⟩
    · rintro i pre hi hc ⟨p, w, rfl, hpl, hpv, hw0, hw1, hs⟩ hj c3 c7 Lr Lb hLb
      have hi2 : i < q.length := by omega
      rw [List.drop_eq_getElem_cons hi, List.drop_eq_getElem_cons hi2, payL, if_neg (by omega)] at hs
      have hsv1 := hsv _ (List.getElem_mem hi)
      have hcx1 := hcx _ (List.getElem_mem hi2)
      generalize hx : S[i] = x at *
      generalize hy : q[i] = y at *
      refine VW.run good [] ?_; simp (implicitDefEqProofs := false) [enc_list, setParamsV]
      have hpr : ∀ fr, (Opd.c (Value.pointer (some { block := 0, off := 0 }))).evV E fr = .lptr [.func 95 [] [], .func 96 [] []] := fun fr => by simp [Opd.evV, PV.ofV, hgl, PV.ofS]
      refine VW.run good [] ?_; simp (implicitDefEqProofs := false) [enc_list, hpr, spliceV]
      refine VW.declare 12 1 (by simp) ?_
      have hcond : 1 ≤ b.Unit ∧ b.Unit ≤ 600 ∧ 0 ≤ b.Rate ∧ b.Rate ≤ 100 ∧ 0 ≤ x.Joined ∧ x.Joined ≤ x.Left ∧ x.Left ≤ 432300 := ⟨bo.u1, bo.u2, bo.r1, bo.r2, hj, by have := hsv1.d; omega, hsv1.l2⟩
      refine VW.loop_to 2 [(3, .ptr 0 6 0), (6, .ptr 1 1 0), (7, .ptr 2 1 0), (9, .ptr 3 8 0), (11, .ptr 9 7 0), (12, sl1 10 [b.Fee, unitsP b x])] [bkc b, .cells [.sl 4 b.Shares.length 0 b.Shares.length b.Shares.length 1], .cells [.int .i64 w], hrc ⟨b, q, c⟩, .vec (encL p), hrc ⟨b, q, c⟩, Lb, .gone, .gone, .cells (El.cells (JCall.mk y x)), .vec (encL [b.Fee, unitsP b x])] (True) ?_ (fun hp f m hc => ?_)
      · obtain ⟨Inv, hI⟩ : ∃ Inv : Nat → List (Nat × PV) → VM → Prop, ∀ k f m, Inv k f m ↔ (∃ out : List Int, f = [(3, .ptr 0 6 0), (6, .ptr 1 1 0), (7, .ptr 2 1 0), (9, .ptr 3 8 0), (11, .ptr 9 7 0), (12, sl1 10 out), (35, .agg [.func 95 [] [], .func 96 [] []]), (36, .int .i64 k)] ∧ m = [bkc b, .cells [.sl 4 b.Shares.length 0 b.Shares.length b.Shares.length 1], .cells [.int .i64 w], hrc ⟨b, q, c⟩, .vec (encL p), hrc ⟨b, q, c⟩, Lb, .gone, .gone, .cells (El.cells (JCall.mk y x)), .vec (encL out)] ∧ out = [b.Fee, unitsP b x].take k) := ⟨_, fun _ _ _ => Iff.rfl⟩
        refine VW.loop_cut Inv 2 ?_ ?_ ?_
        · exact ⟨_, _, (hI _ _ _).2 ⟨[], rfl, rfl, rfl⟩, ⟨11, [7, 8], by simp [enc_list], by simp, by simp, by simp (implicitDefEqProofs := false) [enc_list], by have hu := hLb 11 (mkF_und (by simp)); simpa (implicitDefEqProofs := false) [enc_list] using hu⟩⟩
        · intro k f m hk hi
          obtain ⟨out, rfl, rfl, ho⟩ := (hI _ _ _).1 hi
          have f1 : fits 1 8 = true := fits8 (by omega)
          have f2 : fits 2 8 = true := fits8 (by omega)
          have w01 : IntKind.i64.wrap 1 = 1 := wrap64 (by omega) (by omega)
          have w12 : IntKind.i64.wrap 2 = 2 := wrap64 (by omega) (by omega)
          have hk01 : k = 0 ∨ k = 1 := by omega
          rcases hk01 with rfl | rfl
          · obtain rfl : out = [] := ho
            refine VW.run good [] ?_; simp (implicitDefEqProofs := false) [enc_list, f1, spliceV, w01]
            exact ⟨_, _, (hI _ _ _).2 ⟨[b.Fee], rfl, rfl, rfl⟩, ⟨11, [], by simp [enc_list], by simp, by simp, by simp (implicitDefEqProofs := false) [enc_list, w01, w12], by have hu := hLb 11 (mkF_und (by simp)); simpa (implicitDefEqProofs := false) [enc_list] using hu⟩⟩
          · obtain rfl : out = [b.Fee] := ho
            refine VW.run good [] ?_; simp (implicitDefEqProofs := false) [enc_list, f2, hcond, spliceV, w12]
            exact ⟨_, _, (hI _ _ _).2 ⟨[b.Fee, unitsP b x], rfl, rfl, rfl⟩, ⟨11, [], by simp [enc_list], by simp, by simp, by simp (implicitDefEqProofs := false) [enc_list, w01, w12], by have hu := hLb 11 (mkF_und (by simp)); simpa (implicitDefEqProofs := false) [enc_list] using hu⟩⟩
        · intro f m hi
          obtain ⟨out, rfl, rfl, ho⟩ := (hI _ _ _).1 hi
          obtain rfl : out = [b.Fee, unitsP b x] := ho
          refine VW.run good [] ?_; simp (implicitDefEqProofs := false) [enc_list]
          exact ⟨11, [], by simp [enc_list], by simp, by simp, by simp (implicitDefEqProofs := false) [enc_list], by have hu := hLb 11 (mkF_und (by simp)); simpa (implicitDefEqProofs := false) [enc_list] using hu⟩
      · have hdec := fun (M : VM) (h' : M[10]? = some (.vec (encL [b.Fee, unitsP b x]))) => decf_Int M 10 [b.Fee, unitsP b x] h'
        simp only [List.length_cons, List.length_nil, Nat.zero_add, Nat.reduceAdd] at hdec
        obtain ⟨g1, g2, g3, g4, g5, g6⟩ := paysR_rng bo hsv1
        have hus := units_same bo.u1 x
        have k4 : sumW [b.Fee, unitsP b x] 0 = paysR b x := by
          have f1 := bo.f1
          have f2 := bo.f2
          rw [sumW, sumW, sumW, wrap64 (n := 0 + b.Fee) (by omega) (by omega), wrap64 (by omega) (by omega)]
          omega
        obtain ⟨hxr, hx1, hx2⟩ := hcx1
        have hxn : y.From.toNat < b.Shares.length := by omega
        obtain ⟨g7, g8, g9, g10⟩ := partR_rng bo hsv1 hxn
        have gsh : b.Shares.getD y.From.toNat 0 = b.Shares[y.From.toNat] := by simp [hxn]
        have hpn : y.From.toNat < p.length := by omega
        have gp : p.getD y.From.toNat 0 = p[y.From.toNat] := by simp [hpn]
        obtain ⟨v1, v2⟩ := hpv _ (List.getElem_mem hpn)
        have k5 : IntKind.i64.wrap (paysR b x * b.Shares[y.From.toNat]) = paysR b x * b.Shares[y.From.toNat] := by rw [← gsh]; exact wrap64 (by omega) (by omega)
        have k6 : IntKind.i64.wrap ((paysR b x * b.Shares[y.From.toNat]).tdiv 100) = partR b y x := by
          rw [← gsh, Int.tdiv_eq_ediv_of_nonneg g7]; exact wrap64 (by unfold partR at g9; omega) (by unfold partR at g10; omega)
        have k7 : IntKind.i64.wrap (p[y.From.toNat] + partR b y x) = p[y.From.toNat] + partR b y x := wrap64 (by omega) (by omega)
        have k8 : IntKind.i64.wrap (paysR b x - partR b y x) = paysR b x - partR b y x := wrap64 (by omega) (by omega)
        have k9 : IntKind.i64.wrap (w + (paysR b x - partR b y x)) = w + (paysR b x - partR b y x) := wrap64 (by omega) (by omega)
        have hxle : y.From.toNat + 1 ≤ b.Shares.length := hxn
        have hpos : 0 < b.Shares.length := by omega
        have hne0 : ¬ b.Shares.length = 0 := hne
        simp (implicitDefEqProofs := false); refine .ofCut hc (VW.run good [] ?_); simp (implicitDefEqProofs := false) [enc_list, hdec, k4, k5, k6, k7, k8, k9, hx1, hx2, hpos, hpl, hxle, get_Int _ _ hxn, at_Int _ _ hpn, splice_Int _ _ _ hpn, spliceV]
        rw [gp] at hs
        have hsp : List.take y.From.toNat (encL p) ++ PV.int .i64 (p[y.From.toNat] + partR b y x) :: List.drop (y.From.toNat + 1) (encL p) = encL (p.set y.From.toNat (p[y.From.toNat] + partR b y x)) := by
          have := splice_Int p y.From.toNat (p[y.From.toNat] + partR b y x) hpn
          simpa [spliceV] using this
        rw [hsp]
        refine ⟨[bkc b, .cells [.sl 4 b.Shares.length 0 b.Shares.length b.Shares.length 1], .cells [.int .i64 (w + (paysR b x - partR b y x))], hrc ⟨b, q, c⟩, .vec (encL (p.set y.From.toNat (p[y.From.toNat] + partR b y x))), hrc ⟨b, q, c⟩], ⟨_, rfl⟩, rfl, _, _, rfl, by simpa using hpl, fun v hv => ?_, by omega, by omega, hs⟩
        rcases List.mem_or_eq_of_mem_set hv with hv | hv
        · have := hpv v hv; omega
        · omega
    · rintro pre L ext ⟨p, w, rfl, hpl, hpv, hw0, hw1, hs⟩
      rw [List.drop_length] at hs
      have hz : payL b (q.drop S.length) [] p w = (p, w) := by cases q.drop S.length <;> rfl
      rw [hz] at hs
      subst hs
      simp (implicitDefEqProofs := false) [enc_list]
      have hcp : b.Shares.length < openCap ∨ b.Shares.length = openCap ∨ b.Shares.length = openCap + 1 := by omega
      have hsa := sliceV_all 4 b.Shares.length
      refine VW.run good [] ?_; simp (implicitDefEqProofs := false) [enc_list, lefm_Int', hpl, hlb, slV_all, hne, hcp, hsa, ofSlice, PV.toS, spliceV]
    · intro e pre L ext hf; exact hf.elim
  · have hR : PayR b h c = ⟨[], 0, askedR b h c⟩ := by unfold PayR ServeR; rw [if_neg ha]; simp [ha]
    rw [hR]
    refine VP.run (A := F31) (good) [] (by rw [hE]; rfl) (by simp [F31]) ?_; unfold F31; simp (implicitDefEqProofs := false) [enc_list, spliceV, askedP, ha, noHour]
end Go.RS.CC

