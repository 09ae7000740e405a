/- Walks: the laws: CallerCoin. -/
import Derived.Test.YtidnkmbicedmjaaDoorLwv
import Derived.Test.YtidnkmbicedmjaaDoorWkd
set_option linter.all false
namespace Go.RS.CC
open Go Go.RS
open Go.RS.Enc (enc dec)
variable {E : VEnv}
def coinL (b : Book) : List Call → List Served → Int → List Int → List Int → Int × List Int × List Int
  | x :: q, s :: S, a, d, m => if s.Joined < 0 then coinL b q S a d m
      else coinL b q S (a + paysR b s) (d.set x.From.toNat (d.getD x.From.toNat 0 + paysR b s * b.Shares.getD x.From.toNat 0)) (m.set x.From.toNat (m.getD x.From.toNat 0 + 1))
  | _, _, a, d, m => (a, d, m)
def sumI : List Int → Int
  | [] => 0
  | x :: l => x + sumI l
theorem sumI_set : ∀ (l : List Int) (k : Nat) (h : k < l.length) (v : Int), sumI (l.set k v) = sumI l + (v - l[k])
  | x :: l, 0, h, v => by simp [sumI]; omega
  | x :: l, k + 1, h, v => by
    simp only [List.set_cons_succ, sumI, List.getElem_cons_succ]
    rw [sumI_set l k (by simpa using h) v]; omega
theorem sumW_eq : ∀ (l : List Int) (a B : Int), 0 ≤ a → (∀ v ∈ l, 0 ≤ v ∧ v ≤ B) → a + l.length * B < 9223372036854775808 → sumW l a = a + sumI l
  | [], a, B, _, _, _ => by simp [sumW, sumI]
  | x :: l, a, B, h0, h, hb => by
    obtain ⟨x1, x2⟩ := h x (by simp)
    simp only [List.length_cons] at hb
    have e : ((l.length + 1 : Nat) : Int) * B = l.length * B + B := by rw [Int.natCast_add, Int.add_mul]; simp
    rw [e] at hb
    have hB : 0 ≤ (l.length : Int) * B := Int.mul_nonneg (by omega) (by omega)
    rw [sumW, wrap64 (by omega) (by omega), sumW_eq l (a + x) B (by omega) (fun v hv => h v (by simp [hv])) (by omega), sumI]
    omega
structure CoinOk (n : Nat) (p : List Int) (h a : Int) (d m : List Int) : Prop where
  lp : p.length = n
  ld : d.length = n
  lm : m.length = n
  each : ∀ (k : Nat) (h1 : k < p.length) (h2 : k < d.length) (h3 : k < m.length), 100 * p[k] ≤ d[k] ∧ d[k] - 99 * m[k] ≤ 100 * p[k] ∧ 0 ≤ p[k] ∧ 0 ≤ m[k]
  sum : sumI p + h = a
  house : 0 ≤ h
theorem coin_ok {b : Book} (bo : BookOk b) : ∀ (q : List Call) (S : List Served) (p d m : List Int) (h a : Int), (∀ x ∈ q, 0 ≤ x.From ∧ x.From < b.Shares.length) → (∀ s ∈ S, SvOk s) → CoinOk b.Shares.length p h a d m →
    CoinOk b.Shares.length (payL b q S p h).1 (payL b q S p h).2 (coinL b q S a d m).1 (coinL b q S a d m).2.1 (coinL b q S a d m).2.2
  | [], S, p, d, m, h, a, _, _, c => by simpa [payL, coinL] using c
  | x :: q, [], p, d, m, h, a, _, _, c => by simpa [payL, coinL] using c
  | x :: q, s :: S, p, d, m, h, a, hq, hS, c => by
    rw [payL, coinL]
    by_cases hj : s.Joined < 0
    · rw [if_pos hj, if_pos hj]
      exact coin_ok bo q S p d m h a (fun y hy => hq y (by simp [hy])) (fun y hy => hS y (by simp [hy])) c
    · rw [if_neg hj, if_neg hj]
      obtain ⟨x1, x2⟩ := hq x (by simp)
      have sv := hS s (by simp)
      have hxn : x.From.toNat < b.Shares.length := by omega
      obtain ⟨g7, g8, g9, g10⟩ := partR_rng bo sv hxn
      refine coin_ok bo q S _ _ _ _ _ (fun y hy => hq y (by simp [hy])) (fun y hy => hS y (by simp [hy])) ?_
      have hp : x.From.toNat < p.length := by rw [c.lp]; exact hxn
      have hd : x.From.toNat < d.length := by rw [c.ld]; exact hxn
      have hm : x.From.toNat < m.length := by rw [c.lm]; exact hxn
      have ep : p.getD x.From.toNat 0 = p[x.From.toNat] := by simp [hp]
      have ed : d.getD x.From.toNat 0 = d[x.From.toNat] := by simp [hd]
      have em : m.getD x.From.toNat 0 = m[x.From.toNat] := by simp [hm]
      have hpart : 100 * partR b x s ≤ paysR b s * b.Shares.getD x.From.toNat 0 ∧ paysR b s * b.Shares.getD x.From.toNat 0 ≤ 100 * partR b x s + 99 := by
        unfold partR; omega
      refine ⟨by simpa using c.lp, by simpa using c.ld, by simpa using c.lm, fun k h1 h2 h3 => ?_, ?_, by have := c.house; omega⟩
      · simp only [List.length_set] at h1 h2 h3
        by_cases hk : x.From.toNat = k
        · subst hk
          rw [List.getElem_set_self, List.getElem_set_self, List.getElem_set_self, ep, ed, em]
          have := c.each _ h1 h2 h3
          omega
        · rw [List.getElem_set_ne hk, List.getElem_set_ne hk, List.getElem_set_ne hk]
          exact c.each k h1 h2 h3
      · rw [sumI_set p _ hp, ep]
        have := c.sum
        omega
theorem ceil_spec {n u : Int} (hu : 1 ≤ u) (h0 : 0 ≤ n) (j : Nat) : ((j : Int) * u < n ↔ (j : Int) < -(-n / u)) := by
  have h1 := Int.mul_ediv_add_emod (-n) u
  have h2 := Int.emod_nonneg (-n) (show u ≠ 0 by omega)
  have h3 := Int.emod_lt_of_pos (-n) (show 0 < u by omega)
  generalize -n / u = z at *
  constructor
  · intro h
    by_cases hj : (j : Int) < -z
    · exact hj
    · have : -z * u ≤ j * u := Int.mul_le_mul_of_nonneg_right (by omega) (by omega)
      have e : -z * u = -(u * z) := by rw [Int.neg_mul, Int.mul_comm]
      omega
  · intro h
    have : (j + 1 : Int) * u ≤ -z * u := Int.mul_le_mul_of_nonneg_right (by omega) (by omega)
    have e : -z * u = -(u * z) := by rw [Int.neg_mul, Int.mul_comm]
    have e2 : (j + 1 : Int) * u = j * u + u := by rw [Int.add_mul]; omega
    omega
def freeB (b : Book) : Book := ⟨b.Each, 0, 0, b.Unit, b.Shares, b.Hours⟩
theorem okR_free {b : Book} (ho : okR b = true) : okR (freeB b) = true := by
  have bo := okR_ok ho
  simp only [okR, Bool.and_eq_true, List.all_eq_true] at ho ⊢
  obtain ⟨⟨h1, h2⟩, h3⟩ := ho
  refine ⟨⟨?_, h2⟩, fun l hl => ?_⟩
  · simp only [headR, freeB, Bool.and_eq_true] at h1 ⊢
    exact ⟨⟨⟨⟨⟨h1.1.1.1.1.1, rfl⟩, rfl⟩, h1.1.1.2⟩, h1.1.2⟩, h1.2⟩
  · have key : ∀ (q : List Call) (last : Int), callsLR (freeB b) q last = callsLR b q last := by
      intro q
      induction q with
      | nil => intro _; rfl
      | cons x q ih => intro last; rw [callsLR, callsLR, ih]; rfl
    have := h3 l hl
    unfold callsR at this ⊢
    rw [key]; exact this
theorem pay_free (b : Book) (hu : 1 ≤ b.Unit) : ∀ (q : List Call) (S : List Served) (n : Nat), payL (freeB b) q S (List.replicate n 0) 0 = (List.replicate n 0, 0)
  | [], S, n => rfl
  | x :: q, [], n => rfl
  | x :: q, s :: S, n => by
    rw [payL]
    have h1 : paysR (freeB b) s = 0 := by simp [paysR, freeB]
    have h2 : partR (freeB b) x s = 0 := by unfold partR; rw [h1]; simp
    rw [h1, h2]
    have h3 : (List.replicate n (0 : Int)).set x.From.toNat ((List.replicate n (0 : Int)).getD x.From.toNat 0 + 0) = List.replicate n 0 := by
      apply List.ext_getElem
      · simp
      · intro i g1 g2
        rw [List.getElem_set]
        split
        · simp [List.getD_eq_getElem?_getD, List.getElem?_replicate]
          split <;> rfl
        · simp
    rw [h3]
    simp only [Int.sub_self, Int.add_zero]
    split <;> exact pay_free b hu q S n
abbrev bkm (b : Book) (n0 n1 : Int) : VM := [bkc b, .cells [.int .i64 n0, .int .i64 n1]]
set_option maxHeartbeats 6400000 in
set_option maxRecDepth 20000 in
theorem l_Coin (hE : E.env.fn = G) (hW : WorksOk E) (hgl : E.gl 0 = some [f95w, f96w]) (b : Book) (n0 n1 : Int) : VP E 12 [enc b, .agg [.int .i64 n0, .int .i64 n1]] (.bool true) := by
  have good := goodV_cons (w_sound hE) (goodV_cons (w_works hW) (goodV_cons (w_hourly hE) (goodV_cons (w_ServeP hE) (goodV_cons (w_PayP hE hgl) (goodV_cons (w_Total hE) goodV_nil)))))
  by_cases ho : okR b = true
  · have bo := okR_ok ho
    obtain ⟨H, C, q, S, pk⟩ := pick_of ho n0 n1
    have hl1 := bo.h1
    have hS := pk.serve
    have hl := pk.len
    have h12 := pk.l12
    have hfrom : ∀ x ∈ q, 0 ≤ x.From ∧ x.From < b.Shares.length := fun x hx => (bo.hc q pk.mem x hx).2
    have hok := coin_ok bo q S (List.replicate b.Shares.length 0) (List.replicate b.Shares.length 0) (List.replicate b.Shares.length 0) 0 0 hfrom pk.ok
      ⟨by simp, by simp, by simp, fun k h1 h2 h3 => by simp, by
        have : ∀ n, sumI (List.replicate n 0) = 0 := fun n => by induction n with
          | zero => rfl
          | succ n ih => rw [List.replicate_succ, sumI, ih]; rfl
        rw [this]; rfl, by omega⟩
    have hP : PayR b H C = ⟨(payL b q S (List.replicate b.Shares.length 0) 0).1, (payL b q S (List.replicate b.Shares.length 0) 0).2, 0⟩ := by
      unfold PayR; rw [hS, if_pos rfl, pk.hour]
    have hok' := okR_free ho
    have haF := asked_of hok' (H := H) (C := C) pk.h0 pk.h1 pk.c1 pk.c2
    have hP' : PayR (freeB b) H C = ⟨List.replicate b.Shares.length 0, 0, 0⟩ := by
      have hSf : ServeR (freeB b) H C = (S, 0) := by
        rw [ServeR, if_pos haF]
        have : hourOf (freeB b) H = q := pk.hour
        rw [this]
        exact congrArg (fun z => (z, (0 : Int))) pk.eq
      unfold PayR
      rw [hSf, if_pos rfl]
      have : hourOf (freeB b) H = q := pk.hour
      rw [this]
      show T3.mk (payL (freeB b) q S (List.replicate b.Shares.length 0) 0).1 (payL (freeB b) q S (List.replicate b.Shares.length 0) 0).2 (0 : Int) = _
      rw [pay_free b bo.u1]
    generalize hPP : payL b q S (List.replicate b.Shares.length 0) 0 = PP at *
    obtain ⟨P, hs⟩ := PP
    generalize hCC : coinL b q S 0 (List.replicate b.Shares.length 0) (List.replicate b.Shares.length 0) = CC at *
    obtain ⟨al, du, mn⟩ := CC
    simp only at hok hP
    have s1 := bo.s1
    have s2 := bo.s2
    have hne : b.Shares.length ≠ 0 := by omega
    have hne2 : b.Shares ≠ [] := by intro hx; rw [hx] at hne; exact hne rfl
    have hmk : b.Shares.length * 8 ≤ 1099511627776 ∧ b.Shares.length ≤ 1099511627776 := by omega
    have hPl := hok.lp
    refine VP.run (A := F12) (good) [] (by rw [hE]; rfl) (by simp [F12]) ?_; unfold F12; simp (implicitDefEqProofs := false) [enc_list, spliceV, ho, hl1, pk.h, pk.c, hS, hP, pk.gl, pk.h0, pk.h1, hl, hPl, hne, hne2, hmk, made_Int']
    refine VW.loop_to 0 [(2, .ptr 0 6 0), (5, .int .i64 H), (6, .int .i64 C), (7, enc S), (9, enc P), (10, .int .i64 hs), (12, enc q), (13, .int .i64 al), (14, (.sl 2 b.Shares.length 0 b.Shares.length b.Shares.length 1)), (15, (.sl 3 b.Shares.length 0 b.Shares.length b.Shares.length 1))] (bkm b n0 n1 ++ [.vec (encL du), .vec (encL mn)]) ((∀ v ∈ du, 0 ≤ v ∧ v ≤ 51876240000) ∧ (∀ v ∈ mn, 0 ≤ v ∧ v ≤ 12) ∧ 0 ≤ al ∧ al ≤ 518762400) ?_ (fun hp f m hc => ?_)
    · obtain ⟨Inv, hI⟩ : ∃ Inv : Nat → List (Nat × PV) → VM → Prop, ∀ i f m, Inv i f m ↔ (∃ (a : Int) (d w : List Int), f = [(2, .ptr 0 6 0), (5, .int .i64 H), (6, .int .i64 C), (7, enc S), (9, enc P), (10, .int .i64 hs), (12, enc q), (13, .int .i64 a), (14, (.sl 2 b.Shares.length 0 b.Shares.length b.Shares.length 1)), (15, (.sl 3 b.Shares.length 0 b.Shares.length b.Shares.length 1)), (16, .int .i64 i)] ∧ m = bkm b n0 n1 ++ [.vec (encL d), .vec (encL w)] ∧ d.length = b.Shares.length ∧ w.length = b.Shares.length ∧ 0 ≤ a ∧ a ≤ i * 43230200 ∧ (∀ v ∈ d, 0 ≤ v ∧ v ≤ i * 4323020000) ∧ (∀ v ∈ w, 0 ≤ v ∧ v ≤ i) ∧ (al, du, mn) = coinL b (q.drop i) (S.drop i) a d w) := ⟨_, fun _ _ _ => Iff.rfl⟩
      refine VW.loop_cut Inv S.length ?_ ?_ ?_
      · exact ⟨_, _, (hI _ _ _).2 ⟨0, List.replicate b.Shares.length 0, List.replicate b.Shares.length 0, rfl, rfl, by simp, by simp, by omega, by omega, fun v hv => by simp at hv; omega, fun v hv => by simp at hv; omega, hCC.symm⟩, ⟨4, [], by simp [enc_list,  hl, hPl], by simp, by simp, by simp (implicitDefEqProofs := false) [enc_list,  hl, hPl], by simp (implicitDefEqProofs := false) [enc_list,  hl, hPl]⟩⟩
      · intro i f m hi hv
        obtain ⟨a, d, w, rfl, rfl, ld, lw, a1, a2, dv, wv, hcn⟩ := (hI _ _ _).1 hv
        have hiq : i < q.length := by omega
        have w1 : IntKind.i64.wrap ((i : Int) + 1) = i + 1 := wrap64 (by omega) (by omega)
        rw [List.drop_eq_getElem_cons hiq, List.drop_eq_getElem_cons hi, coinL] at hcn
        have hsv := pk.ok _ (List.getElem_mem hi)
        obtain ⟨fx1, fx2⟩ := hfrom _ (List.getElem_mem hiq)
        have hgS := get_Served S i hi
        have hgq := get_Call q i hiq
        generalize S[i] = y at *
        generalize q[i] = x at *
        by_cases hj : y.Joined < 0
        · rw [if_pos hj] at hcn
          refine VW.run good [] ?_; simp (implicitDefEqProofs := false) [enc_list, hi, hgS, hj, w1]
          refine VW.run good [] ?_; simp (implicitDefEqProofs := false) [enc_list, w1]
          exact ⟨_, _, (hI _ _ _).2 ⟨a, d, w, rfl, rfl, ld, lw, a1, by omega, fun v hv => by have := dv v hv; omega, fun v hv => by have := wv v hv; omega, hcn⟩, ⟨4, [], by simp [enc_list], by simp, by simp, by simp (implicitDefEqProofs := false) [enc_list], by simp (implicitDefEqProofs := false) [enc_list]⟩⟩
        · rw [if_neg hj] at hcn
          have hxn : x.From.toNat < b.Shares.length := by omega
          have hdn : x.From.toNat < d.length := by omega
          have hwn : x.From.toNat < w.length := by omega
          have gd : d.getD x.From.toNat 0 = d[x.From.toNat] := by simp [hdn]
          have gw : w.getD x.From.toNat 0 = w[x.From.toNat] := by simp [hwn]
          have gsh : b.Shares.getD x.From.toNat 0 = b.Shares[x.From.toNat] := by simp [hxn]
          rw [gd, gw, gsh] at hcn
          obtain ⟨v1, v2⟩ := dv _ (List.getElem_mem hdn)
          obtain ⟨v3, v4⟩ := wv _ (List.getElem_mem hwn)
          obtain ⟨g1, g2, g3, g4, g5, g6⟩ := paysR_rng bo hsv
          obtain ⟨g7, g8, g9, g10⟩ := partR_rng bo hsv hxn
          rw [gsh] at g7 g8
          have u1 := bo.u1
          have u2 := bo.u2
          have r1 := bo.r1
          have r2 := bo.r2
          have f1 := bo.f1
          have f2 := bo.f2
          obtain ⟨j1, j2, l1, l2, dd⟩ := hsv
          have hspec := ceil_spec (n := y.Left - y.Joined) (u := b.Unit) u1 (by omega)
          have hpay : paysR b y = b.Fee + b.Rate * (-(-(y.Left - y.Joined) / b.Unit)) := rfl
          obtain ⟨N, hN⟩ : ∃ N, -(-(y.Left - y.Joined) / b.Unit) = N := ⟨_, rfl⟩
          rw [hN] at g1 g2 g3 g4 hspec hpay
          have hi12 : i ≤ 12 := by omega
          have hnp : 0 < b.Shares.length := by omega
          have hxle : x.From.toNat + 1 ≤ b.Shares.length := hxn
          refine VW.run good [] ?_; simp (implicitDefEqProofs := false) [enc_list, hi, hgS, hj]
          refine VW.loop_to 2 [(2, .ptr 0 6 0), (5, .int .i64 H), (6, .int .i64 C), (7, enc S), (9, enc P), (10, .int .i64 hs), (12, enc q), (13, .int .i64 a), (14, (.sl 2 b.Shares.length 0 b.Shares.length b.Shares.length 1)), (15, (.sl 3 b.Shares.length 0 b.Shares.length b.Shares.length 1)), (16, .int .i64 i), (17, .int .i64 (paysR b y))] (bkm b n0 n1 ++ [.vec (encL d), .vec (encL w)]) (True) ?_ (fun hp f m hc => ?_)
          · clear hI hv
            obtain ⟨Inv, hI⟩ : ∃ Inv : Nat → List (Nat × PV) → VM → Prop, ∀ j f m, Inv j f m ↔ (f = [(2, .ptr 0 6 0), (5, .int .i64 H), (6, .int .i64 C), (7, enc S), (9, enc P), (10, .int .i64 hs), (12, enc q), (13, .int .i64 a), (14, (.sl 2 b.Shares.length 0 b.Shares.length b.Shares.length 1)), (15, (.sl 3 b.Shares.length 0 b.Shares.length b.Shares.length 1)), (16, .int .i64 i), (17, .int .i64 (b.Fee + b.Rate * j)), (18, .int .i64 (y.Joined + j * b.Unit))] ∧ m = bkm b n0 n1 ++ [.vec (encL d), .vec (encL w)]) := ⟨_, fun _ _ _ => Iff.rfl⟩
            refine VW.loop_cut Inv N.toNat ?_ ?_ ?_
            · exact ⟨_, _, (hI _ _ _).2 ⟨rfl, rfl⟩, ⟨4, [], by simp [enc_list], by simp, by simp, by simp (implicitDefEqProofs := false) [enc_list], by simp (implicitDefEqProofs := false) [enc_list]⟩⟩
            · intro j f m hjN hi2
              obtain ⟨rfl, rfl⟩ := (hI _ _ _).1 hi2
              have hlt : y.Joined + j * b.Unit < y.Left := by have := (hspec j).2 (by omega); omega
              have hju : 0 ≤ (j : Int) * b.Unit := Int.mul_nonneg (by omega) (by omega)
              have hrj : 0 ≤ b.Rate * (j : Int) := Int.mul_nonneg (by omega) (by omega)
              have hrj2 : b.Rate * (j : Int) ≤ 100 * 432301 := Int.mul_le_mul (by omega) (by omega) (by omega) (by omega)
              have k1 : IntKind.i64.wrap (b.Fee + b.Rate * j + b.Rate) = b.Fee + b.Rate * ((j + 1 : Nat) : Int) := by
                rw [Int.natCast_add, Int.mul_add]
                rw [wrap64 (by omega) (by omega)]; simp; omega
              have k2 : IntKind.i64.wrap (y.Joined + j * b.Unit + b.Unit) = y.Joined + ((j + 1 : Nat) : Int) * b.Unit := by
                rw [Int.natCast_add, Int.add_mul]
                rw [wrap64 (by omega) (by omega)]; simp; omega
              refine VW.run good [] ?_; simp (implicitDefEqProofs := false) [enc_list, hi, hgS, hlt, k1, k2]
              exact ⟨_, _, (hI _ _ _).2 ⟨rfl, rfl⟩, ⟨4, [], by simp [enc_list], by simp, by simp, by simp (implicitDefEqProofs := false) [enc_list], by simp (implicitDefEqProofs := false) [enc_list]⟩⟩
            · intro f m hi2
              obtain ⟨rfl, rfl⟩ := (hI _ _ _).1 hi2
              have hlt : ¬ y.Joined + (N.toNat : Int) * b.Unit < y.Left := by
                intro h
                have := (hspec N.toNat).1 (by omega)
                omega
              have hNN : ((N.toNat : Nat) : Int) = N := by omega
              rw [hNN] at hlt
              refine VW.run good [] ?_; simp (implicitDefEqProofs := false) [enc_list, hi, hgS, hlt, hNN]
              rw [← hpay]
              exact ⟨4, [], by simp [enc_list], by simp, by simp, by simp (implicitDefEqProofs := false) [enc_list], by simp (implicitDefEqProofs := false) [enc_list]⟩
          · have k3 : IntKind.i64.wrap (a + paysR b y) = a + paysR b y := wrap64 (by omega) (by omega)
            have k4 : IntKind.i64.wrap (paysR b y * b.Shares[x.From.toNat]) = paysR b y * b.Shares[x.From.toNat] := wrap64 (by omega) (by omega)
            have k5 : IntKind.i64.wrap (d[x.From.toNat] + paysR b y * b.Shares[x.From.toNat]) = d[x.From.toNat] + paysR b y * b.Shares[x.From.toNat] := wrap64 (by omega) (by omega)
            have k6 : IntKind.i64.wrap (w[x.From.toNat] + 1) = w[x.From.toNat] + 1 := wrap64 (by omega) (by omega)
            simp (implicitDefEqProofs := false); refine .ofCut hc (VW.run good [] ?_); simp (implicitDefEqProofs := false) [enc_list, hi, hiq, hgq, fx1, fx2, hnp, ld, lw, hxle, get_Int _ _ hxn, at_Int _ _ hdn, at_Int _ _ hwn, splice_Int _ _ _ hdn, splice_Int _ _ _ hwn, k3, k4, k5, k6]
            refine VW.run good [] ?_; simp (implicitDefEqProofs := false) [enc_list, w1]
            refine ⟨_, _, (hI _ _ _).2 ⟨a + paysR b y, d.set x.From.toNat (d[x.From.toNat] + paysR b y * b.Shares[x.From.toNat]), w.set x.From.toNat (w[x.From.toNat] + 1), rfl, rfl, by simpa using ld, by simpa using lw, by omega, by omega, fun v hv => ?_, fun v hv => ?_, hcn⟩, ⟨4, [], by simp [enc_list], by simp, by simp, by simp (implicitDefEqProofs := false) [enc_list], by simp (implicitDefEqProofs := false) [enc_list]⟩⟩
            · rcases List.mem_or_eq_of_mem_set hv with hv | hv
              · have := dv v hv; omega
              · omega
            · rcases List.mem_or_eq_of_mem_set hv with hv | hv
              · have := wv v hv; omega
              · omega
      · intro f m hv
        obtain ⟨a, d, w, rfl, rfl, ld, lw, a1, a2, dv, wv, hcn⟩ := (hI _ _ _).1 hv
        rw [List.drop_length] at hcn
        have hz : coinL b (q.drop S.length) [] a d w = (a, d, w) := by cases q.drop S.length <;> rfl
        rw [hz] at hcn
        simp only [Prod.mk.injEq] at hcn
        obtain ⟨rfl, rfl, rfl⟩ := hcn
        have hSl : (S.length : Int) ≤ 12 := by omega
        refine VW.run good [] ?_; simp (implicitDefEqProofs := false) [enc_list]
        exact ⟨⟨fun v hv => by have := dv v hv; omega, fun v hv => by have := wv v hv; omega, a1, by omega⟩, ⟨4, [], by simp [enc_list], by simp, by simp, by simp (implicitDefEqProofs := false) [enc_list], by simp (implicitDefEqProofs := false) [enc_list]⟩⟩
    · obtain ⟨bd, bm, ba1, ba2⟩ := hp
      have hPb : ∀ v ∈ P, 0 ≤ v ∧ v ≤ 518762400 := fun v hv => by
        obtain ⟨k, hk, rfl⟩ := List.getElem_of_mem hv
        have hkd : k < du.length := by rw [hok.ld, ← hok.lp]; exact hk
        have hkm : k < mn.length := by rw [hok.lm, ← hok.lp]; exact hk
        have := hok.each k hk hkd hkm
        have := bd _ (List.getElem_mem hkd)
        omega
      simp (implicitDefEqProofs := false); refine .ofCut hc (VW.run good [] ?_); simp (implicitDefEqProofs := false) [enc_list]
      refine VW.loop_to 4 [(2, .ptr 0 6 0), (5, .int .i64 H), (6, .int .i64 C), (9, enc P), (10, .int .i64 hs), (13, .int .i64 al)] (bkm b n0 n1) (True) ?_ (fun hp f m hc => ?_)
      · obtain ⟨Inv, hI⟩ : ∃ Inv : Nat → List (Nat × PV) → VM → Prop, ∀ k f m, Inv k f m ↔ (f = [(2, .ptr 0 6 0), (5, .int .i64 H), (6, .int .i64 C), (9, enc P), (10, .int .i64 hs), (13, .int .i64 al), (14, (.sl 2 b.Shares.length 0 b.Shares.length b.Shares.length 1)), (15, (.sl 3 b.Shares.length 0 b.Shares.length b.Shares.length 1)), (19, .int .i64 k)] ∧ m = bkm b n0 n1 ++ [.vec (encL du), .vec (encL mn)]) := ⟨_, fun _ _ _ => Iff.rfl⟩
        refine VW.loop_cut Inv P.length ?_ ?_ ?_
        · exact ⟨_, _, (hI _ _ _).2 ⟨rfl, rfl⟩, ⟨4, [], by simp [enc_list], by simp, by simp, by simp (implicitDefEqProofs := false) [enc_list], by simp (implicitDefEqProofs := false) [enc_list]⟩⟩
        · intro k f m hk hv
          obtain ⟨rfl, rfl⟩ := (hI _ _ _).1 hv
          have hkd : k < du.length := by rw [hok.ld, ← hok.lp]; exact hk
          have hkm : k < mn.length := by rw [hok.lm, ← hok.lp]; exact hk
          have hkn : k < b.Shares.length := by rw [← hok.lp]; exact hk
          have hnp : 0 < b.Shares.length := by omega
          obtain ⟨e1, e2, e3, e4⟩ := hok.each k hk hkd hkm
          have := hPb _ (List.getElem_mem hk)
          have := bd _ (List.getElem_mem hkd)
          have := bm _ (List.getElem_mem hkm)
          have w1 : IntKind.i64.wrap ((k : Int) + 1) = k + 1 := wrap64 (by omega) (by omega)
          have w2 : IntKind.i64.wrap (100 * P[k]) = 100 * P[k] := wrap64 (by omega) (by omega)
          have w3 : IntKind.i64.wrap (99 * mn[k]) = 99 * mn[k] := wrap64 (by omega) (by omega)
          have w4 : IntKind.i64.wrap (du[k] - 99 * mn[k]) = du[k] - 99 * mn[k] := wrap64 (by omega) (by omega)
          have c1 : ¬ du[k] < 100 * P[k] := by omega
          have c2 : ¬ 100 * P[k] < du[k] - 99 * mn[k] := by omega
          have c3 : ¬ P[k] < 0 := by omega
          refine VW.run good [] ?_; simp (implicitDefEqProofs := false) [enc_list, hk, hkn, hnp, hok.ld, hok.lm, get_Int P k hk, at_Int du k hkd, at_Int mn k hkm, w1, w2, w3, w4, c1, c2, c3]
          exact ⟨_, _, (hI _ _ _).2 ⟨rfl, rfl⟩, ⟨4, [], by simp [enc_list], by simp, by simp, by simp (implicitDefEqProofs := false) [enc_list], by simp (implicitDefEqProofs := false) [enc_list]⟩⟩
        · intro f m hv
          obtain ⟨rfl, rfl⟩ := (hI _ _ _).1 hv
          refine VW.run good [] ?_; simp (implicitDefEqProofs := false) [enc_list]
          exact ⟨2, [], by simp [enc_list], by simp, by simp, by simp (implicitDefEqProofs := false) [enc_list], by simp (implicitDefEqProofs := false) [enc_list]⟩
      · have t1 : sumW P 0 = sumI P := by rw [sumW_eq P 0 518762400 (by omega) hPb (by have := hok.lp; omega)]; omega
        have t2 : sumW (List.replicate b.Shares.length 0) 0 = 0 := by
          have : ∀ n, sumW (List.replicate n 0) 0 = 0 := fun n => by induction n with
            | zero => rfl
            | succ n ih => rw [List.replicate_succ, sumW]; exact ih
          exact this _
        have t3 : IntKind.i64.wrap (sumI P + hs) = al := by rw [hok.sum]; exact wrap64 (by omega) (by omega)
        have t4 : 0 ≤ hs := hok.house
        simp (implicitDefEqProofs := false); refine .ofCut hc (VW.run good [] ?_); simp (implicitDefEqProofs := false) [enc_list, spliceV, show PayR ⟨b.Each, 0, 0, b.Unit, b.Shares, b.Hours⟩ H C = _ from hP', t1, t2, t3, t4]
  · refine VP.run (A := F12) (good) [] (by rw [hE]; rfl) (by simp [F12]) ?_; unfold F12; simp (implicitDefEqProofs := false) [enc_list, ho]
end Go.RS.CC

