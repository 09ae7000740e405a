/- Walks: the laws: CallerWhich. -/
import Derived.Test.YtidnkmbicedmjaaDoorLwv
import Derived.Test.YtidnkmbicedmjaaDoorWkd
import Derived.Test.YtidnkmbicedmjaaDoorPlq
set_option linter.all false
namespace Go.RS.CC
open Go Go.RS
open Go.RS.Enc (enc dec)
variable {E : VEnv}
theorem mem_whL (t : Int → Bool) : ∀ (n : Nat) (c x : Int), x ∈ whL t n c ↔ c ≤ x ∧ x < c + n ∧ t x = true
  | 0, c, x => by simp [whL]; omega
  | n + 1, c, x => by
    rw [whL, List.mem_append, mem_whL t n (c + 1) x]
    constructor
    · rintro (h | ⟨h1, h2, h3⟩)
      · split at h
        · rename_i ht
          simp only [List.mem_singleton] at h
          subst h
          exact ⟨by omega, by omega, ht⟩
        · cases h
      · exact ⟨by omega, by omega, h3⟩
    · rintro ⟨h1, h2, h3⟩
      by_cases hx : x = c
      · subst hx
        exact .inl (by rw [if_pos h3]; simp)
      · exact .inr ⟨by omega, by omega, h3⟩
theorem climbs_whL (t : Int → Bool) (below : Int) (hb : below ≤ 1000000) : ∀ (n : Nat) (c least : Int), 0 ≤ c → least ≤ c → c + n ≤ below → climbsR below least (whL t n c) = true
  | 0, c, least, _, _, _ => rfl
  | n + 1, c, least, h0, h1, h2 => by
    rw [whL]
    split
    · have w1 : IntKind.i64.wrap (below - 1) = below - 1 := wrap64 (by omega) (by omega)
      have w2 : IntKind.i64.wrap (c + 1) = c + 1 := wrap64 (by omega) (by omega)
      rw [List.singleton_append, climbsR, w1, w2, (wi_iff _ _ _).2 ⟨h1, by omega⟩, climbs_whL t below hb n (c + 1) (c + 1) (by omega) (by omega) (by omega)]
      rfl
    · exact climbs_whL t below hb n (c + 1) least (by omega) (by omega) (by omega)
set_option maxHeartbeats 1600000 in
set_option maxRecDepth 20000 in
theorem l_Which (hE : E.env.fn = G) (hW : WorksOk E) (b : Book) (n0 n1 n2 : Int) : VP E 14 [enc b, .agg [.int .i64 n0, .int .i64 n1, .int .i64 n2]] (.bool true) := by
  have good := goodV_cons (w_sound hE) (goodV_cons (w_works hW) (goodV_cons (w_hourly hE) (goodV_cons (w_ServeP hE) (goodV_cons (w_counted hE) (goodV_cons (w_WhichP hE) (goodV_cons (w_Climbs hE) (goodV_cons (w_Find hE) (goodV_cons (w_Rest hE) goodV_nil))))))))
  by_cases ho : okR b = true
  · have bo := okR_ok ho
    obtain ⟨H, C, q, S, pk⟩ := pick_of ho n0 n1
    have hl1 := bo.h1
    have hS := pk.serve
    have hl := pk.len
    have h12 := pk.l12
    have c1 := pk.c1
    have c2 := pk.c2
    have a0 := Int.emod_nonneg n2 (show (20 : Int) ≠ 0 by omega)
    have a1 := Int.emod_lt_of_pos n2 (show (0 : Int) < 20 by omega)
    have hr : restF n2 20 = some (n2 % 20) := if_pos ⟨by omega, by omega⟩
    obtain ⟨D, hD⟩ : ∃ D, 1 + n2 % 20 = D := ⟨_, rfl⟩
    have d1 : 1 ≤ D ∧ D ≤ 20 := by omega
    have w1 : IntKind.i64.wrap D = D := wrap64 (by omega) (by omega)
    have haD := asked_of ho pk.h0 pk.h1 d1.1 d1.2
    have ha1 := asked_of ho (C := 1) pk.h0 pk.h1 (by omega) (by omega)
    have hT : ServeR b H D = (serveR b.Each D [] q, 0) := by rw [ServeR, if_pos haD, pk.hour]
    have okT : ∀ s ∈ serveR b.Each D [] q, SvOk s := fun s hs => by
      rcases serveR_mem hs with hs | ⟨x, hx, o, rfl⟩
      · cases hs
      · exact oneR_ok bo.e1 bo.e2 (bo.hc _ pk.mem x hx).1
    have lT : (serveR b.Each D [] q).length = q.length := by rw [serveR_len]; simp
    have cS : countedF S = some (cntL S 0 0) := if_pos ⟨by omega, pk.ok⟩
    have cT : countedF (serveR b.Each D [] q) = some (cntL (serveR b.Each D [] q) 0 0) := if_pos ⟨by omega, okT⟩
    have hWh : WhichR b H (cntL S 0 0).1 (cntL S 0 0).2 = (whL (testR b q (cntL S 0 0).1 (cntL S 0 0).2) 20 1, 0) := by
      unfold WhichR; rw [if_pos ha1, pk.hour]
    have tC : testR b q (cntL S 0 0).1 (cntL S 0 0).2 C = true := by
      unfold testR; rw [pk.eq]; simp
    have tD : testR b q (cntL S 0 0).1 (cntL S 0 0).2 D = (decide ((cntL S 0 0).1 = (cntL (serveR b.Each D [] q) 0 0).1) && decide ((cntL S 0 0).2 = (cntL (serveR b.Each D [] q) 0 0).2)) := by
      unfold testR
      rw [Bool.eq_iff_iff]
      simp only [Bool.and_eq_true, decide_eq_true_eq]
      constructor <;> rintro ⟨x, y⟩ <;> exact ⟨x.symm, y.symm⟩
    generalize serveR b.Each D [] q = T at *
    generalize cntL S 0 0 = K at *
    generalize cntL T 0 0 = K' at *
    obtain ⟨k1, k2⟩ := K
    obtain ⟨k1', k2'⟩ := K'
    simp only at hWh tC tD
    have fC : 0 ≤ findR C 0 (whL (testR b q k1 k2) 20 1) := (find_nneg _ _ _).2 ((mem_whL _ _ _ _).2 ⟨by omega, by omega, tC⟩)
    have fD : (0 ≤ findR D 0 (whL (testR b q k1 k2) 20 1)) = (k1 = k1' ∧ k2 = k2') := by
      apply propext
      rw [find_nneg, mem_whL, tD]
      simp only [Bool.and_eq_true, decide_eq_true_eq]
      constructor
      · exact fun h => h.2.2
      · exact fun h => ⟨by omega, by omega, h⟩
    have cl := climbs_whL (testR b q k1 k2) 21 (by omega) 20 1 0 (by omega) (by omega) (by omega)
    generalize whL (testR b q k1 k2) 20 1 = W at *
    refine VP.run (A := F14) (good) [] (by rw [hE]; rfl) (by simp [F14]) ?_; unfold F14; simp (implicitDefEqProofs := false) [enc_list, spliceV, ho, hl1, pk.h, pk.c, hS, hr, w1, hD, hT, cS, cT, hWh, fC, fD, cl]
    by_cases e1 : k1 = k1'
    · simp (implicitDefEqProofs := false) [enc_list, e1]
    · simp (implicitDefEqProofs := false) [enc_list, e1]
  · refine VP.run (A := F14) (good) [] (by rw [hE]; rfl) (by simp [F14]) ?_; unfold F14; simp (implicitDefEqProofs := false) [enc_list, ho]
end Go.RS.CC

