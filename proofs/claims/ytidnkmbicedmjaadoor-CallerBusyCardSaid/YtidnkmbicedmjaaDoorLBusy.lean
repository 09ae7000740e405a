/- Walks: the laws: CallerBusy. -/
import Derived.Test.YtidnkmbicedmjaaDoorLwv
import Derived.Test.YtidnkmbicedmjaaDoorWkc
import Derived.Test.YtidnkmbicedmjaaDoorPlq
set_option linter.all false
namespace Go.RS.CC
open Go Go.RS
open Go.RS.Enc (enc dec)
variable {E : VEnv}
theorem busyP_spec (S : List Served) : ∀ (l : List Served) (r : Int × Int), 0 ≤ r.1 → r.1 ≤ (busyP S l r).1 ∧ (∀ s ∈ l, 0 ≤ s.Joined → (joinedR S s.Joined : Int) ≤ (busyP S l r).1) ∧
    (busyP S l r = r ∨ ∃ s ∈ l, 0 ≤ s.Joined ∧ busyP S l r = ((joinedR S s.Joined : Int), s.Joined) ∧ r.1 < (joinedR S s.Joined : Int))
  | [], r, h0 => ⟨Int.le_refl _, fun s hs => (by cases hs), .inl rfl⟩
  | x :: l, r, h0 => by
    rw [busyP]
    by_cases hx : 0 ≤ x.Joined ∧ r.1 < (joinedR S x.Joined : Int)
    · rw [if_pos hx]
      obtain ⟨g1, g2, g3⟩ := busyP_spec S l ((joinedR S x.Joined : Int), x.Joined) (by simp)
      simp only at g1
      refine ⟨by omega, fun s hs hj => ?_, .inr ?_⟩
      · rcases List.mem_cons.1 hs with rfl | hs
        · exact g1
        · exact g2 s hs hj
      · rcases g3 with g3 | ⟨s, hs, hj, e, g⟩
        · exact ⟨x, by simp, hx.1, g3, hx.2⟩
        · exact ⟨s, by simp [hs], hj, e, by simp only at g; omega⟩
    · rw [if_neg hx]
      obtain ⟨g1, g2, g3⟩ := busyP_spec S l r h0
      refine ⟨g1, fun s hs hj => ?_, ?_⟩
      · rcases List.mem_cons.1 hs with rfl | hs
        · omega
        · exact g2 s hs hj
      · rcases g3 with g3 | ⟨s, hs, hj, e, g⟩
        · exact .inl g3
        · exact .inr ⟨s, by simp [hs], hj, e, g⟩
/-- What is told is told first. -/
theorem busyP_first (S : List Served) : ∀ (l : List Served) (r : Int × Int), 0 ≤ r.1 → l.Pairwise inOrder → (∀ s ∈ l, 0 ≤ s.Joined → r.2 ≤ s.Joined) → ∀ s ∈ l, 0 ≤ s.Joined → (joinedR S s.Joined : Int) = (busyP S l r).1 → (busyP S l r).2 ≤ s.Joined
  | [], r, _, _, _, s, hs, _, _ => by cases hs
  | x :: l, r, h0, hp, hr, s, hs, hj, he => by
    obtain ⟨hx, hp⟩ := List.pairwise_cons.1 hp
    rw [busyP] at he ⊢
    by_cases hc : 0 ≤ x.Joined ∧ r.1 < (joinedR S x.Joined : Int)
    · rw [if_pos hc] at he ⊢
      have hr' : ∀ t ∈ l, 0 ≤ t.Joined → ((joinedR S x.Joined : Int), x.Joined).2 ≤ t.Joined := fun t ht htj => hx t ht hc.1 htj
      rcases List.mem_cons.1 hs with rfl | hs
      · obtain ⟨g1, g2, g3⟩ := busyP_spec S l ((joinedR S s.Joined : Int), s.Joined) (by simp)
        rcases g3 with g3 | ⟨t, ht, htj, e, g⟩
        · rw [g3]; exact Int.le_refl _
        · rw [e] at he; simp only at he g; omega
      · exact busyP_first S l _ (by simp) hp hr' s hs hj he
    · rw [if_neg hc] at he ⊢
      have hr' : ∀ t ∈ l, 0 ≤ t.Joined → r.2 ≤ t.Joined := fun t ht => hr t (by simp [ht])
      rcases List.mem_cons.1 hs with rfl | hs
      · obtain ⟨g1, g2, g3⟩ := busyP_spec S l r h0
        rcases g3 with g3 | ⟨t, ht, htj, e, g⟩
        · rw [g3]; exact hr s (by simp) hj
        · rw [e] at he; simp only at he; omega
      · exact busyP_first S l _ h0 hp hr' s hs hj he
theorem max_of : ∀ (l : List Served), l ≠ [] → ∃ x ∈ l, ∀ y ∈ l, y.Joined ≤ x.Joined
  | [], h => absurd rfl h
  | [x], _ => ⟨x, by simp, fun y hy => by simp only [List.mem_singleton] at hy; subst hy; exact Int.le_refl _⟩
  | x :: y :: l, _ => by
    obtain ⟨m, hm, hx⟩ := max_of (y :: l) (by simp)
    by_cases hc : m.Joined ≤ x.Joined
    · refine ⟨x, by simp, fun z hz => ?_⟩
      rcases List.mem_cons.1 hz with rfl | hz
      · exact Int.le_refl _
      · have := hx z hz; omega
    · refine ⟨m, by simp [hm], fun z hz => ?_⟩
      rcases List.mem_cons.1 hz with rfl | hz
      · omega
      · exact hx z hz
/-- Whenever calls are joined, as many were when one just was. -/
theorem peak (S : List Served) (t : Int) (h : joinedR S t ≠ 0) : ∃ s ∈ S, 0 ≤ s.Joined ∧ s.Joined ≤ t ∧ joinedR S t ≤ joinedR S s.Joined := by
  rw [joinedR_len] at h
  obtain ⟨x, hx, hm⟩ := max_of (S.filter (onAt t)) (fun h0 => h (by rw [h0]; rfl))
  rw [List.mem_filter] at hx
  have hx2 := hx.2
  simp only [onAt, Bool.and_eq_true, decide_eq_true_eq] at hx2
  refine ⟨x, hx.1, hx2.1.1, hx2.1.2, ?_⟩
  unfold joinedR
  refine List.countP_mono_left fun y hy hp => ?_
  have := hm y (List.mem_filter.2 ⟨hy, hp⟩)
  simp only [Bool.and_eq_true, decide_eq_true_eq] at hp ⊢
  omega
theorem pair_order {each ch : Int} {q : List Call} {S : List Served} (s : Sched each ch q S) : S.Pairwise inOrder := by
  rw [List.pairwise_iff_getElem]
  intro i j hi hj hij h1 h2
  exact s.order hj hi hij h1 h2
set_option maxHeartbeats 3200000 in
set_option maxRecDepth 20000 in
theorem l_Busy (hE : E.env.fn = G) (hW : WorksOk E) (b : Book) (n0 n1 n2 : Int) : VP E 11 [enc b, .agg [.int .i64 n0, .int .i64 n1, .int .i64 n2]] (.bool true) := by
  have good := goodV_cons (w_sound hE) (goodV_cons (w_works hW) (goodV_cons (w_hourly hE) (goodV_cons (w_ServeP hE) (goodV_cons (w_BusyP hE) (goodV_cons (w_LostP hE) (goodV_cons (w_Lies hE) (goodV_cons (w_during hE) (goodV_cons (w_SameServed hE) (goodV_cons (w_Rest hE) goodV_nil)))))))))
  by_cases ho : okR b = true
  · have bo := okR_ok ho
    obtain ⟨H, C, q, S, pk⟩ := pick_of ho n0 n1
    have hl1 := bo.h1
    have hS := pk.serve
    have hl := pk.len
    have h12 := pk.l12
    have c1 := pk.c1
    have c2 := pk.c2
    have hB : BusyPR b H C = (if (busyP S S (0, 0)).1 = 0 then ⟨0, 0, 4⟩ else ⟨(busyP S S (0, 0)).1, (busyP S S (0, 0)).2, 0⟩) := by unfold BusyPR; rw [if_pos pk.ask, hS]
    obtain ⟨g1, g2, g3⟩ := busyP_spec S S (0, 0) (by simp)
    have gf := busyP_first S S (0, 0) (by simp) (pair_order pk.sched) (fun s _ h => h)
    by_cases hz : q.length = 0
    · have hSn : S = [] := List.eq_nil_of_length_eq_zero (by omega)
      have hB0 : BusyPR b H C = ⟨0, 0, 4⟩ := by rw [hB, hSn]; rfl
      refine VP.run (A := F11) (good) [] (by rw [hE]; rfl) (by simp [F11]) ?_; unfold F11; simp (implicitDefEqProofs := false) [enc_list, spliceV, ho, hl1, pk.h, pk.c, hS, hB0, pk.gl, pk.h0, pk.h1, hz]
    · have hi0 : 0 < S.length := by omega
      have hj0 : 0 ≤ S[0].Joined := by
        by_cases hj : S[0].Joined < 0
        · have hq0 : 0 < q.length := by omega
          obtain ⟨x1, x2, x3, x4, _⟩ := pk.sched.rng _ (List.getElem_mem hq0)
          have := (pk.sched.gave hq0 hi0 hj).full q[0].At (by omega) (by omega) 0 (by omega)
          simp [isFree] at this
        · omega
      have hb0 := pk.sched.left_b (i := 0) (by omega) hi0 hj0
      have hm1 : 1 ≤ (joinedR S S[0].Joined : Int) := by
        have : 0 < joinedR S S[0].Joined := by
          unfold joinedR
          exact List.countP_pos_iff.2 ⟨S[0], List.getElem_mem hi0, by simp only [Bool.and_eq_true, decide_eq_true_eq]; exact ⟨⟨hj0, Int.le_refl _⟩, hb0.1⟩⟩
        omega
      have hm2 := g2 _ (List.getElem_mem hi0) hj0
      obtain ⟨s, hs, hsj, he, _⟩ : ∃ s ∈ S, 0 ≤ s.Joined ∧ busyP S S (0, 0) = ((joinedR S s.Joined : Int), s.Joined) ∧ (0 : Int) < joinedR S s.Joined := by
        rcases g3 with g3 | g3
        · rw [g3] at hm2; simp only at hm2; omega
        · exact g3
      rw [he] at g2 gf hm2 hB
      simp only at g2 gf hm2 hB
      have hne : ¬ (joinedR S s.Joined : Int) = 0 := by omega
      rw [if_neg hne] at hB
      have hmC : (joinedR S s.Joined : Int) ≤ C := by have := pk.sched.joined_le s.Joined; omega
      have wl : wi (joinedR S s.Joined) 1 C = true := (wi_iff _ _ _).2 ⟨by omega, hmC⟩
      have a0 := Int.emod_nonneg n2 (show (7198 : Int) ≠ 0 by omega)
      have a1 := Int.emod_lt_of_pos n2 (show (0 : Int) < 7198 by omega)
      have hr : restF n2 7198 = some (n2 % 7198) := if_pos ⟨by omega, by omega⟩
      obtain ⟨t, ht⟩ : ∃ t, n2 % 7198 = t := ⟨_, rfl⟩
      have hnow : joinedR S t ≤ joinedR S s.Joined ∧ (joinedR S t = joinedR S s.Joined → s.Joined ≤ t) := by
        by_cases h0 : joinedR S t = 0
        · exact ⟨by omega, fun h => by omega⟩
        · obtain ⟨x, hx, hxj, hxt, hle⟩ := peak S t h0
          have := g2 x hx hxj
          refine ⟨by omega, fun h => ?_⟩
          have := gf x hx hxj (by omega)
          omega
      have n1' : ¬ joinedR S s.Joined < joinedR S t := by omega
      have hL : LostR b H C = (lostL 0 S, 0) := by unfold LostR; rw [hS]; rfl
      have haM := asked_of ho (C := (joinedR S s.Joined : Int)) pk.h0 pk.h1 (by omega) (by omega)
      have hsame : lostL 0 S = [] → ServeR b H (joinedR S s.Joined) = (S, 0) := fun h0 => by
        have hn := joined_of_lost S 0 (by rw [h0]; rfl)
        have := pk.sched.fewer hn hmC (fun i hi => g2 _ (List.getElem_mem hi) (hn _ (List.getElem_mem hi)))
        rw [ServeR, if_pos haM, pk.hour, this]
      generalize lostL 0 S = L at *
      obtain ⟨hnow1, hnow2⟩ := hnow
      by_cases hLz : L = []
      · have hsv := hsame hLz
        generalize hM : joinedR S s.Joined = M at *
        by_cases heq : joinedR S t = M
        · have n2' : ¬ t < s.Joined := by have := hnow2 heq; omega
          refine VP.run (A := F11) (good) [] (by rw [hE]; rfl) (by simp [F11]) ?_; unfold F11; simp (implicitDefEqProofs := false) [enc_list, spliceV, ho, hl1, pk.h, pk.c, hS, hB, pk.gl, pk.h0, pk.h1, wl, hr, ht, hM, n1', heq, n2', hL, hLz, hsv]
        · refine VP.run (A := F11) (good) [] (by rw [hE]; rfl) (by simp [F11]) ?_; unfold F11; simp (implicitDefEqProofs := false) [enc_list, spliceV, ho, hl1, pk.h, pk.c, hS, hB, pk.gl, pk.h0, pk.h1, wl, hr, ht, hM, n1', heq, hL, hLz, hsv]
      · have hLp : 0 < L.length := by
          cases L with
          | nil => exact absurd rfl hLz
          | cons _ _ => simp
        generalize hM : joinedR S s.Joined = M at *
        by_cases heq : joinedR S t = M
        · have n2' : ¬ t < s.Joined := by have := hnow2 heq; omega
          refine VP.run (A := F11) (good) [] (by rw [hE]; rfl) (by simp [F11]) ?_; unfold F11; simp (implicitDefEqProofs := false) [enc_list, spliceV, ho, hl1, pk.h, pk.c, hS, hB, pk.gl, pk.h0, pk.h1, wl, hr, ht, hM, n1', heq, n2', hL, hLp]
        · refine VP.run (A := F11) (good) [] (by rw [hE]; rfl) (by simp [F11]) ?_; unfold F11; simp (implicitDefEqProofs := false) [enc_list, spliceV, ho, hl1, pk.h, pk.c, hS, hB, pk.gl, pk.h0, pk.h1, wl, hr, ht, hM, n1', heq, hL, hLp]
  · refine VP.run (A := F11) (good) [] (by rw [hE]; rfl) (by simp [F11]) ?_; unfold F11; simp (implicitDefEqProofs := false) [enc_list, ho]
end Go.RS.CC

