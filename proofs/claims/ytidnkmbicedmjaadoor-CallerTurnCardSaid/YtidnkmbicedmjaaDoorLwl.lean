/- Walks: the laws: CallerTurn. -/
import Derived.Test.YtidnkmbicedmjaaDoorLwv
set_option linter.all false
namespace Go.RS.CC
open Go Go.RS
open Go.RS.Enc (enc dec)
variable {E : VEnv}
/-- What is so of each call. -/
structure TurnOk (q : List Call) (S : List Served) (C : Int) (i : Nat) (x : Call) (y : Served) : Prop where
  rng : callRng x
  neg : y.Joined < 0 → y = givenP x
  lo : 0 ≤ y.Joined → x.At ≤ y.Joined ∧ y.Joined ≤ x.At + x.Wait ∧ 0 ≤ y.Channel ∧ y.Channel ≤ C - 1 ∧ y.Joined < y.Left ∧ y.Left ≤ y.Joined + 359
  full : ∀ a, x.At ≤ a → a < (if y.Joined < 0 then x.At + x.Wait + 1 else y.Joined) → (joinedR (S.take i) a : Int) = C
theorem turn_ok {each C : Int} {q : List Call} {S : List Served} (s : Sched each C q S) (c1 : 1 ≤ C) {i : Nat} (hi : i < S.length) (hq : i < q.length) : TurnOk q S C i q[i] S[i] := by
  have hord : ∀ a, q[i].At ≤ a → ∀ (k : Nat) (hk : k < q.length), k < i → q[k].At ≤ a := fun a ha k hk hki => by
    have := s.ord k i hk hq (by omega); omega
  refine ⟨s.rng _ (List.getElem_mem hq), fun hj => (s.gave hq hi hj).eq, fun hj => ?_, fun a h1 h2 => ?_⟩
  · obtain ⟨c, h⟩ := s.joined hq hi hj
    obtain ⟨b1, b2⟩ := s.left_b hq hi hj
    have := h.lo
    have := h.hi
    have := h.chan
    have := h.clt
    omega
  · have : joinedR (S.take i) a = C.toNat := by
      refine s.full (by omega) (hord a h1) fun c hc => ?_
      by_cases hj : S[i].Joined < 0
      · rw [if_pos hj] at h2
        exact (s.gave hq hi hj).full a h1 (by omega) c hc
      · rw [if_neg hj] at h2
        obtain ⟨d, h⟩ := s.joined hq hi (by omega)
        exact h.full a h1 h2 c hc
    omega
set_option maxHeartbeats 1600000 in
theorem l_Turn (hE : E.env.fn = G) (hW : WorksOk E) (b : Book) (n0 n1 n2 : Int) : VP E 7 [enc b, .agg [.int .i64 n0, .int .i64 n1, .int .i64 n2]] (.bool true) := by
  have good := goodV_cons (w_sound hE) (goodV_cons (w_works hW) (goodV_cons (w_hourly hE) (goodV_cons (w_ServeP hE) (goodV_cons (w_served hE) (goodV_cons (w_Lies hE) (goodV_cons (w_Rest hE) (goodV_cons (w_during hE) goodV_nil)))))))
  by_cases ho : okR b = true
  · have bo := okR_ok ho
    obtain ⟨H, C, q, S, pk⟩ := pick_of ho n0 n1
    have hl1 := bo.h1
    have hS := pk.serve
    have hl := pk.len
    have hne : ¬ S.length ≠ q.length := by omega
    refine VP.run (A := F7) (good) [] (by rw [hE]; rfl) (by simp [F7]) ?_; unfold F7; simp (implicitDefEqProofs := false) [enc_list, spliceV, ho, hl1, pk.h, pk.c, hS, pk.gl, pk.h0, pk.h1, hl]
    have hq12 := pk.l12
    have c1 := pk.c1
    have c2 := pk.c2
    refine VW.loop_to 0 [] [] (True) ?_ (fun hp f m hc => ?_)
    · obtain ⟨Inv, hI⟩ : ∃ Inv : Nat → List (Nat × PV) → VM → Prop, ∀ i f m, Inv i f m ↔ (∃ last : Int, f = [(2, .ptr 0 6 0), (3, .ptr 1 3 0), (6, .int .i64 C), (7, enc S), (9, enc q), (10, .int .i64 last), (11, .int .i64 i)] ∧ m = [bkc b, .cells [.int .i64 n0, .int .i64 n1, .int .i64 n2]] ∧ 0 ≤ last ∧ (last = 0 ∨ ∃ k, ∃ hk : k < S.length, k < i ∧ 0 ≤ S[k].Joined ∧ S[k].Joined = last)) := ⟨_, fun _ _ _ => Iff.rfl⟩
      refine VW.loop_cut Inv S.length ?_ ?_ ?_
      · exact ⟨_, _, (hI _ _ _).2 ⟨0, rfl, rfl, by omega, .inl rfl⟩, ⟨2, [], by simp [enc_list,  hl], by simp, by simp, by simp (implicitDefEqProofs := false) [enc_list,  hl], by simp (implicitDefEqProofs := false) [enc_list,  hl]⟩⟩
      · intro i f m hi hv
        obtain ⟨last, rfl, rfl, hl0, hlast⟩ := (hI _ _ _).1 hv
        have hiq : i < q.length := by omega
        have w1 : IntKind.i64.wrap ((i : Int) + 1) = i + 1 := wrap64 (by omega) (by omega)
        have tok := turn_ok pk.sched c1 hi hiq
        have hle : 0 ≤ S[i].Joined → last ≤ S[i].Joined := fun hj => by
          rcases hlast with h | ⟨k, hk, hki, k1, k2⟩
          · omega
          · have := pk.sched.order hi hk hki k1 hj; omega
        have hbeh : ∀ (k : Nat) (hk : k < S.length), k < i → S[k].Channel = S[i].Channel → 0 ≤ S[i].Joined → S[k].Left ≤ S[i].Joined := fun k hk hki hc hj =>
          pk.sched.behind hi hk hki hc (tok.lo hj).2.2.1
        generalize hx : q[i] = x at *
        generalize hy : S[i] = y at *
        obtain ⟨⟨x1, x2, x3, x4, x5, x6⟩, tneg, tlo, tfull⟩ := tok
        have w2 : IntKind.i64.wrap (x.At + x.Wait) = x.At + x.Wait := wrap64 (by omega) (by omega)
        have w3 : IntKind.i64.wrap (x.At + x.Wait + 1) = x.At + x.Wait + 1 := wrap64 (by omega) (by omega)
        obtain ⟨U, hU⟩ : ∃ U, (if y.Joined < 0 then x.At + x.Wait + 1 else y.Joined) = U := ⟨_, rfl⟩
        obtain ⟨L2, hL2⟩ : ∃ L2, (if 0 ≤ y.Joined then y.Joined else last) = L2 := ⟨_, rfl⟩
        rw [hU] at tfull
        obtain ⟨D, hD⟩ : ∃ D, (if 1 < U - x.At then U - x.At else 1) = D := ⟨_, rfl⟩
        have hU2 : x.At ≤ U ∧ U ≤ 7200 := by
          by_cases hj : y.Joined < 0
          · rw [if_pos hj] at hU; omega
          · rw [if_neg hj] at hU; have := tlo (by omega); omega
        have hD1 : 1 ≤ D ∧ D ≤ 7200 := by split at hD <;> omega
        have a0 := Int.emod_nonneg n2 (show D ≠ 0 by omega)
        have a1 := Int.emod_lt_of_pos n2 (show 0 < D by omega)
        have v0 : restF n2 D = some (n2 % D) := if_pos ⟨by omega, by omega⟩
        obtain ⟨A, hA⟩ : ∃ A, x.At + n2 % D = A := ⟨_, rfl⟩
        have v1 : IntKind.i64.wrap (U - x.At) = U - x.At := wrap64 (by omega) (by omega)
        have v2 : IntKind.i64.wrap (x.At + n2 % D) = A := by rw [hA]; exact wrap64 (by omega) (by omega)
        refine VW.seq (VW.run good [] ?_); simp (implicitDefEqProofs := false) [enc_list, hi]
        refine VW.seq (VW.block ?_)
        refine VW.seq_cut [(2, .ptr 0 6 0), (3, .ptr 1 3 0), (6, .int .i64 C), (7, enc S), (9, enc q), (10, .int .i64 last), (11, .int .i64 i), (12, .ptr 2 4 0), (13, .ptr 3 3 0)] [bkc b, .cells [.int .i64 n0, .int .i64 n1, .int .i64 n2], .cells (El.cells x), .cells (El.cells y)] (VW.run good [] ?_) ?_; simp (implicitDefEqProofs := false) [enc_list, hi, hiq, get_Call q i hiq, get_Served S i hi, hx, hy, spliceV]
        · exact ⟨4, [], by simp [enc_list], by simp, by simp, by simp (implicitDefEqProofs := false) [enc_list], by simp (implicitDefEqProofs := false) [enc_list]⟩
        refine VW.seq_cut [(2, .ptr 0 6 0), (3, .ptr 1 3 0), (6, .int .i64 C), (7, enc S), (9, enc q), (10, .int .i64 last), (11, .int .i64 i), (12, .ptr 2 4 0), (13, .ptr 3 3 0), (14, .int .i64 y.Joined)] [bkc b, .cells [.int .i64 n0, .int .i64 n1, .int .i64 n2], .cells (El.cells x), .cells (El.cells y)] (VW.run good [] ?_) ?_; simp (implicitDefEqProofs := false) [enc_list]
        · exact ⟨4, [], by simp [enc_list], by simp, by simp, by simp (implicitDefEqProofs := false) [enc_list], by simp (implicitDefEqProofs := false) [enc_list]⟩
        refine VW.seq_cut [(2, .ptr 0 6 0), (3, .ptr 1 3 0), (6, .int .i64 C), (7, enc S), (9, enc q), (10, .int .i64 last), (11, .int .i64 i), (12, .ptr 2 4 0), (13, .ptr 3 3 0), (14, .int .i64 U)] [bkc b, .cells [.int .i64 n0, .int .i64 n1, .int .i64 n2], .cells (El.cells x), .cells (El.cells y)] (VW.run good [] ?_) ?_; simp (implicitDefEqProofs := false) [enc_list]
        · by_cases hj : y.Joined < 0
          · have e1 : y.Joined = -1 := by rw [tneg hj]; rfl
            have e2 : y.Left = x.At + x.Wait := by rw [tneg hj]; rfl
            have e3 : y.Channel = -1 := by rw [tneg hj]; rfl
            rw [if_pos hj] at hU
            simp (implicitDefEqProofs := false) [enc_list, e1, e2, e3, w2, w3, ← hU]
            exact ⟨4, [], by simp [enc_list,  e1, e2, e3], by simp, by simp, by simp (implicitDefEqProofs := false) [enc_list,  e1, e2, e3], by simp (implicitDefEqProofs := false) [enc_list,  e1, e2, e3]⟩
          · obtain ⟨y1, y2, y3, y4, y5, y6⟩ := tlo (by omega)
            rw [if_neg hj] at hU
            have u1 : ¬ y.Joined < last := by have := hle (by omega); omega
            have u2 : wi y.Joined x.At (x.At + x.Wait) = true := (wi_iff _ _ _).2 ⟨y1, y2⟩
            have u3 : wi y.Channel 0 (C - 1) = true := (wi_iff _ _ _).2 ⟨y3, y4⟩
            have u4 : ¬ y.Left ≤ y.Joined := by omega
            have u5 : ¬ y.Joined + 360 < y.Left := by omega
            have u6 : IntKind.i64.wrap (C - 1) = C - 1 := wrap64 (by omega) (by omega)
            have u7 : IntKind.i64.wrap (y.Joined + 360) = y.Joined + 360 := wrap64 (by omega) (by omega)
            simp (implicitDefEqProofs := false) [enc_list, hj, w2, u1, u2, u3, u4, u5, u6, u7]
            rw [← hU]
            exact ⟨4, [], by simp [enc_list], by simp, by simp, by simp (implicitDefEqProofs := false) [enc_list], by simp (implicitDefEqProofs := false) [enc_list]⟩
        refine VW.seq_cut [(2, .ptr 0 6 0), (3, .ptr 1 3 0), (6, .int .i64 C), (7, enc S), (9, enc q), (10, .int .i64 L2), (11, .int .i64 i), (12, .ptr 2 4 0), (13, .ptr 3 3 0), (14, .int .i64 U)] [bkc b, .cells [.int .i64 n0, .int .i64 n1, .int .i64 n2], .cells (El.cells x), .cells (El.cells y)] (VW.run good [] ?_) ?_; simp (implicitDefEqProofs := false) [enc_list]
        · by_cases hj : 0 ≤ y.Joined
          · rw [if_pos hj] at hL2
            simp (implicitDefEqProofs := false) [enc_list, hj, ← hL2]
            exact ⟨4, [], by simp [enc_list], by simp, by simp, by simp (implicitDefEqProofs := false) [enc_list], by simp (implicitDefEqProofs := false) [enc_list]⟩
          · rw [if_neg hj] at hL2
            simp (implicitDefEqProofs := false) [enc_list, hj, ← hL2]
            exact ⟨4, [], by simp [enc_list], by simp, by simp, by simp (implicitDefEqProofs := false) [enc_list], by simp (implicitDefEqProofs := false) [enc_list]⟩
        have hil : i ≤ S.length := by omega
        refine VW.seq_cut [(2, .ptr 0 6 0), (3, .ptr 1 3 0), (6, .int .i64 C), (7, enc S), (9, enc q), (10, .int .i64 L2), (11, .int .i64 i), (12, .ptr 2 4 0), (13, .ptr 3 3 0)] [bkc b, .cells [.int .i64 n0, .int .i64 n1, .int .i64 n2], .cells (El.cells x), .cells (El.cells y)] (VW.run good [] ?_) ?_; simp (implicitDefEqProofs := false) [enc_list, v1, hD, v0, v2]
        · by_cases hAU : A < U
          · have hf := tfull A (by omega) hAU
            simp (implicitDefEqProofs := false) [enc_list, hAU, slV_hi hil, take_Served, hil, hf]
            exact ⟨4, [], by simp [enc_list], by simp, by simp, by simp (implicitDefEqProofs := false) [enc_list], by simp (implicitDefEqProofs := false) [enc_list]⟩
          · simp (implicitDefEqProofs := false) [enc_list, hAU]
            exact ⟨4, [], by simp [enc_list], by simp, by simp, by simp (implicitDefEqProofs := false) [enc_list], by simp (implicitDefEqProofs := false) [enc_list]⟩
        refine VW.run good [] ?_; simp (implicitDefEqProofs := false) [enc_list]
        refine VW.loop_to 2 [(2, .ptr 0 6 0), (3, .ptr 1 3 0), (6, .int .i64 C), (7, enc S), (9, enc q), (10, .int .i64 L2), (11, .int .i64 i)] [bkc b, .cells [.int .i64 n0, .int .i64 n1, .int .i64 n2]] (True) ?_ (fun hp f m hc => ?_)
        · clear hI hv
          obtain ⟨Inv, hI⟩ : ∃ Inv : Nat → List (Nat × PV) → VM → Prop, ∀ k f m, Inv k f m ↔ (f = [(2, .ptr 0 6 0), (3, .ptr 1 3 0), (6, .int .i64 C), (7, enc S), (9, enc q), (10, .int .i64 L2), (11, .int .i64 i), (12, .ptr 2 4 0), (13, .ptr 3 3 0), (16, .int .i64 k)] ∧ m = [bkc b, .cells [.int .i64 n0, .int .i64 n1, .int .i64 n2], .cells (El.cells x), .cells (El.cells y)]) := ⟨_, fun _ _ _ => Iff.rfl⟩
          refine VW.loop_cut Inv i ?_ ?_ ?_
          · exact ⟨_, _, (hI _ _ _).2 ⟨rfl, rfl⟩, ⟨4, [], by simp [enc_list], by simp, by simp, by simp (implicitDefEqProofs := false) [enc_list], by simp (implicitDefEqProofs := false) [enc_list]⟩⟩
          · intro k f m hki hi2
            obtain ⟨rfl, rfl⟩ := (hI _ _ _).1 hi2
            have hk : k < S.length := by omega
            have w4 : IntKind.i64.wrap ((k : Int) + 1) = k + 1 := wrap64 (by omega) (by omega)
            by_cases hj : 0 ≤ y.Joined
            · by_cases hc : S[k].Channel = y.Channel
              · have hb2 : ¬ y.Joined < S[k].Left := by have := hbeh k hk hki hc hj; omega
                refine VW.run good [] ?_; simp (implicitDefEqProofs := false) [enc_list, hki, hk, get_Served S k hk, hj, hc, hb2, w4]
                exact ⟨_, _, (hI _ _ _).2 ⟨rfl, rfl⟩, ⟨4, [], by simp [enc_list], by simp, by simp, by simp (implicitDefEqProofs := false) [enc_list], by simp (implicitDefEqProofs := false) [enc_list]⟩⟩
              · refine VW.run good [] ?_; simp (implicitDefEqProofs := false) [enc_list, hki, hk, get_Served S k hk, hj, hc, w4]
                exact ⟨_, _, (hI _ _ _).2 ⟨rfl, rfl⟩, ⟨4, [], by simp [enc_list], by simp, by simp, by simp (implicitDefEqProofs := false) [enc_list], by simp (implicitDefEqProofs := false) [enc_list]⟩⟩
            · refine VW.run good [] ?_; simp (implicitDefEqProofs := false) [enc_list, hki, hk, get_Served S k hk, hj, w4]
              exact ⟨_, _, (hI _ _ _).2 ⟨rfl, rfl⟩, ⟨4, [], by simp [enc_list], by simp, by simp, by simp (implicitDefEqProofs := false) [enc_list], by simp (implicitDefEqProofs := false) [enc_list]⟩⟩
          · intro f m hi2
            obtain ⟨rfl, rfl⟩ := (hI _ _ _).1 hi2
            refine VW.run good [] ?_; simp (implicitDefEqProofs := false) [enc_list]
            exact ⟨2, [], by simp [enc_list], by simp, by simp, by simp (implicitDefEqProofs := false) [enc_list], by simp (implicitDefEqProofs := false) [enc_list]⟩
        · simp (implicitDefEqProofs := false); refine .ofCut hc (VW.run good [] ?_); simp (implicitDefEqProofs := false) [enc_list, w1]
          refine ⟨_, _, (hI _ _ _).2 ⟨L2, rfl, rfl, ?_, ?_⟩, ⟨2, [], by simp [enc_list], by simp, by simp, by simp (implicitDefEqProofs := false) [enc_list], by simp (implicitDefEqProofs := false) [enc_list]⟩⟩
          · split at hL2 <;> omega
          · by_cases hj : 0 ≤ y.Joined
            · rw [if_pos hj] at hL2
              exact .inr ⟨i, hi, by omega, by rw [hy]; exact hj, by rw [hy]; exact hL2⟩
            · rw [if_neg hj] at hL2
              subst hL2
              rcases hlast with h | ⟨k, hk, hki, r⟩
              · exact .inl h
              · exact .inr ⟨k, hk, by omega, r⟩
      · intro f m hv
        obtain ⟨last, rfl, rfl, _⟩ := (hI _ _ _).1 hv
        refine VW.run good [] ?_; simp (implicitDefEqProofs := false) [enc_list, hl]
        exact ⟨0, [], by simp [enc_list], by simp, by simp, by simp (implicitDefEqProofs := false) [enc_list], by simp (implicitDefEqProofs := false) [enc_list]⟩
    · simp (implicitDefEqProofs := false); refine .ofCut hc (VW.run good [] ?_); simp (implicitDefEqProofs := false) [enc_list]
  · refine VP.run (A := F7) (good) [] (by rw [hE]; rfl) (by simp [F7]) ?_; unfold F7; simp (implicitDefEqProofs := false) [enc_list, ho]
end Go.RS.CC

