/- Walks: the laws: CallerWhole. -/
import Derived.Test.YtidnkmbicedmjaaDoorLwv
import Derived.Test.YtidnkmbicedmjaaDoorWkc
set_option linter.all false
namespace Go.RS.CC
open Go Go.RS
open Go.RS.Enc (enc dec)
variable {E : VEnv}
theorem heard_pick {b : Book} {n0 n1 H C : Int} {q : List Call} {S : List Served} (p : Pick b n0 n1 H C q S) {k : Int} (k0 : 0 ≤ k) (k1 : k < S.length) (hk : k.toNat < S.length) (hq : k.toNat < q.length) :
    HeardR b H C k = if S[k.toNat].Joined < 0 then (⟨0, 0⟩, 4) else (⟨S[k.toNat].Left - q[k.toNat].Hear * b.Each, S[k.toNat].Left - b.Each⟩, 0) := by
  have hl := p.len
  have h12 := p.l12
  have hm : lenm S.length = (S.length : Int) - 1 := wrap64 (by omega) (by omega)
  have e1 : S.getD k.toNat ⟨0, 0, 0⟩ = S[k.toNat] := by simp [hk]
  have e2 : q.getD k.toNat ⟨0, 0, 0, 0⟩ = q[k.toNat] := by simp [hq]
  unfold HeardR
  rw [p.serve, p.hour, if_pos rfl]
  simp only
  rw [hm, if_pos ((wi_iff _ _ _).2 ⟨k0, by omega⟩), e1, e2]
set_option maxHeartbeats 1600000 in
set_option maxRecDepth 20000 in
theorem l_Whole (hE : E.env.fn = G) (hW : WorksOk E) (b : Book) (n0 n1 n2 : Int) : VP E 8 [enc b, .agg [.int .i64 n0, .int .i64 n1, .int .i64 n2]] (.bool true) := by
  have good := goodV_cons (w_sound hE) (goodV_cons (w_works hW) (goodV_cons (w_hourly hE) (goodV_cons (w_ServeP hE) (goodV_cons (w_HeardP hE) (goodV_cons (w_To hE) (goodV_cons (w_Lies hE) (goodV_cons (w_Rest hE) goodV_nil)))))))
  by_cases ho : okR b = true
  · have bo := okR_ok ho
    obtain ⟨H, C, q, S, pk⟩ := pick_of ho n0 n1
    have hl1 := bo.h1
    have hS := pk.serve
    have hl := pk.len
    have h12 := pk.l12
    by_cases hz : S.length = 0
    · have hz2 : q.length = 0 := by omega
      have hH : HeardR b H C 0 = (⟨0, 0⟩, 91) := by
        unfold HeardR
        rw [hS, if_pos rfl]
        simp only
        rw [hz]; rfl
      refine VP.run (A := F8) (good) [] (by rw [hE]; rfl) (by simp [F8]) ?_; unfold F8; simp (implicitDefEqProofs := false) [enc_list, spliceV, ho, hl1, pk.h, pk.c, hS, pk.gl, pk.h0, pk.h1, hz, hz2, hH]
    · have a0 := Int.emod_nonneg n2 (show (q.length : Int) ≠ 0 by omega)
      have a1 := Int.emod_lt_of_pos n2 (show (0 : Int) < q.length by omega)
      have hr : restF n2 q.length = some (n2 % q.length) := if_pos ⟨by omega, by omega⟩
      generalize hk : n2 % (q.length : Int) = k at *
      have hks : k.toNat < S.length := by omega
      have hkq : k.toNat < q.length := by omega
      have hkl : k < S.length := by omega
      have hH := heard_pick pk a0 hkl hks hkq
      have hgs := get_Served S k.toNat hks
      have hgc := get_Call q k.toNat hkq
      have hz2 : ¬ q.length = 0 := by omega
      have hz3 : ¬ q = [] := by intro h; rw [h] at hz2; exact hz2 rfl
      by_cases hj : S[k.toNat].Joined < 0
      · rw [if_pos hj] at hH
        refine VP.run (A := F8) (good) [] (by rw [hE]; rfl) (by simp [F8]) ?_; unfold F8; simp (implicitDefEqProofs := false) [enc_list, spliceV, ho, hl1, pk.h, pk.c, hS, pk.gl, pk.h0, pk.h1, hl, hz2, hz3, hr, hH, a0, a1, hj, hgs, hgc]
      · rw [if_neg hj] at hH
        obtain ⟨c, hc⟩ := pk.sched.joined hkq hks (by omega)
        obtain ⟨x1, x2, x3, x4, x5, x6⟩ := pk.sched.rng _ (List.getElem_mem hkq)
        have hlo := hc.lo
        have hhi := hc.hi
        have hleft := hc.left
        generalize hx : q[k.toNat] = x at *
        generalize hy : S[k.toNat] = y at *
        have e1 := bo.e1
        have e2 := bo.e2
        obtain ⟨u1, u2, u3, u4⟩ := up_rng (each := b.Each) (t := y.Joined) e1 e2 (by omega) (by omega)
        rw [untilP] at hleft
        have hup : y.Left - x.Hear * b.Each = upP b.Each y.Joined := by omega
        rw [hup] at hH
        have m0 : 0 ≤ x.Hear * b.Each := Int.mul_nonneg (by omega) (by omega)
        have m1 : x.Hear * b.Each ≤ 5 * 60 := Int.mul_le_mul (by omega) (by omega) (by omega) (by omega)
        have m2 : (x.Hear - 1) * b.Each = x.Hear * b.Each - b.Each := by rw [Int.sub_mul]; omega
        have hE0 : ¬ b.Each = 0 := by omega
        have v1 : (upP b.Each y.Joined).tmod b.Each = 0 := by
          unfold upP; rw [Int.mul_tmod_left]
        have v2 : IntKind.i64.wrap (upP b.Each y.Joined - y.Joined) = upP b.Each y.Joined - y.Joined := wrap64 (by omega) (by omega)
        have v3 : IntKind.i64.wrap (b.Each - 1) = b.Each - 1 := wrap64 (by omega) (by omega)
        have v4 : wi (upP b.Each y.Joined - y.Joined) 0 (b.Each - 1) = true := (wi_iff _ _ _).2 ⟨by omega, by omega⟩
        have v5 : IntKind.i64.wrap (x.Hear - 1) = x.Hear - 1 := wrap64 (by omega) (by omega)
        have v6 : IntKind.i64.wrap ((x.Hear - 1) * b.Each) = (x.Hear - 1) * b.Each := wrap64 (by omega) (by omega)
        have v7 : IntKind.i64.wrap (upP b.Each y.Joined + (x.Hear - 1) * b.Each) = y.Left - b.Each := by rw [m2]; rw [wrap64 (by omega) (by omega)]; omega
        have v8 : IntKind.i64.wrap y.Left = y.Left := wrap64 (by omega) (by omega)
        refine VP.run (A := F8) (good) [] (by rw [hE]; rfl) (by simp [F8]) ?_; unfold F8; simp (implicitDefEqProofs := false) [enc_list, spliceV, ho, hl1, pk.h, pk.c, hS, pk.gl, pk.h0, pk.h1, hl, hz2, hz3, hr, hH, a0, a1, hj, hgs, hgc, hE0, v1, v2, v3, v4, v5, v6, v7, v8]
  · refine VP.run (A := F8) (good) [] (by rw [hE]; rfl) (by simp [F8]) ?_; unfold F8; simp (implicitDefEqProofs := false) [enc_list, ho]
end Go.RS.CC

