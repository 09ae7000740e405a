/- Walks: the law VoiceCut. -/
import Derived.Test.YtcbkaiakncbcbaaDoorVla
import Derived.Test.YtcbkaiakncbcbaaDoorVpa
set_option linter.all false
namespace Go.RS.DC
open Go Go.RS
open Go.RS.Enc (enc dec)
variable {E : VEnv}
set_option maxHeartbeats 1600000 in
set_option maxRecDepth 20000 in
theorem l_Cut (hE : E.env.fn = G) (hgl : E.gl 1 = some [f130v, f131v]) (hgl2 : E.gl 0 = some vparts) (b : Book) (bits : List Int) (n0 n1 : Int) : VP E 8 [enc b, enc bits, .agg [.int .i64 n0, .int .i64 n1]] (.bool true) := by
  have good := goodV_cons (v_sound hE) (goodV_cons (v_some hE) (goodV_cons (v_Fewest hE) (goodV_cons (v_Plan hE) (goodV_cons (w_Rest hE) (goodV_cons (w_Find hE) (goodV_cons (v_With hE) (goodV_cons (v_works hE hgl hgl2) goodV_nil)))))))
  cases ho : okB b
  · refine VP.run (A := F8) (good) [] (by rw [hE]; rfl) (by simp [F8]) ?_; unfold F8; simp (implicitDefEqProofs := false) [enc_list, ho]
  · have o := okB_ok ho
    have p1 := o.p1
    have p2 := o.p2
    have so := some_ok o bits
    have hS : someG b bits = some (someF b bits) := if_pos ho
    obtain ⟨⟨t, m⟩, hsf⟩ : ∃ s, someF b bits = s := ⟨_, rfl⟩
    rw [hsf] at hS so
    obtain ⟨ht, hr, hl8⟩ := so
    simp only at ht hr hl8
    have hw : restF n0 300 = some (n0 % 300) := if_pos ⟨by omega, by omega⟩
    have w0 := Int.emod_nonneg n0 (show (300 : Int) ≠ 0 by omega)
    have w1 := Int.emod_lt_of_pos n0 (show (0 : Int) < 300 by omega)
    obtain ⟨w, hwe⟩ : ∃ w, n0 % 300 = w := ⟨_, rfl⟩
    rw [hwe] at hw w0 w1
    have hk : restF n1 b.Pieces.length = some (n1 % b.Pieces.length) := if_pos ⟨by omega, by omega⟩
    obtain ⟨k0, k1⟩ := mod_piece o n1
    obtain ⟨k, hke⟩ : ∃ k : Nat, n1 % (b.Pieces.length : Int) = k := ⟨(n1 % (b.Pieces.length : Int)).toNat, by omega⟩
    rw [hke] at hk
    have hkn : k < b.Pieces.length := by omega
    have hkn' : (k : Int) < b.Pieces.length := by omega
    obtain ⟨K, hK⟩ : ∃ K, b.Pieces.any (fun x => decide (0 ≤ findR w 0 x.Words)) = K := ⟨_, rfl⟩
    refine VP.func (A := F8) (by rw [hE]; rfl) (by simp [F8]) ?_; unfold F8
    refine VW.seq (VW.run good [] ?_); simp (implicitDefEqProofs := false) [enc_list]
    refine VW.seq (VW.run good [] ?_); simp (implicitDefEqProofs := false) [enc_list, ho]
    refine VW.seq (VW.run good [] ?_); simp (implicitDefEqProofs := false) [enc_list, hS]
    refine VW.seq (VW.run good [] ?_); simp (implicitDefEqProofs := false) [enc_list, hw]
    refine VW.seq (VW.run good [] ?_); simp (implicitDefEqProofs := false) [enc_list]
    refine VW.seq_cut [(3, .ptr 0 6 0), (5, .ptr 1 2 0), (7, enc t), (9, .int .i64 w), (10, .bool K)] [bcl b, .cells [.int .i64 n0, .int .i64 n1]] (VW.run good [] ?_) ?_
    · simp (implicitDefEqProofs := false) [enc_list]
      refine VW.loop_to 0 [(3, .ptr 0 6 0), (5, .ptr 1 2 0), (7, enc t), (9, .int .i64 w), (10, .bool K)] [bcl b, .cells [.int .i64 n0, .int .i64 n1]] (True) ?_ (fun hp f m hc => ?_)
      · obtain ⟨Inv, hI⟩ : ∃ Inv : Nat → List (Nat × PV) → VM → Prop, ∀ i f m, Inv i f m ↔ (f = [(3, .ptr 0 6 0), (5, .ptr 1 2 0), (7, enc t), (9, .int .i64 w), (10, .bool ((b.Pieces.take i).any (fun x => decide (0 ≤ findR w 0 x.Words)))), (11, .int .i64 i)] ∧ m = [bcl b, .cells [.int .i64 n0, .int .i64 n1]]) := ⟨_, fun _ _ _ => Iff.rfl⟩
        refine VW.loop_cut Inv b.Pieces.length ?_ ?_ ?_
        · exact ⟨_, _, (hI _ _ _).2 ⟨rfl, rfl⟩, ⟨2, [], by simp [enc_list], by simp, by simp, by simp (implicitDefEqProofs := false) [enc_list], by simp (implicitDefEqProofs := false) [enc_list]⟩⟩
        · intro i f m hi hv
          obtain ⟨rfl, rfl⟩ := (hI _ _ _).1 hv
          have v1 : IntKind.i64.wrap ((i : Int) + 1) = i + 1 := wrap64 (by omega) (by omega)
          have hi' : (i : Int) < b.Pieces.length := by omega
          have htk : b.Pieces.take (i + 1) = b.Pieces.take i ++ [b.Pieces[i]] := by rw [List.take_add_one, List.getElem?_eq_getElem hi]; rfl
          have hg := get_Piece b.Pieces i hi
          have hst : (b.Pieces.take (i + 1)).any (fun x => decide (0 ≤ findR w 0 x.Words)) = ((b.Pieces.take i).any (fun x => decide (0 ≤ findR w 0 x.Words)) || decide (0 ≤ findR w 0 b.Pieces[i].Words)) := by rw [htk, List.any_append]; simp
          generalize b.Pieces[i] = x at *
          generalize (b.Pieces.take i).any (fun x => decide (0 ≤ findR w 0 x.Words)) = c at *
          cases c
          · refine VW.run good [] ?_; simp (implicitDefEqProofs := false) [enc_list, hi, hi', hg, v1]
            exact ⟨_, _, (hI _ _ _).2 ⟨rfl, rfl⟩, ⟨2, [], by simp [enc_list,  hst], by simp, by simp, by simp (implicitDefEqProofs := false) [enc_list,  hst], by simp (implicitDefEqProofs := false) [enc_list,  hst]⟩⟩
          · refine VW.run good [] ?_; simp (implicitDefEqProofs := false) [enc_list, hi, hi', hg, v1]
            exact ⟨_, _, (hI _ _ _).2 ⟨rfl, rfl⟩, ⟨2, [], by simp [enc_list,  hst], by simp, by simp, by simp (implicitDefEqProofs := false) [enc_list,  hst], by simp (implicitDefEqProofs := false) [enc_list,  hst]⟩⟩
        · intro f m hv
          obtain ⟨rfl, rfl⟩ := (hI _ _ _).1 hv
          rw [List.take_length, hK]
          refine VW.run good [] ?_; simp (implicitDefEqProofs := false) [enc_list]
          exact ⟨2, [], by simp [enc_list], by simp, by simp, by simp (implicitDefEqProofs := false) [enc_list], by simp (implicitDefEqProofs := false) [enc_list]⟩
      · simp (implicitDefEqProofs := false) [enc_list, AExit.leave]
        exact hc
    have hcK : ¬ (K = false) ∨ ∀ x ∈ b.Pieces, w ∉ x.Words := by
      cases K
      · right
        intro x hx
        have := List.any_eq_false.1 hK x hx
        simp only [decide_eq_true_eq, Int.not_le] at this
        exact find_not _ _ this
      · left; simp
    refine VW.seq_cut [(3, .ptr 0 6 0), (5, .ptr 1 2 0), (7, enc t)] [bcl b, .cells [.int .i64 n0, .int .i64 n1]] (VW.run good [] ?_) ?_
    · rcases hcK with hcK | hcK
      · have hKt : K = true := by cases K <;> simp at hcK ⊢
        subst hKt
        simp (implicitDefEqProofs := false) [enc_list]
        exact ⟨2, [], by simp [enc_list], by simp, by simp, by simp (implicitDefEqProofs := false) [enc_list], by simp (implicitDefEqProofs := false) [enc_list]⟩
      · cases K
        · by_cases h8 : t.length < 8
          · have h8' : (t.length : Int) < 8 := by omega
            obtain ⟨g1, g2⟩ := strange_none ho hr (by rw [← ht]; exact h8) (w := w) ⟨w0, by omega⟩ hcK
            rw [← ht] at g1 g2
            have hwt : withG t w = some (t ++ [w]) := if_pos (by omega)
            have z0 : IntKind.i64.wrap 0 = 0 := by decide
            simp (implicitDefEqProofs := false) [enc_list, h8, h8', hwt, g1, g2, z0]
            exact ⟨2, [], by simp [enc_list], by simp, by simp, by simp (implicitDefEqProofs := false) [enc_list], by simp (implicitDefEqProofs := false) [enc_list]⟩
          · have h8' : ¬ (t.length : Int) < 8 := by omega
            simp (implicitDefEqProofs := false) [enc_list, h8, h8']
            exact ⟨2, [], by simp [enc_list], by simp, by simp, by simp (implicitDefEqProofs := false) [enc_list], by simp (implicitDefEqProofs := false) [enc_list]⟩
        · simp (implicitDefEqProofs := false) [enc_list]
          exact ⟨2, [], by simp [enc_list], by simp, by simp, by simp (implicitDefEqProofs := false) [enc_list], by simp (implicitDefEqProofs := false) [enc_list]⟩
    refine VW.seq_cut [(3, .ptr 0 6 0), (7, enc t), (17, .int .i64 k)] [bcl b] (VW.run good [] ?_) ?_; simp (implicitDefEqProofs := false) [enc_list, hk]
    · exact ⟨1, [], by simp [enc_list], by simp, by simp, by simp (implicitDefEqProofs := false) [enc_list], by simp (implicitDefEqProofs := false) [enc_list]⟩
    have hgp := get_Piece b.Pieces k hkn
    have hpn : pieceN b k = b.Pieces[k] := by unfold pieceN; rw [List.getD_eq_getElem?_getD, List.getElem?_eq_getElem hkn]; rfl
    have po := pieceN_ok o hkn
    have hlong := fun h8 => longer_of ho hr (k := (k : Int)) (by omega) hkn' h8
    rw [pieceAt_N, ← ht, hpn] at hlong
    rw [hpn] at po
    generalize b.Pieces[k] = x at *
    have pw1 := po.w1
    have pw2 := po.w2
    have hx0 : x.Words ≠ [] := fun h => by rw [h] at pw1; simp at pw1
    have hxl : (x.Words.length = 0) = False := eq_false (by omega)
    obtain ⟨Lg, hLg⟩ : ∃ Lg, t ++ x.Words = Lg := ⟨_, rfl⟩
    have hLl : Lg.length = t.length + x.Words.length := by rw [← hLg]; simp
    have hLn : Lg ≠ [] := fun h => by rw [h] at hLl; simp at hLl; omega
    have hf1 : fits t.length 8 = true := fits8L (by omega)
    have hf2 : fits x.Words.length 8 = true := fits8L (by omega)
    refine VW.seq_cut [(3, .ptr 0 6 0), (7, enc t), (18, sl1 1 Lg)] [bcl b, .vec (encL Lg)] (VW.run good [] ?_) ?_
    · by_cases h0 : t = []
      · subst h0
        have hLx : x.Words = Lg := by simpa using hLg
        have a2 : appendV [bcl b] 1 8 (.lst true 0 0 []) (.lst false x.Words.length 1 (encL x.Words)) = some (sl1 1 Lg, [bcl b, .vec (encL Lg)]) := by
          rw [← hLx]
          have hel : (encL x.Words = []) = False := eq_false (fun h => hx0 (List.eq_nil_of_length_eq_zero (by have := encL_length x.Words; rw [h] at this; simpa using this.symm)))
          have hll : (encL x.Words).length = x.Words.length := by rw [encL_length]; exact Nat.mul_one _
          simp [appendV, elemsV, okE, hxl, hf2, newVec, encL_isF, hel, hll]
        have a0 : appendV [bcl b] 1 8 (.lst true 0 0 []) (.lst false 0 1 []) = some (.lst true 0 0 [], [bcl b]) := rfl
        simp (implicitDefEqProofs := false) [enc_list, hkn, hkn', hgp, a0, a2, spliceV]
        exact ⟨2, [], by simp [enc_list], by simp, by simp, by simp (implicitDefEqProofs := false) [enc_list], by simp (implicitDefEqProofs := false) [enc_list]⟩
      · have ht0 : (t.length = 0) = False := eq_false (fun h => h0 (List.eq_nil_of_length_eq_zero h))
        have a1 : appendV [bcl b] 1 8 (.lst true 0 0 []) (.lst false t.length 1 (encL t)) = some (sl1 1 t, [bcl b, .vec (encL t)]) := by
          have hel : (encL t = []) = False := eq_false (fun h => h0 (List.eq_nil_of_length_eq_zero (by have := encL_length t; rw [h] at this; simpa using this.symm)))
          have hll : (encL t).length = t.length := by rw [encL_length]; exact Nat.mul_one _
          simp [appendV, elemsV, okE, ht0, hf1, newVec, encL_isF, hel, hll]
        have a2 := app_list [bcl b, .vec (encL t)] 1 8 t x.Words false rfl hx0 (fits8L (by omega))
        rw [hLg] at a2
        simp (implicitDefEqProofs := false) [enc_list, hkn, hkn', hgp, a1, a2, spliceV]
        exact ⟨2, [], by simp [enc_list], by simp, by simp, by simp (implicitDefEqProofs := false) [enc_list], by simp (implicitDefEqProofs := false) [enc_list]⟩
    refine .ofCut (l := [(3, .ptr 0 6 0), (7, enc t), (18, sl1 1 Lg)]) (M := [bcl b, .vec (encL Lg)]) ⟨2, [], by simp [enc_list], by simp, by simp, by simp (implicitDefEqProofs := false) [enc_list], by simp (implicitDefEqProofs := false) [enc_list]⟩ ?_
    refine VW.freeze (t := 1) (len := Lg.length) (o := 0) (q := Lg.length) (cap := openCap + 1) (e := 1) 18 (by simp) ?_
    refine .ofCut (l := [(3, .ptr 0 6 0), (7, enc t), (18, enc Lg)]) (M := [bcl b]) ⟨1, [], by simp [enc_list], by simp, by simp, by simp (implicitDefEqProofs := false) [enc_list], by simp (implicitDefEqProofs := false) [enc_list]⟩ ?_
    by_cases h8 : Lg.length ≤ 8
    · obtain ⟨l, l1, l2, l3, l4⟩ := hlong (by rw [hLg]; exact h8)
      rw [hLg] at l1
      have h8' : ¬ (8 < Lg.length) := by omega
      have h8'' : ¬ ((8 : Int) < (Lg.length : Int)) := by omega
      have hl0 : ¬ l.length = 0 := by omega
      have hl0' : ¬ l = [] := fun h => hl0 (by rw [h]; rfl)
      by_cases h0 : t = []
      · have h1 := l3 h0
        subst h0
        refine VW.run good [] ?_; simp (implicitDefEqProofs := false) [enc_list, h8', h8'', l1, hl0, hl0', h1]
      · obtain ⟨q, q1, q2⟩ := l4 h0
        have ht0 : ¬ t.length = 0 := fun h => h0 (List.eq_nil_of_length_eq_zero h)
        have hq8 : q.length ≤ 1000 := by
          obtain ⟨q', f1, f2, f3, _, _⟩ := fewest_of ho hr (by rw [← ht]; omega) (by rw [← ht]; exact hl8)
          rw [← ht, q1] at f1
          cases f1
          have := words_len o f2
          rw [f3, ← ht] at this
          omega
        have v2 : ((l.length : Int) ≤ (q.length : Int) + 1) = True := eq_true (by omega)
        have v1 : IntKind.i64.wrap ((q.length : Int) + 1) = ((q.length + 1 : Nat) : Int) := by rw [wrap64 (by omega) (by omega)]; omega
        refine VW.run good [] ?_; simp (implicitDefEqProofs := false) [enc_list, h8', h8'', l1, hl0, hl0', ht0, h0, q1, q2, v1, v2]
    · have h8' : 8 < Lg.length := by omega
      have h8'' : (8 : Int) < (Lg.length : Int) := by omega
      refine VW.run good [] ?_; simp (implicitDefEqProofs := false) [enc_list, h8', h8'']
end Go.RS.DC

