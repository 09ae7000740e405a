/- Walks: the law DialDecreed. -/
import Derived.Test.YtenmjloiadkgjaaDoorDla
set_option linter.all false
namespace Go.RS.DC
open Go Go.RS
open Go.RS.Enc (enc dec)
variable {E : VEnv}
theorem snoc_of {α : Type} : ∀ {l : List α}, l ≠ [] → ∃ a x, l = a ++ [x]
  | [], h => absurd rfl h
  | [x], _ => ⟨[], x, rfl⟩
  | x :: y :: l, _ => by
    obtain ⟨a, z, h⟩ := snoc_of (l := y :: l) (by simp)
    exact ⟨x :: a, z, by rw [h]; rfl⟩
set_option maxHeartbeats 6400000 in
set_option maxRecDepth 20000 in
theorem l_Decreed (hE : E.env.fn = G) (hgl : E.gl 0 = some [f130v, f131v]) (c : Cal) (n0 n1 : Int) : VP E 9 [enc c, .agg [.int .i64 n0, .int .i64 n1]] (.bool true) := by
  have good := goodV_cons (w_sound hE) (goodV_cons (w_ticksOf hE) (goodV_cons (w_Rest hE) (goodV_cons (w_LengthP hE) (goodV_cons (w_TickP hE hgl) (goodV_cons (w_ReadingP hE hgl) (goodV_cons (w_at hE) (goodV_cons (w_works hE hgl) goodV_nil)))))))
  cases ho : okC c
  · refine VP.run (A := F9) (good) [] (by rw [hE]; rfl) (by simp [F9]) ?_; unfold F9; simp (implicitDefEqProofs := false) [enc_list, ho]
  · by_cases hne : c.Decrees = []
    · have hn0 : c.Decrees.length = 0 := by rw [hne]; rfl
      refine VP.run (A := F9) (good) [] (by rw [hE]; rfl) (by simp [F9]) ?_; unfold F9; simp (implicitDefEqProofs := false) [enc_list, ho, hn0]
    · obtain ⟨l, x, hl⟩ := snoc_of hne
      have o := okC_ok ho
      have ab := allR_b o
      have dl := o.dl
      have hln : c.Decrees.length = l.length + 1 := by rw [hl]; simp
      have hT : ticksOfR c = (allR c, true) := if_pos ho
      have k := cut_ok ho hl
      obtain ⟨by_, hby⟩ : ∃ b : Int, (if x.Plus = true then (1 : Int) else -1) = b := ⟨_, rfl⟩
      rw [hby] at k
      have hby1 : by_ = 1 ∨ by_ = -1 := by rw [← hby]; split <;> simp
      have hj : l.length < c.Decrees.length := by omega
      have hx : c.Decrees[l.length] = x := by simp [hl]
      have htk : List.take (l.length * 2) (encL c.Decrees) = encL l := by
        rw [take_Decree, hl, List.take_left]
      have x1 := tick_at0 ho k.d0 k.d1
      have x2 := length_of ho k.d0 k.d1
      have lb := o.lb x.Day
      have bb := begR_b o x.Day.toNat
      have hm1 := o.hm1
      have hm2 := o.hm2
      have w3 := o.w3
      have hw1 := o.w1
      have hw2 := o.w2
      have s1 := o.s1
      have v1 : IntKind.i64.wrap (c.Hours * c.Minutes) = c.Hours * c.Minutes := wrap64 (by omega) (by omega)
      have v2 : IntKind.i64.wrap (c.Hours * c.Minutes * c.Seconds) = c.Hours * c.Minutes * c.Seconds := wrap64 (by omega) (by omega)
      have B1 : ∀ i, 0 ≤ i → i < begR c x.Day.toNat + c.Hours * c.Minutes * c.Seconds + (if by_ = 1 then 0 else -1) → ReadingR c i = (readR c i, 0) ∧ ReadingR (cut c l) i = (readR c i, 0) := fun i h0 h1 => by
        obtain ⟨g1, g2, g3⟩ := cut_before ho k hby1 h0 h1
        exact ⟨reading_of ho h0 g1, by rw [reading_of k.ok h0 g2, g3]⟩
      have B2 : ∀ i, begR c x.Day.toNat + lenR c x.Day ≤ i → i < allR c → ReadingR c i = (readR c i, 0) ∧ ReadingR (cut c l) (i - by_) = (readR c i, 0) := fun i h0 h1 => by
        obtain ⟨g1, g2, g3⟩ := cut_behind ho k h0 h1
        exact ⟨reading_of ho (by omega) h1, by rw [reading_of k.ok g1 g2, g3]⟩
      unfold cut at B1 B2
      have kd0 := k.d0
      have kd1 := k.d1
      have dd2 := o.d2
      clear k
      generalize hA : allR c = A at *
      generalize hb : begR c x.Day.toNat = b at *
      generalize hm : lenR c x.Day = m at *
      obtain ⟨HMS, hh⟩ : ∃ v, c.Hours * c.Minutes * c.Seconds = v := ⟨_, rfl⟩
      rw [hh] at v2 B1 w3
      have hHMS : 2 ≤ HMS := by omega
      obtain ⟨sn, hsn⟩ : ∃ v, b + HMS + (if by_ = 1 then 0 else -1) = v := ⟨_, rfl⟩
      rw [hsn] at B1
      have hsn1 : 1 ≤ sn ∧ sn ≤ 2000000 := by
        rcases hby1 with rfl | rfl <;> simp at hsn <;> omega
      have i0 := Int.emod_nonneg n0 (show sn ≠ 0 by omega)
      have i1 := Int.emod_lt_of_pos n0 (show 0 < sn by omega)
      have r1 : restF n0 sn = some (n0 % sn) := if_pos ⟨by omega, by omega⟩
      generalize n0 % sn = i at *
      obtain ⟨p1, p2⟩ := B1 i i0 i1
      have mx : (if 1 < sn then sn else 1) = sn := by split <;> omega
      have w4 : IntKind.i64.wrap (b + HMS) = b + HMS := wrap64 (by omega) (by omega)
      have w5 : IntKind.i64.wrap (b + HMS - 1) = b + HMS - 1 := wrap64 (by omega) (by omega)
      have w6 : IntKind.i64.wrap (b + m) = b + m := wrap64 (by omega) (by omega)
      have w7 : IntKind.i64.wrap (A - b) = A - b := wrap64 (by omega) (by omega)
      have w8 : IntKind.i64.wrap (A - b - m) = A - b - m := wrap64 (by omega) (by omega)
      have wl : IntKind.i64.wrap (l.length : Int) = l.length := wrap64 (by omega) (by omega)
      have wl2 : IntKind.i64.wrap ((l.length : Int) + 1 - 1) = l.length := by rw [Int.add_sub_cancel]; exact wl
      have hm0 : ¬ m < 1 := by omega
      have hf : fits l.length 16 = true := by simp [fits]; omega
      have hbeh : A ≤ b + m ∨ ¬ A ≤ b + m ∧ ∃ q : Int, restF n1 (A - b - m) = some q ∧ IntKind.i64.wrap (b + m + q) = b + m + q ∧ IntKind.i64.wrap (b + m + q - by_) = b + m + q - by_ ∧ ReadingR c (b + m + q) = (readR c (b + m + q), 0) ∧ ReadingR ⟨c.Hours, c.Minutes, c.Seconds, c.Days, l⟩ (b + m + q - by_) = (readR c (b + m + q), 0) := by
        by_cases h : A ≤ b + m
        · exact .inl h
        · have q0 := Int.emod_nonneg n1 (show A - b - m ≠ 0 by omega)
          have q1 := Int.emod_lt_of_pos n1 (show 0 < A - b - m by omega)
          obtain ⟨g1, g2⟩ := B2 (b + m + n1 % (A - b - m)) (by omega) (by omega)
          exact .inr ⟨h, n1 % (A - b - m), if_pos ⟨by omega, by omega⟩, wrap64 (by omega) (by omega), wrap64 (by omega) (by omega), g1, g2⟩
      clear B1 B2
      generalize readR c i = R at *
      have hxp : (x.Plus = true ∧ by_ = 1 ∧ sn = b + HMS) ∨ (x.Plus = false ∧ by_ = -1 ∧ sn = b + HMS - 1) := by
        cases hp : x.Plus
        · rw [hp] at hby
          simp at hby
          subst hby
          simp at hsn
          exact .inr ⟨rfl, rfl, by omega⟩
        · rw [hp] at hby
          simp at hby
          subst hby
          simp at hsn
          exact .inl ⟨rfl, rfl, by omega⟩
      have c1 : ((l.length : Int) < (l.length : Int) + 1) = True := by simp; omega
      have c2 : ((l.length : Int) ≤ (l.length : Int) + 1) = True := by simp; omega
      have c3 : (0 ≤ (l.length : Int)) = True := by simp
      have hln0 : ¬ ((l.length : Int) + 1 = 0) := by omega
      refine VP.func (A := F9) (by rw [hE]; rfl) (by simp [F9]) ?_; unfold F9
      refine VW.seq_cut [(2, .ptr 0 5 0), (3, .ptr 1 2 0)] [clc c, .cells [.int .i64 n0, .int .i64 n1]] (VW.run good [] ?_) ?_; simp (implicitDefEqProofs := false) [enc_list]
      · exact ⟨2, [], by simp [enc_list], by simp, by simp, by simp (implicitDefEqProofs := false) [enc_list], by simp (implicitDefEqProofs := false) [enc_list]⟩
      refine VW.seq_cut [(2, .ptr 0 5 0), (3, .ptr 1 2 0)] [clc c, .cells [.int .i64 n0, .int .i64 n1]] (VW.run good [] ?_) ?_; simp (implicitDefEqProofs := false) [enc_list, ho, hln, hln0]
      · exact ⟨2, [], by simp [enc_list], by simp, by simp, by simp (implicitDefEqProofs := false) [enc_list], by simp (implicitDefEqProofs := false) [enc_list]⟩
      refine VW.seq_cut [(2, .ptr 0 5 0), (3, .ptr 1 2 0), (5, .ptr 2 2 0)] [clc c, .cells [.int .i64 n0, .int .i64 n1], .cells [.int .i64 x.Day, .bool x.Plus]] (VW.run good [] ?_) ?_; simp (implicitDefEqProofs := false) [enc_list, hln, wl, c1, c3, hj, get_Decree c.Decrees _ hj, hx, spliceV]
      · exact ⟨3, [], by simp [enc_list], by simp, by simp, by simp (implicitDefEqProofs := false) [enc_list], by simp (implicitDefEqProofs := false) [enc_list]⟩
      refine VW.seq_cut [(2, .ptr 0 5 0), (3, .ptr 1 2 0), (5, .ptr 2 2 0), (6, .ptr 3 5 0)] [clc c, .cells [.int .i64 n0, .int .i64 n1], .cells [.int .i64 x.Day, .bool x.Plus], clc c] (VW.run good [] ?_) ?_; simp (implicitDefEqProofs := false) [enc_list, spliceV]
      · exact ⟨4, [], by simp [enc_list], by simp, by simp, by simp (implicitDefEqProofs := false) [enc_list], by simp (implicitDefEqProofs := false) [enc_list]⟩
      by_cases hl0 : l = []
      · have hz : (l.length = 0) = True := by rw [hl0]; simp
        refine VW.seq_cut [(2, .ptr 0 5 0), (3, .ptr 1 2 0), (5, .ptr 2 2 0), (6, .ptr 3 5 0)] [clc c, .cells [.int .i64 n0, .int .i64 n1], .cells [.int .i64 x.Day, .bool x.Plus], .cells [.int .i64 c.Hours, .int .i64 c.Minutes, .int .i64 c.Seconds, .int .i64 c.Days, .lst true 0 0 []]] (VW.run good [] ?_) ?_; simp (implicitDefEqProofs := false) [enc_list, hln, wl, c1, c2, c3, htk, hz, appendV, okE, elemsV, slV, boundV, numV, mOk, spliceV]
        · exact ⟨4, [], by simp [enc_list], by simp, by simp, by simp (implicitDefEqProofs := false) [enc_list], by simp (implicitDefEqProofs := false) [enc_list]⟩
        have hX : (dec (PV.lst true 0 0 []) : Option (List Decree)) = some l := by rw [hl0]; rfl
        rcases hxp with ⟨hp, rfl, rfl⟩ | ⟨hp, rfl, rfl⟩
        · rcases hbeh with h3 | ⟨h3, q, q1, q2, q3, q4, q5⟩
          · refine VW.run good [] ?_; simp (implicitDefEqProofs := false) [enc_list, ho, hT, hln, wl, hj, x1, x2, v1, v2, hh, hb, hm, hp, mx, r1, p1, p2, w4, w5, w6, w7, w8, hm0, c1, c2, c3, spliceV, hX, h3]
          · refine VW.run good [] ?_; simp (implicitDefEqProofs := false) [enc_list, ho, hT, hln, wl, hj, x1, x2, v1, v2, hh, hb, hm, hp, mx, r1, p1, p2, w4, w5, w6, w7, w8, hm0, c1, c2, c3, spliceV, hX, h3, q1, q2, q3, q4, q5]
        · rcases hbeh with h3 | ⟨h3, q, q1, q2, q3, q4, q5⟩
          · refine VW.run good [] ?_; simp (implicitDefEqProofs := false) [enc_list, ho, hT, hln, wl, hj, x1, x2, v1, v2, hh, hb, hm, hp, mx, r1, p1, p2, w4, w5, w6, w7, w8, hm0, c1, c2, c3, spliceV, hX, h3]
          · simp only [Int.sub_neg] at q3 q5
            refine VW.run good [] ?_; simp (implicitDefEqProofs := false) [enc_list, ho, hT, hln, wl, hj, x1, x2, v1, v2, hh, hb, hm, hp, mx, r1, p1, p2, w4, w5, w6, w7, w8, hm0, c1, c2, c3, spliceV, hX, h3, q1, q2, q3, q4, q5]
      · have hz : (l.length = 0) = False := by simp [hl0]
        have hel : (encL l = []) = False := by
          cases l with
          | nil => exact absurd rfl hl0
          | cons a l => simp [encL]
        refine VW.seq_cut [(2, .ptr 0 5 0), (3, .ptr 1 2 0), (5, .ptr 2 2 0), (6, .ptr 3 5 0)] [clc c, .cells [.int .i64 n0, .int .i64 n1], .cells [.int .i64 x.Day, .bool x.Plus], .cells [.int .i64 c.Hours, .int .i64 c.Minutes, .int .i64 c.Seconds, .int .i64 c.Days, .sl 4 (l.length * 2) 0 l.length (openCap + 2) 2], .vec (encL l)] (VW.run good [] ?_) ?_; simp (implicitDefEqProofs := false) [enc_list, hln, wl, c1, c2, c3, htk, hz, hf, hel, newVec, encL_isF, appendV, okE, elemsV, slV, boundV, numV, mOk, spliceV]
        · exact ⟨5, [], by simp [enc_list], by simp, by simp, by simp (implicitDefEqProofs := false) [enc_list], by simp (implicitDefEqProofs := false) [enc_list]⟩
        refine VW.freezeM (t := 4) (len := l.length * 2) (o := 0) (q := l.length) (cap := openCap + 2) (e := 2) (cs := [.int .i64 c.Hours, .int .i64 c.Minutes, .int .i64 c.Seconds, .int .i64 c.Days, .sl 4 (l.length * 2) 0 l.length (openCap + 2) 2]) 3 4 rfl rfl (by decide) ?_
        have hfz : fzSl [clc c, .cells [.int .i64 n0, .int .i64 n1], .cells [.int .i64 x.Day, .bool x.Plus], .cells [.int .i64 c.Hours, .int .i64 c.Minutes, .int .i64 c.Seconds, .int .i64 c.Days, .sl 4 (l.length * 2) 0 l.length (openCap + 2) 2], .vec (encL l)] 4 (l.length * 2) 0 l.length (openCap + 2) 2 = .lst (openCap + 2 == l.length) l.length 2 (encL l) := by
          have := fzSl_vec (α := Decree) [clc c, .cells [.int .i64 n0, .int .i64 n1], .cells [.int .i64 x.Day, .bool x.Plus], .cells [.int .i64 c.Hours, .int .i64 c.Minutes, .int .i64 c.Seconds, .int .i64 c.Days, .sl 4 (l.length * 2) 0 l.length (openCap + 2) 2], .vec (encL l)] 4 l rfl (by decide)
          rwa [if_neg (by simpa using hl0)] at this
        rw [hfz]
        generalize (openCap + 2 == l.length) = bx
        have hX : (dec (PV.lst bx l.length 2 (encL l)) : Option (List Decree)) = some l := dec_lst bx l
        simp only [List.set_cons_succ, List.set_cons_zero]
        rcases hxp with ⟨hp, rfl, rfl⟩ | ⟨hp, rfl, rfl⟩
        · rcases hbeh with h3 | ⟨h3, q, q1, q2, q3, q4, q5⟩
          · refine VW.run good [] ?_; simp (implicitDefEqProofs := false) [enc_list, ho, hT, hln, wl, hj, x1, x2, v1, v2, hh, hb, hm, hp, mx, r1, p1, p2, w4, w5, w6, w7, w8, hm0, c1, c2, c3, spliceV, hX, h3]
          · refine VW.run good [] ?_; simp (implicitDefEqProofs := false) [enc_list, ho, hT, hln, wl, hj, x1, x2, v1, v2, hh, hb, hm, hp, mx, r1, p1, p2, w4, w5, w6, w7, w8, hm0, c1, c2, c3, spliceV, hX, h3, q1, q2, q3, q4, q5]
        · rcases hbeh with h3 | ⟨h3, q, q1, q2, q3, q4, q5⟩
          · refine VW.run good [] ?_; simp (implicitDefEqProofs := false) [enc_list, ho, hT, hln, wl, hj, x1, x2, v1, v2, hh, hb, hm, hp, mx, r1, p1, p2, w4, w5, w6, w7, w8, hm0, c1, c2, c3, spliceV, hX, h3]
          · simp only [Int.sub_neg] at q3 q5
            refine VW.run good [] ?_; simp (implicitDefEqProofs := false) [enc_list, ho, hT, hln, wl, hj, x1, x2, v1, v2, hh, hb, hm, hp, mx, r1, p1, p2, w4, w5, w6, w7, w8, hm0, c1, c2, c3, spliceV, hX, h3, q1, q2, q3, q4, q5]
end Go.RS.DC

