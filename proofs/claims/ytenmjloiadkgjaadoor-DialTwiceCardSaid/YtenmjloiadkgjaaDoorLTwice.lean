/- Walks: the law DialTwice. -/
import Derived.Test.YtenmjloiadkgjaaDoorDla
import Derived.Test.YtenmjloiadkgjaaDoorDwa
set_option linter.all false
namespace Go.RS.DC
open Go Go.RS
open Go.RS.Enc (enc dec)
variable {E : VEnv}
theorem snoc_of {α : Type} : ∀ {l : List α}, l ≠ [] → ∃ a x, l = a ++ [x]
  | [], h => absurd rfl h
  | [x], _ => ⟨[], x, rfl⟩
  | x :: y :: l, _ => by
    obtain ⟨a, z, h⟩ := snoc_of (l := y :: l) (by simp)
    exact ⟨x :: a, z, by rw [h]; rfl⟩
theorem tw_first {c : Cal} (o : CalOk c) {t : Town} (ot : TownOk c t) (h : 0 < t.Changes.length) : 0 < (t.Changes[0]).Tick ∧ (t.Changes[0]).Tick < allR c ∧ twN c t (allR c).toNat ≤ allR c - (t.Changes[0]).Tick := by
  obtain ⟨a, ch⟩ := t
  cases ch with
  | nil => simp at h
  | cons x l =>
    have hch := ot.ch
    simp only [chgOk, Bool.and_eq_true, wi_iff] at hch
    simp only [List.getElem_cons_zero]
    obtain ⟨f, hf⟩ : ∃ f : Nat, x.Tick = f := ⟨x.Tick.toNat, by omega⟩
    have hz : twN c ⟨a, x :: l⟩ f = 0 := twN_zero o ot f (by omega) (fun j k h0 h1 h2 => by
      have e : ∀ i : Int, i < x.Tick → aheadL a (x :: l) i = a := fun i hi => by
        rw [aheadL, if_neg (by omega)]
        exact aheadL_before l _ a x.Tick i hch.2 (by omega)
      show aheadL a (x :: l) j ≤ aheadL a (x :: l) k
      rw [e j (by omega), e k (by omega)]
      omega)
    have := twN_le c ⟨a, x :: l⟩ f ((allR c).toNat - f)
    rw [show f + ((allR c).toNat - f) = (allR c).toNat by omega, hz] at this
    exact ⟨by omega, by omega, by omega⟩
theorem tw_last {c : Cal} (o : CalOk c) {a : Int} {l : List Change} {x : Change} (ot : TownOk c ⟨a, l ++ [x]⟩) (ou : TownOk c ⟨a, l⟩) (h0 : 0 ≤ x.Tick) (h1 : x.Tick < allR c) :
    twN c ⟨a, l⟩ (allR c).toNat - twN c ⟨a, l ++ [x]⟩ (allR c).toNat ≤ allR c - x.Tick ∧ twN c ⟨a, l ++ [x]⟩ (allR c).toNat - twN c ⟨a, l⟩ (allR c).toNat ≤ allR c - x.Tick := by
  obtain ⟨e, he⟩ : ∃ e : Nat, x.Tick = e := ⟨x.Tick.toNat, by omega⟩
  have hs : twN c ⟨a, l ++ [x]⟩ e = twN c ⟨a, l⟩ e := twN_same o ot ou e (by omega) (fun k k0 k1 => by
    unfold localR
    show movedR c (readR c k) (aheadL a (l ++ [x]) k) = movedR c (readR c k) (aheadL a l k)
    rw [ahead_cut l x a k (by omega)])
  have e1 : e + ((allR c).toNat - e) = (allR c).toNat := by omega
  have a1 := twN_le c ⟨a, l ++ [x]⟩ e ((allR c).toNat - e)
  have a2 := twN_mono c ⟨a, l ++ [x]⟩ e ((allR c).toNat - e)
  have b1 := twN_le c ⟨a, l⟩ e ((allR c).toNat - e)
  have b2 := twN_mono c ⟨a, l⟩ e ((allR c).toNat - e)
  rw [e1] at a1 a2 b1 b2
  omega
set_option maxHeartbeats 6400000 in
set_option maxRecDepth 20000 in
theorem l_Twice (hE : E.env.fn = G) (hgl : E.gl 0 = some [f130v, f131v]) (x : TownC) : VP E 14 [enc x] (.bool true) := by
  have good := goodV_cons (w_fit hE) (goodV_cons (w_ticksOf hE) (goodV_cons (w_TwiceP hE hgl) (goodV_cons (w_Lies hE) (goodV_cons (w_works hE hgl) goodV_nil))))
  cases hf : fitR x
  · rcases check_unfit hf with hc | hc
    · have hr : TwiceR x.C x.T = (0, 10) := by unfold TwiceR; rw [hc]; rfl
      refine VP.run (A := F14) (good) [] (by rw [hE]; rfl) (by simp [F14]) ?_; unfold F14; simp (implicitDefEqProofs := false) [enc_list, hf, hr]
    · have hr : TwiceR x.C x.T = (0, 12) := by unfold TwiceR; rw [hc]; rfl
      refine VP.run (A := F14) (good) [] (by rw [hE]; rfl) (by simp [F14]) ?_; unfold F14; simp (implicitDefEqProofs := false) [enc_list, hf, hr]
  · obtain ⟨ho, hto⟩ := fit_ok hf
    obtain ⟨c, t⟩ := x
    change okC c = true at ho
    change okT c t = true at hto
    have o := okC_ok ho
    have ot := okT_ok hto
    have ab := allR_b o
    have hT : ticksOfR c = (allR c, true) := if_pos ho
    have hck := check_town ho hto
    have r1 : TwiceR c t = (twN c t (allR c).toNat, 0) := if_pos hck
    have hln := ot.ln
    by_cases hne : t.Changes = []
    · have hz := twN_none o hne ot (allR c).toNat (by omega)
      have hn0 : t.Changes.length = 0 := by rw [hne]; rfl
      rw [hz] at r1
      refine VP.run (A := F14) (good) [] (by rw [hE]; rfl) (by simp [F14]) ?_; unfold F14; simp (implicitDefEqProofs := false) [enc_list, hf, hT, r1, hn0]
    · obtain ⟨a, ch⟩ := t
      obtain ⟨l, z, hl⟩ := snoc_of hne
      have hl : ch = l ++ [z] := hl
      have hcl : ch.length = l.length + 1 := by rw [hl]; simp
      have hc0 : 0 < ch.length := by omega
      obtain ⟨f1, f2, f3⟩ := tw_first o ot hc0
      have f3 : twN c ⟨a, ch⟩ (allR c).toNat ≤ allR c - (ch[0]).Tick := f3
      have f1 : 0 < (ch[0]).Tick := f1
      have f2 : (ch[0]).Tick < allR c := f2
      have hcut := chg_cut (allR c) l z 0 (by have := ot.ch; rw [show (Town.mk a ch).Changes = l ++ [z] from hl] at this; exact this)
      have htu : okT c ⟨a, l⟩ = true := by
        unfold okT
        rw [(wi_iff a (-1440) 1440).2 ⟨ot.a1, ot.a2⟩, hcut.1]
        have : l.length ≤ 6 := by have : ch.length ≤ 6 := hln; omega
        simp [this]
      have ou := okT_ok htu
      have r2 : TwiceR c ⟨a, l⟩ = (twN c ⟨a, l⟩ (allR c).toNat, 0) := if_pos (check_town ho htu)
      have g := tw_last o (a := a) (l := l) (x := z) (by rw [← hl]; exact ot) ou (by omega) hcut.2.2
      rw [← hl] at g
      obtain ⟨g1, g2⟩ := g
      have hris : risesL a ch = true → twN c ⟨a, ch⟩ (allR c).toNat = 0 := fun hr => twN_zero o ot _ (by omega) (fun j k h0 h1 h2 => (rises_mono ch a j k (allR c) 0 ot.ch hr (by omega)).1)
      obtain ⟨b1, b2⟩ := twN_b c ⟨a, ch⟩ (allR c).toNat
      obtain ⟨b3, b4⟩ := twN_b c ⟨a, l⟩ (allR c).toNat
      have b5 : ((allR c).toNat : Int) = allR c := by omega
      rw [b5] at b2 b4
      have hz1 := hcut.2.1
      have hz2 := hcut.2.2
      have hj : l.length < ch.length := by omega
      have hx : ch[l.length] = z := by simp [hl]
      have htk : List.take (l.length * 2) (encL ch) = encL l := by rw [take_Change, hl, List.take_left]
      have hln : ch.length ≤ 6 := hln
      clear hto ot hck hne htu ou hcut
      generalize twN c ⟨a, ch⟩ (allR c).toNat = n at *
      generalize twN c ⟨a, l⟩ (allR c).toNat = m at *
      generalize hris2 : risesL a ch = R at *
      generalize allR c = A at *
      have wl : IntKind.i64.wrap (l.length : Int) = l.length := wrap64 (by omega) (by omega)
      have c1 : ((l.length : Int) < (l.length : Int) + 1) = True := by simp; omega
      have c2 : ((l.length : Int) ≤ (l.length : Int) + 1) = True := by simp; omega
      have c3 : (0 ≤ (l.length : Int)) = True := by simp
      have hln0 : ¬ ((l.length : Int) + 1 = 0) := by omega
      have hf16 : fits l.length 16 = true := by simp [fits]; omega
      have w1 : IntKind.i64.wrap (A - (ch[0]).Tick) = A - (ch[0]).Tick := wrap64 (by omega) (by omega)
      have w2 : IntKind.i64.wrap (m - n) = m - n := wrap64 (by omega) (by omega)
      have w3 : IntKind.i64.wrap (n - m) = n - m := wrap64 (by omega) (by omega)
      have w4 : IntKind.i64.wrap (A - z.Tick) = A - z.Tick := wrap64 (by omega) (by omega)
      have y0 : (0 < ch.length) := hc0
      have y2 : (m - n ≤ A - z.Tick) = True := eq_true g1
      have y3 : (n - m ≤ A - z.Tick) = True := eq_true g2
      have e1 : wi n 0 (A - (ch[0]).Tick) = true := (wi_iff _ _ _).2 ⟨b1, f3⟩
      refine VP.run (A := F14) (good) [] (by rw [hE]; rfl) (by simp [F14]) ?_; unfold F14; simp (implicitDefEqProofs := false) [enc_list, hf, hT, r1, hcl, hln0]
      refine VW.loop_to 0 [(1, .ptr 0 7 0), (3, .int .i64 n), (5, .int .i64 A), (7, .bool R)] [.cells (El.cells (TownC.mk c ⟨a, ch⟩))] (True) ?_ (fun hp f m hc => ?_)
      · obtain ⟨Inv, hI⟩ : ∃ Inv : Nat → List (Nat × PV) → VM → Prop, ∀ k f mm, Inv k f mm ↔ (∃ (s : Bool) (last : Int), f = [(1, .ptr 0 7 0), (3, .int .i64 n), (5, .int .i64 A), (7, .bool s), (8, .int .i64 last), (9, .int .i64 k)] ∧ mm = [.cells (El.cells (TownC.mk c ⟨a, ch⟩))] ∧ R = (s && risesL last (ch.drop k))) := ⟨_, fun _ _ _ => Iff.rfl⟩
        refine VW.loop_cut Inv ch.length ?_ ?_ ?_
        · exact ⟨_, _, (hI _ _ _).2 ⟨true, a, rfl, rfl, by rw [List.drop_zero, Bool.true_and]; exact hris2.symm⟩, ⟨1, [], by simp [enc_list,  hcl], by simp, by simp, by simp (implicitDefEqProofs := false) [enc_list,  hcl], by simp (implicitDefEqProofs := false) [enc_list,  hcl]⟩⟩
        · intro k f mm hk hv
          obtain ⟨s, last, rfl, rfl, hs⟩ := (hI _ _ _).1 hv
          have wk : IntKind.i64.wrap ((k : Int) + 1) = k + 1 := wrap64 (by omega) (by omega)
          rw [List.drop_eq_getElem_cons hk, risesL] at hs
          cases s
          · refine VW.run good [] ?_; simp (implicitDefEqProofs := false) [enc_list, hk, get_Change ch k hk, wk]
            exact ⟨_, _, (hI _ _ _).2 ⟨false, ch[k].Ahead, rfl, rfl, by rw [hs]; simp⟩, ⟨1, [], by simp [enc_list], by simp, by simp, by simp (implicitDefEqProofs := false) [enc_list], by simp (implicitDefEqProofs := false) [enc_list]⟩⟩
          · refine VW.run good [] ?_; simp (implicitDefEqProofs := false) [enc_list, hk, get_Change ch k hk, wk]
            exact ⟨_, _, (hI _ _ _).2 ⟨decide (last ≤ ch[k].Ahead), ch[k].Ahead, rfl, rfl, by rw [hs]; simp⟩, ⟨1, [], by simp [enc_list], by simp, by simp, by simp (implicitDefEqProofs := false) [enc_list], by simp (implicitDefEqProofs := false) [enc_list]⟩⟩
        · intro f mm hv
          obtain ⟨s, last, rfl, rfl, hs⟩ := (hI _ _ _).1 hv
          rw [List.drop_length, risesL, Bool.and_true] at hs
          subst hs
          refine VW.run good [] ?_; simp (implicitDefEqProofs := false) [enc_list]
          exact ⟨1, [], by simp [enc_list], by simp, by simp, by simp (implicitDefEqProofs := false) [enc_list], by simp (implicitDefEqProofs := false) [enc_list]⟩
      · simp (implicitDefEqProofs := false) [enc_list]
        refine .ofCut hc ?_
        refine VW.seq_cut [(1, .ptr 0 7 0), (3, .int .i64 n), (5, .int .i64 A), (7, .bool R), (10, .int .i64 z.Tick)] [.cells (El.cells (TownC.mk c ⟨a, ch⟩))] (VW.run good [] ?_) ?_; simp (implicitDefEqProofs := false) [enc_list, hcl, wl, c1, c3, hj, get_Change ch _ hj, hx, spliceV]
        · exact ⟨1, [], by simp [enc_list], by simp, by simp, by simp (implicitDefEqProofs := false) [enc_list], by simp (implicitDefEqProofs := false) [enc_list]⟩
        refine VW.seq_cut [(1, .ptr 0 7 0), (3, .int .i64 n), (5, .int .i64 A), (7, .bool R), (10, .int .i64 z.Tick), (11, .ptr 1 2 0)] [.cells (El.cells (TownC.mk c ⟨a, ch⟩)), .cells [.int .i64 a, enc ch]] (VW.run good [] ?_) ?_; simp (implicitDefEqProofs := false) [enc_list, hcl, spliceV]
        · exact ⟨2, [], by simp [enc_list], by simp, by simp, by simp (implicitDefEqProofs := false) [enc_list], by simp (implicitDefEqProofs := false) [enc_list]⟩
        have hRn : R = false ∨ R = true ∧ n = 0 := by
          cases R
          · exact .inl rfl
          · exact .inr ⟨rfl, hris rfl⟩
        clear hris
        by_cases hl0 : l = []
        · have hz : (l.length = 0) = True := by rw [hl0]; simp
          refine VW.seq_cut [(1, .ptr 0 7 0), (3, .int .i64 n), (5, .int .i64 A), (7, .bool R), (10, .int .i64 z.Tick), (11, .ptr 1 2 0)] [.cells (El.cells (TownC.mk c ⟨a, ch⟩)), .cells [.int .i64 a, .lst true 0 0 []]] (VW.run good [] ?_) ?_; simp (implicitDefEqProofs := false) [enc_list, hcl, wl, c1, c2, c3, htk, hz, appendV, okE, elemsV, slV, boundV, numV, mOk, spliceV]
          · exact ⟨2, [], by simp [enc_list], by simp, by simp, by simp (implicitDefEqProofs := false) [enc_list], by simp (implicitDefEqProofs := false) [enc_list]⟩
          have hX : (dec (PV.lst true 0 0 []) : Option (List Change)) = some l := by rw [hl0]; rfl
          rcases hRn with rfl | ⟨rfl, rfl⟩
          · refine VW.run good [] ?_; simp (implicitDefEqProofs := false) [enc_list, hX, r2, hcl, y0, get_Change ch 0 hc0, w1, w2, w3, w4, e1, y2, y3, spliceV]
          · simp only [Int.sub_zero, Int.zero_sub] at w2 w3 y2 y3
            refine VW.run good [] ?_; simp (implicitDefEqProofs := false) [enc_list, hX, r2, hcl, y0, get_Change ch 0 hc0, w1, w2, w3, w4, e1, y2, y3, spliceV]
        · have hz : (l.length = 0) = False := by simp [hl0]
          have hel : (encL l = []) = False := by
            cases l with
            | nil => exact absurd rfl hl0
            | cons a l => simp [encL]
          refine VW.seq_cut [(1, .ptr 0 7 0), (3, .int .i64 n), (5, .int .i64 A), (7, .bool R), (10, .int .i64 z.Tick), (11, .ptr 1 2 0)] [.cells (El.cells (TownC.mk c ⟨a, ch⟩)), .cells [.int .i64 a, .sl 2 (l.length * 2) 0 l.length (openCap + 2) 2], .vec (encL l)] (VW.run good [] ?_) ?_; simp (implicitDefEqProofs := false) [enc_list, hcl, wl, c1, c2, c3, htk, hz, appendV, okE, elemsV, slV, boundV, numV, mOk, spliceV, hf16, hel, newVec, encL_isF]
          · exact ⟨3, [], by simp [enc_list], by simp, by simp, by simp (implicitDefEqProofs := false) [enc_list], by simp (implicitDefEqProofs := false) [enc_list]⟩
          refine VW.freezeM (t := 2) (len := l.length * 2) (o := 0) (q := l.length) (cap := openCap + 2) (e := 2) (cs := [.int .i64 a, .sl 2 (l.length * 2) 0 l.length (openCap + 2) 2]) 1 1 rfl rfl (by decide) ?_
          have hfz : fzSl [.cells (El.cells (TownC.mk c ⟨a, ch⟩)), .cells [.int .i64 a, .sl 2 (l.length * 2) 0 l.length (openCap + 2) 2], .vec (encL l)] 2 (l.length * 2) 0 l.length (openCap + 2) 2 = .lst (openCap + 2 == l.length) l.length 2 (encL l) := by
            have := fzSl_vec (α := Change) [.cells (El.cells (TownC.mk c ⟨a, ch⟩)), .cells [.int .i64 a, .sl 2 (l.length * 2) 0 l.length (openCap + 2) 2], .vec (encL l)] 2 l rfl (by decide)
            rwa [if_neg (by simpa using hl0)] at this
          rw [hfz]
          generalize (openCap + 2 == l.length) = bx
          have hX : (dec (PV.lst bx l.length 2 (encL l)) : Option (List Change)) = some l := dec_lst bx l
          simp only [List.set_cons_succ, List.set_cons_zero]
          rcases hRn with rfl | ⟨rfl, rfl⟩
          · refine VW.run good [] ?_; simp (implicitDefEqProofs := false) [enc_list, hX, r2, hcl, y0, get_Change ch 0 hc0, w1, w2, w3, w4, e1, y2, y3, spliceV]
          · simp only [Int.sub_zero, Int.zero_sub] at w2 w3 y2 y3
            refine VW.run good [] ?_; simp (implicitDefEqProofs := false) [enc_list, hX, r2, hcl, y0, get_Change ch 0 hc0, w1, w2, w3, w4, e1, y2, y3, spliceV]
end Go.RS.DC

