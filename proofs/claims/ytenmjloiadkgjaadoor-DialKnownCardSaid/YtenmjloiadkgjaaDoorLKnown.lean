/- Walks: the law DialKnown: single calendars, readings and towns. -/
import Derived.Test.YtenmjloiadkgjaaDoorDla
set_option linter.all false
namespace Go.RS.DC
open Go Go.RS
open Go.RS.Enc (enc dec)
variable {E : VEnv}
structure Bad (c : Cal) : Prop where
  l : ∀ d, LengthR c d = (0, 10)
  t : TotalR c = (0, 10)
  r : ∀ k, ReadingR c k = (zeroRd, 10)
  k : ∀ r, TickR c r = (0, 10)
  a : ∀ r s, ApartR c r s = (0, 10)
  n : ∀ t e, NextR c t e = (0, 10)
  lo : ∀ t k, LocalR c t k = (zeroRd, 10)
  ti : ∀ t r, TicksR c t r = ([], 10)
  tw : ∀ t, TwiceR c t = (0, 10)
  ck : checkR c = 10
  ct : ∀ t, CheckTownR c t = 10
theorem bad_of {c : Cal} (h : okC c = false) : Bad c := by
  have ct : ∀ t, CheckTownR c t = 10 := fun t => by simp [CheckTownR, h]
  have tk : ∀ r, TickR c r = (0, 10) := fun r => by simp [TickR, h]
  exact ⟨fun d => by simp [LengthR, h], by simp [TotalR, h], fun k => by simp [ReadingR, h], tk, fun r s => by simp [ApartR, tk], fun t e => by simp [NextR, h], fun t k => by simp [LocalR, ct], fun t r => by simp [TicksR, ct], fun t => by simp [TwiceR, ct], by simp [checkR, h], ct⟩
theorem dl1 (a b : Int) : (dec (PV.lst true 1 2 [.int .i64 a, .int .i64 b]) : Option (List Change)) = some [⟨a, b⟩] := rfl
theorem dl2 (a b c d : Int) : (dec (PV.lst true 2 2 [.int .i64 a, .int .i64 b, .int .i64 c, .int .i64 d]) : Option (List Change)) = some [⟨a, b⟩, ⟨c, d⟩] := rfl
theorem dl7 (a1 b1 a2 b2 a3 b3 a4 b4 a5 b5 a6 b6 a7 b7 : Int) : (dec (PV.lst true 7 2 [.int .i64 a1, .int .i64 b1, .int .i64 a2, .int .i64 b2, .int .i64 a3, .int .i64 b3, .int .i64 a4, .int .i64 b4, .int .i64 a5, .int .i64 b5, .int .i64 a6, .int .i64 b6, .int .i64 a7, .int .i64 b7]) : Option (List Change)) = some [⟨a1, b1⟩, ⟨a2, b2⟩, ⟨a3, b3⟩, ⟨a4, b4⟩, ⟨a5, b5⟩, ⟨a6, b6⟩, ⟨a7, b7⟩] := rfl
theorem dd2 (a c : Int) (b d : Bool) : (dec (PV.lst true 2 2 [.int .i64 a, .bool b, .int .i64 c, .bool d]) : Option (List Decree)) = some [⟨a, b⟩, ⟨c, d⟩] := rfl
theorem di1 (a : Int) : (dec (PV.lst true 1 1 [.int .i64 a]) : Option (List Int)) = some [a] := rfl
theorem bad0 : Bad ⟨0, 0, 0, 0, []⟩ := bad_of (by decide +kernel)
theorem bad1 : Bad ⟨25, (weekR 0 true).Minutes, (weekR 0 true).Seconds, (weekR 0 true).Days, (weekR 0 true).Decrees⟩ := bad_of (by decide +kernel)
theorem bad2 : Bad ⟨(weekR 0 true).Hours, 61, (weekR 0 true).Seconds, (weekR 0 true).Days, (weekR 0 true).Decrees⟩ := bad_of (by decide +kernel)
theorem bad3 : Bad ⟨(weekR 0 true).Hours, (weekR 0 true).Minutes, 1, (weekR 0 true).Days, (weekR 0 true).Decrees⟩ := bad_of (by decide +kernel)
theorem bad4 : Bad ⟨(weekR 0 true).Hours, (weekR 0 true).Minutes, (weekR 0 true).Seconds, 11, (weekR 0 true).Decrees⟩ := bad_of (by decide +kernel)
theorem bad5 : Bad ⟨(weekR 0 true).Hours, (weekR 0 true).Minutes, 61, (weekR 0 true).Days, (weekR 0 true).Decrees⟩ := bad_of (by decide +kernel)
theorem bad6 : Bad ⟨(weekR 2 true).Hours, (weekR 2 true).Minutes, (weekR 2 true).Seconds, (weekR 2 true).Days, (weekR 2 true).Decrees⟩ := bad_of (by decide +kernel)
theorem bad7 : Bad ⟨(weekR (-1) true).Hours, (weekR (-1) true).Minutes, (weekR (-1) true).Seconds, (weekR (-1) true).Days, (weekR (-1) true).Decrees⟩ := bad_of (by decide +kernel)
theorem bad8 : Bad ⟨(weekR 0 true).Hours, (weekR 0 true).Minutes, (weekR 0 true).Seconds, (weekR 0 true).Days, [⟨1, false⟩, ⟨1, false⟩]⟩ := bad_of (by decide +kernel)
structure BadT (t : Town) : Prop where
  c : CheckTownR (weekR 0 true) t = 12
  l : LocalR (weekR 0 true) t (-1) = (zeroRd, 12)
  k : ∀ r, TicksR (weekR 0 true) t r = ([], 12)
  w : TwiceR (weekR 0 true) t = (0, 12)
theorem badT_of {t : Town} (h : CheckTownR (weekR 0 true) t = 12) : BadT t := ⟨h, by simp [LocalR, h], fun r => by simp [TicksR, h], by simp [TwiceR, h]⟩
theorem badT0 : BadT ⟨1441, []⟩ := badT_of (by decide +kernel)
theorem badT1 : BadT ⟨-1441, []⟩ := badT_of (by decide +kernel)
theorem badT2 : BadT ⟨0, [⟨0, 0⟩]⟩ := badT_of (by decide +kernel)
theorem badT3 : BadT ⟨0, [⟨241, 0⟩]⟩ := badT_of (by decide +kernel)
theorem badT4 : BadT ⟨0, [⟨5, 0⟩, ⟨5, 0⟩]⟩ := badT_of (by decide +kernel)
theorem badT5 : BadT ⟨0, [⟨5, 1441⟩]⟩ := badT_of (by decide +kernel)
theorem badT6 : BadT ⟨0, [⟨1, 0⟩, ⟨2, 0⟩, ⟨3, 0⟩, ⟨4, 0⟩, ⟨5, 0⟩, ⟨6, 0⟩, ⟨7, 0⟩]⟩ := badT_of (by decide +kernel)
theorem noTick_of {r : Reading} (h : TickR (weekR 0 true) r = (0, 4)) : TickR (weekR 0 true) r = (0, 4) ∧ ApartR (weekR 0 true) ⟨0, 0, 0, 0⟩ r = (0, 4) := by
  have h0 : TickR (weekR 0 true) ⟨0, 0, 0, 0⟩ = (0, 0) := by decide +kernel
  exact ⟨h, by simp [ApartR, h, h0]⟩
theorem no0 : TickR (weekR 0 true) ⟨1, 2, 3, 10⟩ = (0, 4) ∧ ApartR (weekR 0 true) ⟨0, 0, 0, 0⟩ ⟨1, 2, 3, 10⟩ = (0, 4) := noTick_of (by decide +kernel)
theorem no1 : TickR (weekR 0 true) ⟨0, 2, 2, 10⟩ = (0, 4) ∧ ApartR (weekR 0 true) ⟨0, 0, 0, 0⟩ ⟨0, 2, 2, 10⟩ = (0, 4) := noTick_of (by decide +kernel)
theorem no2 : TickR (weekR 0 true) ⟨0, 2, 3, 11⟩ = (0, 4) ∧ ApartR (weekR 0 true) ⟨0, 0, 0, 0⟩ ⟨0, 2, 3, 11⟩ = (0, 4) := noTick_of (by decide +kernel)
theorem no3 : TickR (weekR 0 true) ⟨2, 0, 0, 0⟩ = (0, 4) ∧ ApartR (weekR 0 true) ⟨0, 0, 0, 0⟩ ⟨2, 0, 0, 0⟩ = (0, 4) := noTick_of (by decide +kernel)
theorem no4 : TickR (weekR 0 true) ⟨-1, 0, 0, 0⟩ = (0, 4) ∧ ApartR (weekR 0 true) ⟨0, 0, 0, 0⟩ ⟨-1, 0, 0, 0⟩ = (0, 4) := noTick_of (by decide +kernel)
theorem no5 : TickR (weekR 0 true) ⟨0, 3, 0, 0⟩ = (0, 4) ∧ ApartR (weekR 0 true) ⟨0, 0, 0, 0⟩ ⟨0, 3, 0, 0⟩ = (0, 4) := noTick_of (by decide +kernel)
theorem no6 : TickR (weekR 0 true) ⟨0, 0, 4, 0⟩ = (0, 4) ∧ ApartR (weekR 0 true) ⟨0, 0, 0, 0⟩ ⟨0, 0, 4, 0⟩ = (0, 4) := noTick_of (by decide +kernel)
theorem no7 : TickR (weekR 0 true) ⟨0, 0, 0, -1⟩ = (0, 4) ∧ ApartR (weekR 0 true) ⟨0, 0, 0, 0⟩ ⟨0, 0, 0, -1⟩ = (0, 4) := noTick_of (by decide +kernel)
theorem kn0 : LengthR (weekR 0 true) 2 = (0, 11) := by decide +kernel
theorem kn1 : ReadingR (weekR 0 true) 241 = (zeroRd, 11) := by decide +kernel
theorem kn2 : ReadingR (weekR 0 true) (-1) = (zeroRd, 11) := by decide +kernel
theorem kn3 : NextR (weekR 0 true) 241 5 = (0, 11) := by decide +kernel
theorem kn4 : NextR (weekR 0 true) 0 61 = (0, 11) := by decide +kernel
theorem kn5 : NextR (weekR 0 true) 236 10 = (0, 4) := by decide +kernel
theorem kn6 : LocalR (weekR 0 true) townR 241 = (zeroRd, 11) := by decide +kernel
theorem kn7 : TickR (weekR 1 false) ⟨1, 2, 3, 9⟩ = (0, 4) := by decide +kernel
theorem kn8 : ReadingR (weekR 0 true) 240 = (⟨1, 2, 3, 9⟩, 0) := by decide +kernel
theorem kn9 : TotalR (weekR 1 false) = (239, 0) := by decide +kernel
theorem kn10 : LengthR (weekR 0 true) 1 = (120, 0) := by decide +kernel
theorem kn11 : NextR (weekR 0 true) 118 10 = (120, 0) := by decide +kernel
theorem kn12 : LocalR (weekR 0 true) townR 59 = (⟨0, 2, 2, 9⟩, 0) := by decide +kernel
theorem kn13 : LocalR (weekR 0 true) ⟨-1, []⟩ 0 = (⟨-1, 2, 3, 0⟩, 0) := by decide +kernel
theorem kn14 : TicksR (weekR 0 true) townR ⟨1, 2, 3, 0⟩ = ([201], 0) := by decide +kernel
theorem kn15 : TicksR (weekR 0 true) townR ⟨0, 0, 12, 0⟩ = ([], 0) := by decide +kernel
abbrev badV0 : List PV := [.int .i64 0, .int .i64 0, .int .i64 0, .int .i64 0, .nilS, .int .i64 (weekR 0 true).Hours, .int .i64 (weekR 0 true).Minutes, .int .i64 (weekR 0 true).Seconds, .int .i64 (weekR 0 true).Days, .lst false (weekR 0 true).Decrees.length 2 (encL (weekR 0 true).Decrees), .int .i64 (weekR 0 true).Hours, .int .i64 (weekR 0 true).Minutes, .int .i64 (weekR 0 true).Seconds, .int .i64 (weekR 0 true).Days, .lst false (weekR 0 true).Decrees.length 2 (encL (weekR 0 true).Decrees), .int .i64 (weekR 0 true).Hours, .int .i64 (weekR 0 true).Minutes, .int .i64 (weekR 0 true).Seconds, .int .i64 (weekR 0 true).Days, .lst false (weekR 0 true).Decrees.length 2 (encL (weekR 0 true).Decrees), .int .i64 (weekR 0 true).Hours, .int .i64 (weekR 0 true).Minutes, .int .i64 (weekR 0 true).Seconds, .int .i64 (weekR 0 true).Days, .lst false (weekR 0 true).Decrees.length 2 (encL (weekR 0 true).Decrees), .int .i64 (weekR 0 true).Hours, .int .i64 (weekR 0 true).Minutes, .int .i64 (weekR 0 true).Seconds, .int .i64 (weekR 0 true).Days, .lst false (weekR 0 true).Decrees.length 2 (encL (weekR 0 true).Decrees), .int .i64 (weekR 2 true).Hours, .int .i64 (weekR 2 true).Minutes, .int .i64 (weekR 2 true).Seconds, .int .i64 (weekR 2 true).Days, .lst false (weekR 2 true).Decrees.length 2 (encL (weekR 2 true).Decrees), .int .i64 (weekR (-1) true).Hours, .int .i64 (weekR (-1) true).Minutes, .int .i64 (weekR (-1) true).Seconds, .int .i64 (weekR (-1) true).Days, .lst false (weekR (-1) true).Decrees.length 2 (encL (weekR (-1) true).Decrees), .int .i64 (weekR 0 true).Hours, .int .i64 (weekR 0 true).Minutes, .int .i64 (weekR 0 true).Seconds, .int .i64 (weekR 0 true).Days, .lst false (weekR 0 true).Decrees.length 2 (encL (weekR 0 true).Decrees)]
abbrev badV : List PV := [.int .i64 0, .int .i64 0, .int .i64 0, .int .i64 0, .nilS, .int .i64 25, .int .i64 (weekR 0 true).Minutes, .int .i64 (weekR 0 true).Seconds, .int .i64 (weekR 0 true).Days, .lst false (weekR 0 true).Decrees.length 2 (encL (weekR 0 true).Decrees), .int .i64 (weekR 0 true).Hours, .int .i64 61, .int .i64 (weekR 0 true).Seconds, .int .i64 (weekR 0 true).Days, .lst false (weekR 0 true).Decrees.length 2 (encL (weekR 0 true).Decrees), .int .i64 (weekR 0 true).Hours, .int .i64 (weekR 0 true).Minutes, .int .i64 1, .int .i64 (weekR 0 true).Days, .lst false (weekR 0 true).Decrees.length 2 (encL (weekR 0 true).Decrees), .int .i64 (weekR 0 true).Hours, .int .i64 (weekR 0 true).Minutes, .int .i64 (weekR 0 true).Seconds, .int .i64 11, .lst false (weekR 0 true).Decrees.length 2 (encL (weekR 0 true).Decrees), .int .i64 (weekR 0 true).Hours, .int .i64 (weekR 0 true).Minutes, .int .i64 61, .int .i64 (weekR 0 true).Days, .lst false (weekR 0 true).Decrees.length 2 (encL (weekR 0 true).Decrees), .int .i64 (weekR 2 true).Hours, .int .i64 (weekR 2 true).Minutes, .int .i64 (weekR 2 true).Seconds, .int .i64 (weekR 2 true).Days, .lst false (weekR 2 true).Decrees.length 2 (encL (weekR 2 true).Decrees), .int .i64 (weekR (-1) true).Hours, .int .i64 (weekR (-1) true).Minutes, .int .i64 (weekR (-1) true).Seconds, .int .i64 (weekR (-1) true).Days, .lst false (weekR (-1) true).Decrees.length 2 (encL (weekR (-1) true).Decrees), .int .i64 (weekR 0 true).Hours, .int .i64 (weekR 0 true).Minutes, .int .i64 (weekR 0 true).Seconds, .int .i64 (weekR 0 true).Days, .lst true 2 2 [.int .i64 1, .bool false, .int .i64 1, .bool false]]
abbrev townV : List PV := [.int .i64 1441, .nilS, .int .i64 (-1441), .nilS, .int .i64 0, .lst true 1 2 [.int .i64 0, .int .i64 0], .int .i64 0, .lst true 1 2 [.int .i64 241, .int .i64 0], .int .i64 0, .lst true 2 2 [.int .i64 5, .int .i64 0, .int .i64 5, .int .i64 0], .int .i64 0, .lst true 1 2 [.int .i64 5, .int .i64 1441], .int .i64 0, .lst true 7 2 [.int .i64 1, .int .i64 0, .int .i64 2, .int .i64 0, .int .i64 3, .int .i64 0, .int .i64 4, .int .i64 0, .int .i64 5, .int .i64 0, .int .i64 6, .int .i64 0, .int .i64 7, .int .i64 0]]
abbrev readV : List PV := [.int .i64 1, .int .i64 2, .int .i64 3, .int .i64 10, .int .i64 0, .int .i64 2, .int .i64 2, .int .i64 10, .int .i64 0, .int .i64 2, .int .i64 3, .int .i64 11, .int .i64 2, .int .i64 0, .int .i64 0, .int .i64 0, .int .i64 (-1), .int .i64 0, .int .i64 0, .int .i64 0, .int .i64 0, .int .i64 3, .int .i64 0, .int .i64 0, .int .i64 0, .int .i64 0, .int .i64 4, .int .i64 0, .int .i64 0, .int .i64 0, .int .i64 0, .int .i64 (-1)]
set_option maxHeartbeats 12800000 in
set_option maxRecDepth 100000 in
theorem l_Known (hE : E.env.fn = G) (hgl : E.gl 0 = some [f130v, f131v]) : VP E 15 [] (.bool true) := by
  have good := goodV_cons (w_at hE) (goodV_cons (w_week hE) (goodV_cons (w_town hE) (goodV_cons (w_ReadingP hE hgl) (goodV_cons (w_TickP hE hgl) (goodV_cons (w_ApartP hE hgl) (goodV_cons (w_NextP hE hgl) (goodV_cons (w_LengthP hE) (goodV_cons (w_TotalP hE)
    (goodV_cons (w_LocalP hE hgl) (goodV_cons (w_TicksP hE hgl) (goodV_cons (w_TwiceP hE hgl) (goodV_cons (w_Alike hE) (goodV_cons (w_CheckP hE) (goodV_cons (w_CheckTownP hE) (goodV_cons (w_works hE hgl) goodV_nil)))))))))))))))
  refine VP.func (A := F15) (by rw [hE]; rfl) (by simp [F15]) ?_; unfold F15
  refine VW.seq_cut [] [] (VW.run good [] ?_) ?_; simp (implicitDefEqProofs := false) [enc_list]
  · exact ⟨0, [], by simp [enc_list], by simp, by simp, by simp (implicitDefEqProofs := false) [enc_list], by simp (implicitDefEqProofs := false) [enc_list]⟩
  refine VW.seq_cut [(1, .sl 0 45 0 9 9 5)] [.vec badV0] (VW.run good [68] ?_) ?_; simp (implicitDefEqProofs := false) [enc_list, spliceV]
  · exact ⟨1, [], by simp [enc_list], by simp, by simp, by simp (implicitDefEqProofs := false) [enc_list], by simp (implicitDefEqProofs := false) [enc_list]⟩
  refine VW.seq (VW.run good [] ?_); simp (implicitDefEqProofs := false) [enc_list, spliceV]
  refine VW.seq (VW.run good [] ?_); simp (implicitDefEqProofs := false) [enc_list, spliceV]
  refine VW.seq (VW.run good [] ?_); simp (implicitDefEqProofs := false) [enc_list, spliceV]
  refine VW.seq (VW.run good [] ?_); simp (implicitDefEqProofs := false) [enc_list, spliceV]
  refine VW.seq (VW.run good [] ?_); simp (implicitDefEqProofs := false) [enc_list, spliceV]
  refine VW.seq (VW.run good [] ?_); simp (implicitDefEqProofs := false) [enc_list, spliceV]
  refine VW.run good [] ?_; simp (implicitDefEqProofs := false) [enc_list, spliceV]
  refine VW.loop_to 0 [] [] (True) ?_ (fun hp f m hc => ?_)
  · obtain ⟨Inv, hI⟩ : ∃ Inv : Nat → List (Nat × PV) → VM → Prop, ∀ k f m, Inv k f m ↔ (f = [(1, .sl 0 45 0 9 9 5), (2, .int .i64 k)] ∧ m = [.vec badV]) := ⟨_, fun _ _ _ => Iff.rfl⟩
    refine VW.loop_cut Inv 9 ?_ ?_ ?_
    · exact ⟨_, _, (hI _ _ _).2 ⟨rfl, rfl⟩, ⟨1, [], by simp [enc_list], by simp, by simp, by simp (implicitDefEqProofs := false) [enc_list], by simp (implicitDefEqProofs := false) [enc_list]⟩⟩
    · intro k f m hk hv
      obtain ⟨rfl, rfl⟩ := (hI _ _ _).1 hv
      obtain rfl | rfl | rfl | rfl | rfl | rfl | rfl | rfl | rfl : k = 0 ∨ k = 1 ∨ k = 2 ∨ k = 3 ∨ k = 4 ∨ k = 5 ∨ k = 6 ∨ k = 7 ∨ k = 8 := by omega
      · have wk : IntKind.i64.wrap 1 = 1 := by decide
        refine VW.run good [] ?_; simp (implicitDefEqProofs := false) [enc_list, bad0.l, bad0.t, bad0.r, bad0.k, bad0.a, bad0.n, bad0.lo, bad0.ti, bad0.tw, bad0.ck, bad0.ct, wk, dd2, zeroRd, spliceV]
        exact ⟨_, _, (hI _ _ _).2 ⟨rfl, rfl⟩, ⟨1, [], by simp [enc_list], by simp, by simp, by simp (implicitDefEqProofs := false) [enc_list], by simp (implicitDefEqProofs := false) [enc_list]⟩⟩
      · have wk : IntKind.i64.wrap 2 = 2 := by decide
        refine VW.run good [] ?_; simp (implicitDefEqProofs := false) [enc_list, bad1.l, bad1.t, bad1.r, bad1.k, bad1.a, bad1.n, bad1.lo, bad1.ti, bad1.tw, bad1.ck, bad1.ct, wk, dd2, zeroRd, spliceV]
        exact ⟨_, _, (hI _ _ _).2 ⟨rfl, rfl⟩, ⟨1, [], by simp [enc_list], by simp, by simp, by simp (implicitDefEqProofs := false) [enc_list], by simp (implicitDefEqProofs := false) [enc_list]⟩⟩
      · have wk : IntKind.i64.wrap 3 = 3 := by decide
        refine VW.run good [] ?_; simp (implicitDefEqProofs := false) [enc_list, bad2.l, bad2.t, bad2.r, bad2.k, bad2.a, bad2.n, bad2.lo, bad2.ti, bad2.tw, bad2.ck, bad2.ct, wk, dd2, zeroRd, spliceV]
        exact ⟨_, _, (hI _ _ _).2 ⟨rfl, rfl⟩, ⟨1, [], by simp [enc_list], by simp, by simp, by simp (implicitDefEqProofs := false) [enc_list], by simp (implicitDefEqProofs := false) [enc_list]⟩⟩
      · have wk : IntKind.i64.wrap 4 = 4 := by decide
        refine VW.run good [] ?_; simp (implicitDefEqProofs := false) [enc_list, bad3.l, bad3.t, bad3.r, bad3.k, bad3.a, bad3.n, bad3.lo, bad3.ti, bad3.tw, bad3.ck, bad3.ct, wk, dd2, zeroRd, spliceV]
        exact ⟨_, _, (hI _ _ _).2 ⟨rfl, rfl⟩, ⟨1, [], by simp [enc_list], by simp, by simp, by simp (implicitDefEqProofs := false) [enc_list], by simp (implicitDefEqProofs := false) [enc_list]⟩⟩
      · have wk : IntKind.i64.wrap 5 = 5 := by decide
        refine VW.run good [] ?_; simp (implicitDefEqProofs := false) [enc_list, bad4.l, bad4.t, bad4.r, bad4.k, bad4.a, bad4.n, bad4.lo, bad4.ti, bad4.tw, bad4.ck, bad4.ct, wk, dd2, zeroRd, spliceV]
        exact ⟨_, _, (hI _ _ _).2 ⟨rfl, rfl⟩, ⟨1, [], by simp [enc_list], by simp, by simp, by simp (implicitDefEqProofs := false) [enc_list], by simp (implicitDefEqProofs := false) [enc_list]⟩⟩
      · have wk : IntKind.i64.wrap 6 = 6 := by decide
        refine VW.run good [] ?_; simp (implicitDefEqProofs := false) [enc_list, bad5.l, bad5.t, bad5.r, bad5.k, bad5.a, bad5.n, bad5.lo, bad5.ti, bad5.tw, bad5.ck, bad5.ct, wk, dd2, zeroRd, spliceV]
        exact ⟨_, _, (hI _ _ _).2 ⟨rfl, rfl⟩, ⟨1, [], by simp [enc_list], by simp, by simp, by simp (implicitDefEqProofs := false) [enc_list], by simp (implicitDefEqProofs := false) [enc_list]⟩⟩
      · have wk : IntKind.i64.wrap 7 = 7 := by decide
        refine VW.run good [] ?_; simp (implicitDefEqProofs := false) [enc_list, bad6.l, bad6.t, bad6.r, bad6.k, bad6.a, bad6.n, bad6.lo, bad6.ti, bad6.tw, bad6.ck, bad6.ct, wk, dd2, zeroRd, spliceV]
        exact ⟨_, _, (hI _ _ _).2 ⟨rfl, rfl⟩, ⟨1, [], by simp [enc_list], by simp, by simp, by simp (implicitDefEqProofs := false) [enc_list], by simp (implicitDefEqProofs := false) [enc_list]⟩⟩
      · have wk : IntKind.i64.wrap 8 = 8 := by decide
        refine VW.run good [] ?_; simp (implicitDefEqProofs := false) [enc_list, bad7.l, bad7.t, bad7.r, bad7.k, bad7.a, bad7.n, bad7.lo, bad7.ti, bad7.tw, bad7.ck, bad7.ct, wk, dd2, zeroRd, spliceV]
        exact ⟨_, _, (hI _ _ _).2 ⟨rfl, rfl⟩, ⟨1, [], by simp [enc_list], by simp, by simp, by simp (implicitDefEqProofs := false) [enc_list], by simp (implicitDefEqProofs := false) [enc_list]⟩⟩
      · have wk : IntKind.i64.wrap 9 = 9 := by decide
        refine VW.run good [] ?_; simp (implicitDefEqProofs := false) [enc_list, bad8.l, bad8.t, bad8.r, bad8.k, bad8.a, bad8.n, bad8.lo, bad8.ti, bad8.tw, bad8.ck, bad8.ct, wk, dd2, zeroRd, spliceV]
        exact ⟨_, _, (hI _ _ _).2 ⟨rfl, rfl⟩, ⟨1, [], by simp [enc_list], by simp, by simp, by simp (implicitDefEqProofs := false) [enc_list], by simp (implicitDefEqProofs := false) [enc_list]⟩⟩
    · intro f m hv
      obtain ⟨rfl, rfl⟩ := (hI _ _ _).1 hv
      refine VW.run good [] ?_; simp (implicitDefEqProofs := false) [enc_list]
      exact ⟨0, [], by simp [enc_list], by simp, by simp, by simp (implicitDefEqProofs := false) [enc_list], by simp (implicitDefEqProofs := false) [enc_list]⟩
  · simp (implicitDefEqProofs := false); refine .ofCut hc (VW.run good [] ?_); simp (implicitDefEqProofs := false) [enc_list, spliceV]
    refine VW.loop_to 2 [] [] (True) ?_ (fun hp f m hc => ?_)
    · obtain ⟨Inv, hI⟩ : ∃ Inv : Nat → List (Nat × PV) → VM → Prop, ∀ k f m, Inv k f m ↔ (f = [(21, .lst true 7 2 townV), (22, .int .i64 k)] ∧ m = []) := ⟨_, fun _ _ _ => Iff.rfl⟩
      refine VW.loop_cut Inv 7 ?_ ?_ ?_
      · exact ⟨_, _, (hI _ _ _).2 ⟨rfl, rfl⟩, ⟨0, [], by simp [enc_list], by simp, by simp, by simp (implicitDefEqProofs := false) [enc_list], by simp (implicitDefEqProofs := false) [enc_list]⟩⟩
      · intro k f m hk hv
        obtain ⟨rfl, rfl⟩ := (hI _ _ _).1 hv
        obtain rfl | rfl | rfl | rfl | rfl | rfl | rfl : k = 0 ∨ k = 1 ∨ k = 2 ∨ k = 3 ∨ k = 4 ∨ k = 5 ∨ k = 6 := by omega
        · have wk : IntKind.i64.wrap 1 = 1 := by decide
          refine VW.run good [] ?_; simp (implicitDefEqProofs := false) [enc_list, badT0.c, badT0.l, badT0.k, badT0.w, wk, dl1, dl2, dl7, zeroRd, spliceV]
          exact ⟨_, _, (hI _ _ _).2 ⟨rfl, rfl⟩, ⟨0, [], by simp [enc_list], by simp, by simp, by simp (implicitDefEqProofs := false) [enc_list], by simp (implicitDefEqProofs := false) [enc_list]⟩⟩
        · have wk : IntKind.i64.wrap 2 = 2 := by decide
          refine VW.run good [] ?_; simp (implicitDefEqProofs := false) [enc_list, badT1.c, badT1.l, badT1.k, badT1.w, wk, dl1, dl2, dl7, zeroRd, spliceV]
          exact ⟨_, _, (hI _ _ _).2 ⟨rfl, rfl⟩, ⟨0, [], by simp [enc_list], by simp, by simp, by simp (implicitDefEqProofs := false) [enc_list], by simp (implicitDefEqProofs := false) [enc_list]⟩⟩
        · have wk : IntKind.i64.wrap 3 = 3 := by decide
          refine VW.run good [] ?_; simp (implicitDefEqProofs := false) [enc_list, badT2.c, badT2.l, badT2.k, badT2.w, wk, dl1, dl2, dl7, zeroRd, spliceV]
          exact ⟨_, _, (hI _ _ _).2 ⟨rfl, rfl⟩, ⟨0, [], by simp [enc_list], by simp, by simp, by simp (implicitDefEqProofs := false) [enc_list], by simp (implicitDefEqProofs := false) [enc_list]⟩⟩
        · have wk : IntKind.i64.wrap 4 = 4 := by decide
          refine VW.run good [] ?_; simp (implicitDefEqProofs := false) [enc_list, badT3.c, badT3.l, badT3.k, badT3.w, wk, dl1, dl2, dl7, zeroRd, spliceV]
          exact ⟨_, _, (hI _ _ _).2 ⟨rfl, rfl⟩, ⟨0, [], by simp [enc_list], by simp, by simp, by simp (implicitDefEqProofs := false) [enc_list], by simp (implicitDefEqProofs := false) [enc_list]⟩⟩
        · have wk : IntKind.i64.wrap 5 = 5 := by decide
          refine VW.run good [] ?_; simp (implicitDefEqProofs := false) [enc_list, badT4.c, badT4.l, badT4.k, badT4.w, wk, dl1, dl2, dl7, zeroRd, spliceV]
          exact ⟨_, _, (hI _ _ _).2 ⟨rfl, rfl⟩, ⟨0, [], by simp [enc_list], by simp, by simp, by simp (implicitDefEqProofs := false) [enc_list], by simp (implicitDefEqProofs := false) [enc_list]⟩⟩
        · have wk : IntKind.i64.wrap 6 = 6 := by decide
          refine VW.run good [] ?_; simp (implicitDefEqProofs := false) [enc_list, badT5.c, badT5.l, badT5.k, badT5.w, wk, dl1, dl2, dl7, zeroRd, spliceV]
          exact ⟨_, _, (hI _ _ _).2 ⟨rfl, rfl⟩, ⟨0, [], by simp [enc_list], by simp, by simp, by simp (implicitDefEqProofs := false) [enc_list], by simp (implicitDefEqProofs := false) [enc_list]⟩⟩
        · have wk : IntKind.i64.wrap 7 = 7 := by decide
          refine VW.run good [] ?_; simp (implicitDefEqProofs := false) [enc_list, badT6.c, badT6.l, badT6.k, badT6.w, wk, dl1, dl2, dl7, zeroRd, spliceV]
          exact ⟨_, _, (hI _ _ _).2 ⟨rfl, rfl⟩, ⟨0, [], by simp [enc_list], by simp, by simp, by simp (implicitDefEqProofs := false) [enc_list], by simp (implicitDefEqProofs := false) [enc_list]⟩⟩
      · intro f m hv
        obtain ⟨rfl, rfl⟩ := (hI _ _ _).1 hv
        refine VW.run good [] ?_; simp (implicitDefEqProofs := false) [enc_list]
        exact ⟨0, [], by simp [enc_list], by simp, by simp, by simp (implicitDefEqProofs := false) [enc_list], by simp (implicitDefEqProofs := false) [enc_list]⟩
    · simp (implicitDefEqProofs := false); refine .ofCut hc (VW.run good [] ?_); simp (implicitDefEqProofs := false) [enc_list, spliceV]
      refine VW.loop_to 4 [] [] (True) ?_ (fun hp f m hc => ?_)
      · obtain ⟨Inv, hI⟩ : ∃ Inv : Nat → List (Nat × PV) → VM → Prop, ∀ k f m, Inv k f m ↔ (f = [(29, .lst true 8 4 readV), (30, .int .i64 k)] ∧ m = []) := ⟨_, fun _ _ _ => Iff.rfl⟩
        refine VW.loop_cut Inv 8 ?_ ?_ ?_
        · exact ⟨_, _, (hI _ _ _).2 ⟨rfl, rfl⟩, ⟨0, [], by simp [enc_list], by simp, by simp, by simp (implicitDefEqProofs := false) [enc_list], by simp (implicitDefEqProofs := false) [enc_list]⟩⟩
        · intro k f m hk hv
          obtain ⟨rfl, rfl⟩ := (hI _ _ _).1 hv
          obtain rfl | rfl | rfl | rfl | rfl | rfl | rfl | rfl : k = 0 ∨ k = 1 ∨ k = 2 ∨ k = 3 ∨ k = 4 ∨ k = 5 ∨ k = 6 ∨ k = 7 := by omega
          · have wk : IntKind.i64.wrap 1 = 1 := by decide
            refine VW.run good [] ?_; simp (implicitDefEqProofs := false) [enc_list, no0.1, no0.2, wk, spliceV]
            exact ⟨_, _, (hI _ _ _).2 ⟨rfl, rfl⟩, ⟨0, [], by simp [enc_list], by simp, by simp, by simp (implicitDefEqProofs := false) [enc_list], by simp (implicitDefEqProofs := false) [enc_list]⟩⟩
          · have wk : IntKind.i64.wrap 2 = 2 := by decide
            refine VW.run good [] ?_; simp (implicitDefEqProofs := false) [enc_list, no1.1, no1.2, wk, spliceV]
            exact ⟨_, _, (hI _ _ _).2 ⟨rfl, rfl⟩, ⟨0, [], by simp [enc_list], by simp, by simp, by simp (implicitDefEqProofs := false) [enc_list], by simp (implicitDefEqProofs := false) [enc_list]⟩⟩
          · have wk : IntKind.i64.wrap 3 = 3 := by decide
            refine VW.run good [] ?_; simp (implicitDefEqProofs := false) [enc_list, no2.1, no2.2, wk, spliceV]
            exact ⟨_, _, (hI _ _ _).2 ⟨rfl, rfl⟩, ⟨0, [], by simp [enc_list], by simp, by simp, by simp (implicitDefEqProofs := false) [enc_list], by simp (implicitDefEqProofs := false) [enc_list]⟩⟩
          · have wk : IntKind.i64.wrap 4 = 4 := by decide
            refine VW.run good [] ?_; simp (implicitDefEqProofs := false) [enc_list, no3.1, no3.2, wk, spliceV]
            exact ⟨_, _, (hI _ _ _).2 ⟨rfl, rfl⟩, ⟨0, [], by simp [enc_list], by simp, by simp, by simp (implicitDefEqProofs := false) [enc_list], by simp (implicitDefEqProofs := false) [enc_list]⟩⟩
          · have wk : IntKind.i64.wrap 5 = 5 := by decide
            refine VW.run good [] ?_; simp (implicitDefEqProofs := false) [enc_list, no4.1, no4.2, wk, spliceV]
            exact ⟨_, _, (hI _ _ _).2 ⟨rfl, rfl⟩, ⟨0, [], by simp [enc_list], by simp, by simp, by simp (implicitDefEqProofs := false) [enc_list], by simp (implicitDefEqProofs := false) [enc_list]⟩⟩
          · have wk : IntKind.i64.wrap 6 = 6 := by decide
            refine VW.run good [] ?_; simp (implicitDefEqProofs := false) [enc_list, no5.1, no5.2, wk, spliceV]
            exact ⟨_, _, (hI _ _ _).2 ⟨rfl, rfl⟩, ⟨0, [], by simp [enc_list], by simp, by simp, by simp (implicitDefEqProofs := false) [enc_list], by simp (implicitDefEqProofs := false) [enc_list]⟩⟩
          · have wk : IntKind.i64.wrap 7 = 7 := by decide
            refine VW.run good [] ?_; simp (implicitDefEqProofs := false) [enc_list, no6.1, no6.2, wk, spliceV]
            exact ⟨_, _, (hI _ _ _).2 ⟨rfl, rfl⟩, ⟨0, [], by simp [enc_list], by simp, by simp, by simp (implicitDefEqProofs := false) [enc_list], by simp (implicitDefEqProofs := false) [enc_list]⟩⟩
          · have wk : IntKind.i64.wrap 8 = 8 := by decide
            refine VW.run good [] ?_; simp (implicitDefEqProofs := false) [enc_list, no7.1, no7.2, wk, spliceV]
            exact ⟨_, _, (hI _ _ _).2 ⟨rfl, rfl⟩, ⟨0, [], by simp [enc_list], by simp, by simp, by simp (implicitDefEqProofs := false) [enc_list], by simp (implicitDefEqProofs := false) [enc_list]⟩⟩
        · intro f m hv
          obtain ⟨rfl, rfl⟩ := (hI _ _ _).1 hv
          refine VW.run good [] ?_; simp (implicitDefEqProofs := false) [enc_list]
          exact ⟨0, [], by simp [enc_list], by simp, by simp, by simp (implicitDefEqProofs := false) [enc_list], by simp (implicitDefEqProofs := false) [enc_list]⟩
      · simp (implicitDefEqProofs := false); refine .ofCut hc (VW.run good [] ?_); simp (implicitDefEqProofs := false) [enc_list, kn0, kn1, kn2, kn3, kn4, kn5, kn6, kn7, kn8, kn9, kn10, kn11, kn12, kn13, kn14, kn15, di1, zeroRd, spliceV]
end Go.RS.DC

