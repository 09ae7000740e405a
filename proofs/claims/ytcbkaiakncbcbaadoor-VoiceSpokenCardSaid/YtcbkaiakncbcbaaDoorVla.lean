/- Walks: lists that come before others; a number of a span. -/
import Derived.Test.YtcbkaiakncbcbaaDoorVwc
import Derived.Test.YtcbkaiakncbcbaaDoorDxa
import Derived.Test.YtcbkaiakncbcbaaDoorVpb
set_option linter.all false
namespace Go.RS.DC
open Go Go.RS
open Go.RS.Enc (enc dec)
variable {E : VEnv}
/-- A number of a span: what the program tells. -/
def fromF (s : Span) (n : Int) : Option Int := if -4000000000000000000 ≤ s.Low ∧ s.High ≤ 4000000000000000000 then some (fromR s n) else none
theorem w_From (hE : E.env.fn = G) : Ok E 43 (s2 fromF) := by
  refine ok2 fun s n r hr => ?_
  unfold fromF at hr
  split at hr
  · rename_i hb
    cases hr
    have good := goodV_cons (w_Rest hE) goodV_nil
    by_cases hl : s.High ≤ s.Low
    · have hf : fromR s n = s.Low := if_pos hl
      refine VP.run (A := F43) (good) [] (by rw [hE]; rfl) (by simp [F43]) ?_; unfold F43; simp (implicitDefEqProofs := false) [enc_list, hl, hf]
    · have hf : fromR s n = s.Low + n % (s.High - s.Low + 1) := if_neg hl
      have w1 : IntKind.i64.wrap (s.High - s.Low) = s.High - s.Low := wrap64 (by omega) (by omega)
      have w2 : IntKind.i64.wrap (s.High - s.Low + 1) = s.High - s.Low + 1 := wrap64 (by omega) (by omega)
      have e0 := Int.emod_nonneg n (show s.High - s.Low + 1 ≠ 0 by omega)
      have e1 := Int.emod_lt_of_pos n (show 0 < s.High - s.Low + 1 by omega)
      have w3 : IntKind.i64.wrap (s.Low + n % (s.High - s.Low + 1)) = s.Low + n % (s.High - s.Low + 1) := wrap64 (by omega) (by omega)
      have h2 : ¬ s.High - s.Low + 1 < 1 := by omega
      have h3 : restF n (s.High - s.Low + 1) = some (n % (s.High - s.Low + 1)) := if_pos ⟨by omega, by omega⟩
      refine VP.run (A := F43) (good) [] (by rw [hE]; rfl) (by simp [F43]) ?_; unfold F43; simp (implicitDefEqProofs := false) [enc_list, hl, hf, w1, w2, w3, h2, h3]
  · cases hr
end Go.RS.DC

/- Walks: what the laws share (1): sound books, texts that pieces say. -/
namespace Go.RS.DC
open Go Go.RS
open Go.RS.Enc (enc dec)
variable {E : VEnv}
theorem v_Valid (hE : E.env.fn = G) : Ok E 56 (s3 fun (s : Span) a b => some (spanOk s a b)) := by
  refine ok3 fun s a b r hr => ?_
  cases hr
  have e : spanOk s a b = (decide (s.Low ≤ s.High) && decide (a ≤ s.Low) && decide (s.High ≤ b)) := by
    unfold spanOk; rw [Bool.and_comm (decide (a ≤ s.Low))]
  rw [e]
  refine VP.run (A := F56) (goodV_nil) [] (by rw [hE]; rfl) (by simp [F56]) ?_; unfold F56; simp (implicitDefEqProofs := false) [enc_list]
  repeat' (first | (refine vstep_split (fun hb => ?_) (fun hb => ?_) <;> (try simp only [Bool.not_eq_eq_eq_not, Bool.not_true, Bool.not_false, decide_eq_true_eq, decide_eq_false_iff_not] at hb) <;> simp (implicitDefEqProofs := false) [hb, enc_list]) | (refine vcond_split (fun hb => ?_) (fun hb => ?_) <;> (try simp only [Bool.not_eq_eq_eq_not, Bool.not_true, Bool.not_false, decide_eq_true_eq, decide_eq_false_iff_not] at hb) <;> simp (implicitDefEqProofs := false) [hb, enc_list]))
theorem v_sound (hE : E.env.fn = G) : Ok E 32 (s1 fun b => some (okB b)) := by
  refine ok1 fun b r hr => ?_
  cases hr
  have good := goodV_cons (v_Check hE) (goodV_cons (w_Lies hE) (goodV_cons (v_Valid hE) goodV_nil))
  cases ho : okB b
  · have hck : checkB b = 50 := by unfold checkB; rw [ho]; rfl
    refine VP.run (A := F32) (good) [] (by rw [hE]; rfl) (by simp [F32]) ?_; unfold F32; simp (implicitDefEqProofs := false) [enc_list, hck]
    refine VW.loop_to 0 [(3, .bool false)] [] (True) ?_ (fun hp f m hc => ?_)
    · obtain ⟨Inv, hI⟩ : ∃ Inv : Nat → List (Nat × PV) → VM → Prop, ∀ k f m, Inv k f m ↔ (f = [(1, .ptr 0 6 0), (3, .bool false), (4, .int .i64 0)] ∧ m = [bcl b]) := ⟨_, fun _ _ _ => Iff.rfl⟩
      refine VW.loop_cut Inv 0 ?_ ?_ ?_
      · exact ⟨_, _, (hI _ _ _).2 ⟨rfl, rfl⟩, ⟨1, [], by simp [enc_list], by simp, by simp, by simp (implicitDefEqProofs := false) [enc_list], by simp (implicitDefEqProofs := false) [enc_list]⟩⟩
      · intro k f m hk hi
        omega
      · intro f m hi
        obtain ⟨rfl, rfl⟩ := (hI _ _ _).1 hi
        refine VW.run good [] ?_; simp (implicitDefEqProofs := false) [enc_list]
        exact ⟨0, [], by simp [enc_list], by simp, by simp, by simp (implicitDefEqProofs := false) [enc_list], by simp (implicitDefEqProofs := false) [enc_list]⟩
    · simp (implicitDefEqProofs := false); refine .ofCut hc (VW.run good [] ?_); simp (implicitDefEqProofs := false) [enc_list]
  · have hck : checkB b = 0 := by unfold checkB; rw [ho]; rfl
    have o := okB_ok ho
    have e1 : wi b.Discs.length 1 4 = true := (wi_iff _ _ _).2 ⟨by have := o.d1; omega, by have := o.d2; omega⟩
    have e2 : wi b.Pieces.length 1 10 = true := (wi_iff _ _ _).2 ⟨by have := o.p1; omega, by have := o.p2; omega⟩
    have e3 : spanOk b.Pause 0 200 = true := (spanOk_iff _ _ _).2 ⟨o.a0, o.a1, o.a2⟩
    have e4 : spanOk b.Rest 0 500 = true := (spanOk_iff _ _ _).2 ⟨o.r0, o.r1, o.r2⟩
    have d2 := o.d2
    have p2 := o.p2
    have wd : IntKind.i64.wrap ((b.Discs.length : Int) - 1) = b.Discs.length - 1 := wrap64 (by omega) (by omega)
    refine VP.run (A := F32) (good) [] (by rw [hE]; rfl) (by simp [F32]) ?_; unfold F32; simp (implicitDefEqProofs := false) [enc_list, hck, e1, e2, e3, e4]
    refine VW.loop_to 0 [(3, .bool true)] [] (True) ?_ (fun hp f m hc => ?_)
    · obtain ⟨Inv, hI⟩ : ∃ Inv : Nat → List (Nat × PV) → VM → Prop, ∀ k f m, Inv k f m ↔ (f = [(1, .ptr 0 6 0), (3, .bool true), (4, .int .i64 k)] ∧ m = [bcl b]) := ⟨_, fun _ _ _ => Iff.rfl⟩
      refine VW.loop_cut Inv b.Pieces.length ?_ ?_ ?_
      · exact ⟨_, _, (hI _ _ _).2 ⟨rfl, rfl⟩, ⟨1, [], by simp [enc_list], by simp, by simp, by simp (implicitDefEqProofs := false) [enc_list], by simp (implicitDefEqProofs := false) [enc_list]⟩⟩
      · intro k f m hk hi
        obtain ⟨rfl, rfl⟩ := (hI _ _ _).1 hi
        have w1 : IntKind.i64.wrap ((k : Int) + 1) = k + 1 := wrap64 (by omega) (by omega)
        have hk' : (k : Int) < b.Pieces.length := by omega
        have po := o.ps _ (List.getElem_mem hk)
        have hg := get_Piece b.Pieces k hk
        generalize b.Pieces[k] = x at *
        obtain ⟨d, hd⟩ : ∃ d : Nat, x.Disc = d := ⟨x.Disc.toNat, by have := po.d0; omega⟩
        have hd1 : d < b.Discs.length := by have := po.d1; omega
        have hd1' : (d : Int) < b.Discs.length := by omega
        have hgd := get_Int b.Discs d hd1
        have hT : discOf b x = b.Discs[d] := by unfold discOf; rw [hd, List.getD_eq_getElem?_getD, Int.toNat_natCast, List.getElem?_eq_getElem hd1]; rfl
        have t1 := po.t1
        have t2 := po.t2
        have b0 := po.b0
        have b1 := po.b1
        have l1 := po.l1
        have l2 := po.l2
        rw [hT] at t1 t2 b1 l2
        generalize b.Discs[d] = T at *
        have w2 : IntKind.i64.wrap (T - 1) = T - 1 := wrap64 (by omega) (by omega)
        have f1 : wi x.Words.length 1 4 = true := (wi_iff _ _ _).2 ⟨by have := po.w1; omega, by have := po.w2; omega⟩
        have f2 : wi (d : Int) 0 (b.Discs.length - 1) = true := (wi_iff _ _ _).2 ⟨by omega, by omega⟩
        have f3 : wi T 1 500 = true := (wi_iff _ _ _).2 ⟨t1, t2⟩
        have f4 : wi x.Long 1 T = true := (wi_iff _ _ _).2 ⟨l1, l2⟩
        have f5 : wi x.Begin 0 (T - 1) = true := (wi_iff _ _ _).2 ⟨b0, by omega⟩
        refine VW.run good [] ?_; simp (implicitDefEqProofs := false) [enc_list, hk, hk', hg, hd, hd1, hd1', hgd, w1, w2, wd, f1, f2, f3, f4, f5, spliceV]
        exact ⟨_, _, (hI _ _ _).2 ⟨rfl, rfl⟩, ⟨1, [], by simp [enc_list], by simp, by simp, by simp (implicitDefEqProofs := false) [enc_list], by simp (implicitDefEqProofs := false) [enc_list]⟩⟩
      · intro f m hi
        obtain ⟨rfl, rfl⟩ := (hI _ _ _).1 hi
        refine VW.run good [] ?_; simp (implicitDefEqProofs := false) [enc_list]
        exact ⟨0, [], by simp [enc_list], by simp, by simp, by simp (implicitDefEqProofs := false) [enc_list], by simp (implicitDefEqProofs := false) [enc_list]⟩
    · simp (implicitDefEqProofs := false); refine .ofCut hc (VW.run good [] ?_); simp (implicitDefEqProofs := false) [enc_list]
end Go.RS.DC

/- Walks: what the laws share (2): texts that pieces say. -/
namespace Go.RS.DC
open Go Go.RS
open Go.RS.Enc (enc dec)
variable {E : VEnv}
theorem app_list (M : VM) (t bytes : Nat) (out l : List Int) (ex : Bool) (h : M[t]? = some (.vec (encL out))) (hl : l ≠ []) (hf : fits (out.length + l.length) bytes = true) :
    appendV M 1 bytes (.sl t out.length 0 out.length (openCap + 1) 1) (.lst ex l.length 1 (encL l)) = some (.sl t (out ++ l).length 0 (out ++ l).length (openCap + 1) 1, M.set t (.vec (encL (out ++ l)))) := by
  have hv : vcells M t = some (encL out) := by unfold vcells; rw [h]
  have h0 : l.length ≠ 0 := fun h => hl (List.eq_nil_of_length_eq_zero h)
  have he : elemsV M 1 (.lst ex l.length 1 (encL l)) = some (l.length, encL l) := by simp [elemsV, okE, h0]
  have hll : (encL l).length = l.length := by rw [encL_length]; exact Nat.mul_one _
  have hol : (encL out).length = out.length := by rw [encL_length]; exact Nat.mul_one _
  have hne : encL l ≠ [] := fun h => h0 (by rw [← hll, h]; rfl)
  unfold appendV
  simp only [he]
  rw [if_pos ⟨trivial, by decide⟩, if_neg h0]
  cases out with
  | nil =>
    rw [if_pos (show ([] : List Int).length = 0 from rfl)]
    simp only [h, encL_nil]
    rw [if_pos ⟨trivial, rfl, by simpa using hf, encL_isF l, hne⟩, hll]
    rfl
  | cons a out =>
    rw [if_neg (show ¬ (a :: out).length = 0 by simp)]
    simp only [hv]
    rw [if_neg (by rw [hol]; simp), if_pos (by omega), if_pos ⟨trivial, trivial, Nat.mul_one _, hf, scal_ints l⟩]
    simp only [vput, h, encL_isF, if_true, Option.map_some, hll, encL_append, List.length_append]
def someG (b : Book) (bits : List Int) : Option (List Int × List Int) := if okB b then some (someF b bits) else none
set_option maxRecDepth 20000 in
theorem v_some (hE : E.env.fn = G) : Ok E 33 (s2 someG) := by
  refine ok2 fun b bits r hr => ?_
  unfold someG at hr
  split at hr
  · rename_i ho
    cases hr
    have o := okB_ok ho
    have p1 := o.p1
    have p2 := o.p2
    refine VP.bound fun hb => ?_
    simp [enc_list] at hb
    have good := goodV_cons (w_Rest hE) goodV_nil
    obtain ⟨T, hT⟩ : ∃ T, someF b bits = T := ⟨_, rfl⟩
    rw [hT]
    refine VP.func (A := F33) (by rw [hE]; rfl) (by simp [F33]) ?_
    unfold F33
    refine VW.seq (VW.run good [] ?_); simp (implicitDefEqProofs := false) [enc_list]
    refine VW.seq (VW.run good [] ?_); simp (implicitDefEqProofs := false) [enc_list]
    refine VW.declare 6 1 (by simp) ?_
    refine VW.declare 7 1 (by simp) ?_
    refine VW.seq (VW.seq (VW.run good [] ?_))
    simp (implicitDefEqProofs := false) [enc_list]
    refine VW.block ?_
    refine VW.loop_to 0 [(6, sl1 1 T.1), (7, sl1 2 T.2)] [bcl b, .vec (encL T.1), .vec (encL T.2)] (True) ?_ (fun hp f m hc => ?_)
    · obtain ⟨Inv, hI⟩ : ∃ Inv : Nat → List (Nat × PV) → VM → Prop, ∀ k f m, Inv k f m ↔ (∃ s : List Int × List Int, f = [(1, enc bits), (2, .ptr 0 6 0), (6, sl1 1 s.1), (7, sl1 2 s.2), (8, .int .i64 k)] ∧ m = [bcl b, .vec (encL s.1), .vec (encL s.2)] ∧ (bits.drop k).foldl (someStep b) s = T ∧ SomeOk b s) := ⟨_, fun _ _ _ => Iff.rfl⟩
      refine VW.loop_cut Inv bits.length ?_ ?_ ?_
      · exact ⟨_, _, (hI _ _ _).2 ⟨([], []), rfl, rfl, hT, ⟨rfl, by simp [InR], by simp⟩⟩, ⟨3, [], by simp [enc_list], by simp, by simp, by simp (implicitDefEqProofs := false) [enc_list], by simp (implicitDefEqProofs := false) [enc_list]⟩⟩
      · intro k f m hk hi
        obtain ⟨⟨s1, s2⟩, rfl, rfl, hs, so⟩ := (hI _ _ _).1 hi
        have w1 : IntKind.i64.wrap ((k : Int) + 1) = k + 1 := wrap64 (by omega) (by omega)
        have hk' : (k : Int) < bits.length := by omega
        rw [List.drop_eq_getElem_cons hk, List.foldl_cons] at hs
        have so2 := someStep_ok o so bits[k]
        have hg := get_Int bits k hk
        generalize bits[k] = x at *
        have hR : restF x b.Pieces.length = some (x % b.Pieces.length) := if_pos ⟨by omega, by omega⟩
        obtain ⟨m0, m1⟩ := mod_piece o x
        obtain ⟨q, hq⟩ : ∃ q : Nat, x % (b.Pieces.length : Int) = q := ⟨(x % (b.Pieces.length : Int)).toNat, by omega⟩
        have hq1 : q < b.Pieces.length := by omega
        have hq1' : (q : Int) < b.Pieces.length := by omega
        have hgp := get_Piece b.Pieces q hq1
        have hpn : pieceN b q = b.Pieces[q] := by unfold pieceN; rw [List.getD_eq_getElem?_getD, List.getElem?_eq_getElem hq1]; rfl
        have po := pieceN_ok o hq1
        have hst : someStep b (s1, s2) x = if s1.length + (pieceN b q).Words.length ≤ 8 then (s1 ++ (pieceN b q).Words, s2 ++ [(q : Int)]) else (s1, s2) := by
          unfold someStep; rw [hq, pieceAt_N]
        rw [hst] at hs so2
        rw [hq] at hR
        rw [hpn] at hs so2 po
        generalize b.Pieces[q] = y at *
        have pw1 := po.w1
        have pw2 := po.w2
        have sl := so.l
        simp only at sl
        have hs2 := words_len o so.r
        rw [← so.t] at hs2
        simp only at hs2
        obtain ⟨n, hn⟩ : ∃ n, s1.length + y.Words.length = n := ⟨_, rfl⟩
        have w2 : IntKind.i64.wrap ((s1.length : Int) + y.Words.length) = (n : Int) := by rw [wrap64 (by omega) (by omega)]; omega
        rw [hn] at hs so2
        by_cases hle : n ≤ 8
        · rw [if_pos hle] at hs so2
          have hle' : (n : Int) ≤ 8 := by omega
          have hf : fits (s2.length + 1) 8 = true := fits8L (by omega)
          have hf2 : fits n 8 = true := fits8L (by omega)
          have hy : y.Words ≠ [] := fun h => by rw [h] at pw1; simp at pw1
          have hap := app_list [bcl b, .vec (encL s1), .vec (encL s2)] 1 8 s1 y.Words false rfl hy (by rw [hn]; exact hf2)
          refine VW.run good [] ?_; simp (implicitDefEqProofs := false) [enc_list, hk, hk', hg, hR, hq1, hq1', hgp, w1, w2, hle, hle', hf, hap, hn, spliceV]
          exact ⟨_, _, (hI _ _ _).2 ⟨(s1 ++ y.Words, s2 ++ [(q : Int)]), rfl, rfl, hs, so2⟩, ⟨3, [], by simp [enc_list,  hn], by simp, by simp, by simp (implicitDefEqProofs := false) [enc_list,  hn], by simp (implicitDefEqProofs := false) [enc_list,  hn]⟩⟩
        · rw [if_neg hle] at hs so2
          have hle' : ¬ (n : Int) ≤ 8 := by omega
          refine VW.run good [] ?_; simp (implicitDefEqProofs := false) [enc_list, hk, hk', hg, hR, hq1, hq1', hgp, w1, w2, hle, hle', hn, spliceV]
          exact ⟨_, _, (hI _ _ _).2 ⟨(s1, s2), rfl, rfl, hs, so2⟩, ⟨3, [], by simp [enc_list], by simp, by simp, by simp (implicitDefEqProofs := false) [enc_list], by simp (implicitDefEqProofs := false) [enc_list]⟩⟩
      · intro f m hi
        obtain ⟨s, rfl, rfl, hs, so⟩ := (hI _ _ _).1 hi
        rw [List.drop_length, List.foldl_nil] at hs
        subst hs
        refine VW.run good [] ?_; simp (implicitDefEqProofs := false) [enc_list]
        exact ⟨3, [], by simp [enc_list], by simp, by simp, by simp (implicitDefEqProofs := false) [enc_list], by simp (implicitDefEqProofs := false) [enc_list]⟩
    · obtain ⟨T1, T2⟩ := T
      simp (implicitDefEqProofs := false) [enc_list, AExit.leave]
      refine .ofCut hc (VW.run good [] ?_)
      simp (implicitDefEqProofs := false) [enc_list]
  · cases hr
end Go.RS.DC

/- Walks: what the laws share (3): what pieces say; whether some of them are enough. -/
namespace Go.RS.DC
open Go Go.RS
open Go.RS.Enc (enc dec)
variable {E : VEnv}
theorem wordsL_snoc (b : Book) (l : List Int) (k : Int) : wordsL b (l ++ [k]) = wordsL b l ++ (pieceAt b k).Words := by rw [wordsL_append]; simp [wordsL]
end Go.RS.DC

/- Walks: the examples of the chapter. -/
namespace Go.RS.DC
open Go Go.RS
open Go.RS.Enc (enc dec)
variable {E : VEnv}
def textC : List Int := [1, 102, 205]
def bookC : Book := ⟨[10, 16], [⟨[1], 0, 2, 5⟩, ⟨[102], 1, 4, 8⟩, ⟨[1, 102], 1, 0, 12⟩, ⟨[205], 0, 7, 6⟩, ⟨[102, 205], 1, 9, 14⟩], ⟨1, 6⟩, ⟨2, 20⟩⟩
theorem v_piece (hE : E.env.fn = G) : Ok E 79 (s4 fun (w : List Int) (d b l : Int) => some (Piece.mk w d b l)) := by
  refine ok4 fun w d b l r hr => ?_
  cases hr
  refine VP.run (A := F79) (goodV_nil) [] (by rw [hE]; rfl) (by simp [F79]) ?_; unfold F79; simp (implicitDefEqProofs := false) [enc_list, spliceV]
theorem v_text (hE : E.env.fn = G) : Ok E 47 (s0 (some textC)) := by
  refine ok0 fun r hr => ?_
  cases hr
  refine VP.run (A := F47) (goodV_nil) [] (by rw [hE]; rfl) (by simp [F47]) ?_; unfold F47; simp (implicitDefEqProofs := false) [enc_list, spliceV, textC, encL]
theorem di1 (a : Int) : (dec (PV.lst true 1 1 [.int .i64 a]) : Option (List Int)) = some [a] := rfl
theorem di2 (a b : Int) : (dec (PV.lst true 2 1 [.int .i64 a, .int .i64 b]) : Option (List Int)) = some [a, b] := rfl
theorem di3 (a b c : Int) : (dec (PV.lst true 3 1 [.int .i64 a, .int .i64 b, .int .i64 c]) : Option (List Int)) = some [a, b, c] := rfl
theorem v_book (hE : E.env.fn = G) : Ok E 46 (s0 (some bookC)) := by
  refine ok0 fun r hr => ?_
  cases hr
  refine VP.run (A := F46) ((goodV_cons (v_piece hE) (goodV_cons (w_To hE) goodV_nil))) [] (by rw [hE]; rfl) (by simp [F46]) ?_; unfold F46; simp (implicitDefEqProofs := false) [enc_list, spliceV, di1, di2, bookC, encL]
theorem ex1 : WordsR ⟨0, 1, 2, 5⟩ = (textC, 0) := by decide +kernel
theorem ex2 : FewestVR bookC textC = ([0, 4], 0) := by decide +kernel
theorem ex3 : NeededR bookC [textC, [102]] = ([0, 1, 3], 0) := by decide +kernel
theorem ex4 : IsPlanR bookC textC 0 60 [⟨2, 32⟩, ⟨3, 47⟩] = (true, 0) := by decide +kernel
theorem ex5 : (PlanPR bookC textC 0 60).1.length = 2 ∧ (PlanPR bookC textC 0 60).2 = 0 := by decide +kernel
theorem ex6 : LatestPR bookC textC 0 60 = (32, 0) := by decide +kernel
theorem ex7 : DayP bookC ⟨2, 4, 6, 1, []⟩ 36 5 1 = ([2], 0) := by decide +kernel
theorem dt2 : (dec (PV.lst true 2 1 [.lst false textC.length 1 (encL textC), .lst true 1 1 [.int .i64 102]]) : Option (List (List Int))) = some [textC, [102]] := rfl
theorem ds2 : (dec (PV.lst true 2 2 [.int .i64 2, .int .i64 32, .int .i64 3, .int .i64 47]) : Option (List Start)) = some [⟨2, 32⟩, ⟨3, 47⟩] := rfl
set_option maxRecDepth 100000 in
theorem v_works (hE : E.env.fn = G) (hgl : E.gl 1 = some [f130v, f131v]) (hgl2 : E.gl 0 = some vparts) : Ok E 23 (s0 (some true)) := by
  refine ok0 fun r hr => ?_
  cases hr
  have good := goodV_cons (v_Words hE hgl2) (goodV_cons (v_book hE) (goodV_cons (v_text hE) (goodV_cons (v_Fewest hE) (goodV_cons (v_Needed hE) (goodV_cons (v_IsPlan hE) (goodV_cons (v_Plan hE) (goodV_cons (v_Latest hE) (goodV_cons (v_Day hE hgl hgl2) (goodV_cons (w_Alike hE) goodV_nil)))))))))
  obtain ⟨e5, e6⟩ := ex5
  obtain ⟨⟨pl, pe⟩, hP⟩ : ∃ p, PlanPR bookC textC 0 60 = p := ⟨_, rfl⟩
  rw [hP] at e5 e6
  simp only at e5 e6
  refine VP.run (A := F23) (good) [] (by rw [hE]; rfl) (by simp [F23]) ?_; unfold F23; simp (implicitDefEqProofs := false) [enc_list, ex1, ex2, ex3, ex4, hP, e5, e6, ex6, ex7, dt2, ds2, di2, di3, spliceV]
end Go.RS.DC

/- Walks: what the laws share (7): what can be asked about. -/
namespace Go.RS.DC
open Go Go.RS
open Go.RS.Enc (enc dec)
variable {E : VEnv}
end Go.RS.DC

/- Walks: what the laws share (8): a plan as numbers choose it. -/
namespace Go.RS.DC
open Go Go.RS
open Go.RS.Enc (enc dec)
variable {E : VEnv}
abbrev slS (t : Nat) (out : List Start) : PV := .sl t (out.length * 2) 0 out.length (openCap + 2) 2
def spokenG (b : Book) (f : Int) (bits : List Int) : Option (T4 (List Start) (List Int) Int Bool) :=
  if okB b = true ∧ 0 ≤ f ∧ f ≤ 1000 then
    (match spokenL b true f (someF b bits).2 with
    | none => some ⟨[], [], 0, false⟩
    | some r => some ⟨r.1, (someF b bits).1, r.2, decide (0 < r.1.length)⟩) else none
set_option maxHeartbeats 1600000 in
set_option maxRecDepth 20000 in
theorem v_spoken (hE : E.env.fn = G) : Ok E 42 (s3 spokenG) := by
  refine ok3 fun b f0 bits r hr => ?_
  unfold spokenG at hr
  split at hr
  · rename_i hcc
    obtain ⟨ho, h0, h1⟩ := hcc
    have o := okB_ok ho
    have p1 := o.p1
    have p2 := o.p2
    have so := some_ok o bits
    have hS : someG b bits = some (someF b bits) := if_pos ho
    obtain ⟨⟨t, m⟩, hsf⟩ : ∃ s, someF b bits = s := ⟨_, rfl⟩
    rw [hsf] at hS so hr
    obtain ⟨ht, hir, hl8⟩ := so
    simp only at ht hir hl8 hr
    have hm8 : m.length ≤ 8 := by have := words_len o hir; rw [← ht] at this; omega
    have good := goodV_cons (v_some hE) (goodV_cons (w_Rest hE) goodV_nil)
    obtain ⟨T, hT⟩ : ∃ T, spokenL b true f0 m = T := ⟨_, rfl⟩
    rw [hT] at hr
    refine VP.func (A := F42) (by rw [hE]; rfl) (by simp [F42]) ?_; unfold F42
    refine VW.seq (VW.run good [] ?_); simp (implicitDefEqProofs := false) [enc_list]
    refine VW.seq (VW.run good [] ?_); simp (implicitDefEqProofs := false) [enc_list, hS]
    refine VW.seq (VW.run good [] ?_); simp (implicitDefEqProofs := false) [enc_list]
    refine VW.seq (VW.run good [] ?_); simp (implicitDefEqProofs := false) [enc_list]
    refine VW.declare 12 2 (by simp) ?_
    refine VW.declare 13 1 (by simp) ?_
    refine VW.seq (VW.run good [] ?_); simp (implicitDefEqProofs := false) [enc_list]
    refine VW.seq (VW.seq (VW.run good [] ?_))
    simp (implicitDefEqProofs := false) [enc_list]
    refine VW.block ?_
    refine VW.loop_toE 0 (fun (x : List Start × Int) => [(9, .bool false), (12, slS 1 x.1), (13, sl1 2 t), (14, .int .i64 x.2)]) (fun (x : List Start × Int) => [bcl b, .vec (encL x.1), .vec (encL t)]) (fun (x : List Start × Int) => T = some x) ?_ (fun x hp f m hc => ?_)
    · obtain ⟨Inv, hI⟩ : ∃ Inv : Nat → List (Nat × PV) → VM → Prop, ∀ k f M, Inv k f M ↔ (∃ (P : List Start) (X : List Int) (now : Int), f = [(3, .ptr 0 6 0), (9, .bool false), (11, enc m), (12, slS 1 P), (13, sl1 2 X), (14, .int .i64 now), (15, .int .i64 k)] ∧ M = [bcl b, .vec (encL P), .vec (encL X)] ∧ T = (spokenL b (decide (k = 0)) now (m.drop k)).map (fun r => (P ++ r.1, r.2)) ∧ X = wordsL b (m.take k) ∧ P.length = k ∧ 0 ≤ now ∧ now ≤ 1000 + 1200 * k) := ⟨_, fun _ _ _ => Iff.rfl⟩
      refine VW.loop_cut Inv m.length ?_ ?_ ?_
      · exact ⟨_, _, (hI _ _ _).2 ⟨[], [], f0, rfl, rfl, by rw [← hT]; simp, rfl, rfl, h0, by omega⟩, ⟨3, [], by simp [enc_list], by simp, by simp, by simp (implicitDefEqProofs := false) [enc_list], by simp (implicitDefEqProofs := false) [enc_list]⟩⟩
      · intro k f M hk hi
        obtain ⟨P, X, now, rfl, rfl, hs, hX, hPl, n0, n1⟩ := (hI _ _ _).1 hi
        have w1 : IntKind.i64.wrap ((k : Int) + 1) = k + 1 := wrap64 (by omega) (by omega)
        have hk' : (k : Int) < m.length := by omega
        have hik := hir m[k] (List.getElem_mem hk)
        have hg := get_Int m k hk
        have htk : m.take (k + 1) = m.take k ++ [m[k]] := by rw [List.take_add_one, List.getElem?_eq_getElem hk]; rfl
        have hXl : X.length + (pieceAt b m[k]).Words.length ≤ 8 := by
          have e : t = wordsL b (m.take (k + 1)) ++ wordsL b (m.drop (k + 1)) := by
            rw [ht]
            have : ∀ (l l' : List Int), wordsL b (l ++ l') = wordsL b l ++ wordsL b l' := by
              intro l
              induction l with
              | nil => intro l'; simp [wordsL]
              | cons a l ih => intro l'; rw [List.cons_append, wordsL, wordsL, ih, List.append_assoc]
            rw [← this, List.take_append_drop]
          rw [htk, wordsL_snoc, ← hX] at e
          have := congrArg List.length e
          simp only [List.length_append] at this
          omega
        rw [List.drop_eq_getElem_cons hk, spokenL] at hs
        have hX2 : wordsL b (m.take k ++ [m[k]]) = X ++ (pieceAt b m[k]).Words := by rw [wordsL_snoc, ← hX]
        have sb := spokeAt_b o (decide (k = 0)) (now := now) (k := m[k]) n0 ⟨hik.1, hik.2.1⟩
        obtain ⟨q, hq⟩ : ∃ q : Nat, m[k] = q := ⟨m[k].toNat, by omega⟩
        have hq1 : q < b.Pieces.length := by have := hik.2.1; omega
        have hq1' : (q : Int) < b.Pieces.length := by omega
        have po := pieceN_ok o hq1
        have hpn : pieceN b q = b.Pieces[q] := by unfold pieceN; rw [List.getD_eq_getElem?_getD, List.getElem?_eq_getElem hq1]; rfl
        have hX2' := hX2
        rw [hq] at hs hX2 hX2' hXl sb hg
        have hgp := get_Piece b.Pieces q hq1
        have hat : spokeAt b (decide (k = 0)) now q = (if k = 0 then now else now + b.Pause.Low) + (b.Pieces[q].Begin - (if k = 0 then now else now + b.Pause.Low)) % discOf b b.Pieces[q] := by
          unfold spokeAt; rw [pieceAt_N, hpn]; simp only [decide_eq_true_eq]
        rw [pieceAt_N, hpn] at hs hX2 hXl
        rw [hpn] at po
        generalize b.Pieces[q] = y at *
        obtain ⟨dd, hd⟩ : ∃ d : Nat, y.Disc = d := ⟨y.Disc.toNat, by have := po.d0; omega⟩
        have hd1 : dd < b.Discs.length := by have := po.d1; omega
        have hd1' : (dd : Int) < b.Discs.length := by omega
        have hgd := get_Int b.Discs dd hd1
        have hTd : discOf b y = b.Discs[dd] := by unfold discOf; rw [hd, List.getD_eq_getElem?_getD, Int.toNat_natCast, List.getElem?_eq_getElem hd1]; rfl
        have t1 := po.t1
        have t2 := po.t2
        have l1 := po.l1
        have l2 := po.l2
        have b0 := po.b0
        have b1 := po.b1
        have yw1 := po.w1
        have yw2 := po.w2
        have a0 := o.a0
        have a1 := o.a1
        have a2 := o.a2
        rw [hTd] at t1 t2 l2 b1 hat
        generalize b.Discs[dd] = D at *
        obtain ⟨u, hu⟩ : ∃ u, (if k = 0 then now else now + b.Pause.Low) = u := ⟨_, rfl⟩
        have hub : now ≤ u ∧ u ≤ now + 200 := by rw [← hu]; split <;> omega
        rw [hu] at hat
        obtain ⟨A, hA⟩ : ∃ A, spokeAt b (decide (k = 0)) now q = A := ⟨_, rfl⟩
        rw [hA] at hs hat sb
        have wu : IntKind.i64.wrap (y.Begin - u) = y.Begin - u := wrap64 (by omega) (by omega)
        have hR : restF (y.Begin - u) D = some ((y.Begin - u) % D) := if_pos ⟨by omega, by omega⟩
        have wA : IntKind.i64.wrap (u + (y.Begin - u) % D) = A := by rw [wrap64 (by omega) (by omega)]; exact hat.symm
        have wn : IntKind.i64.wrap (A - now) = A - now := wrap64 (by omega) (by omega)
        have wL : IntKind.i64.wrap (A + y.Long) = A + y.Long := wrap64 (by omega) (by omega)
        have wP : IntKind.i64.wrap (now + b.Pause.Low) = now + b.Pause.Low := wrap64 (by omega) (by omega)
        have hg' : List.drop k (encL m) = .int .i64 (q : Int) :: encL (List.drop (k + 1) m) := hg
        refine VW.seq (VW.run good [] ?_); simp (implicitDefEqProofs := false) [enc_list, hk, hk']
        refine VW.seq (VW.block ?_)
        refine VW.seq_cut [(3, .ptr 0 6 0), (9, .bool false), (11, enc m), (12, slS 1 P), (13, sl1 2 X), (14, .int .i64 now), (15, .int .i64 k), (16, .ptr 3 4 0)] [bcl b, .vec (encL P), .vec (encL X), .cells [enc y.Words, enc y.Disc, enc y.Begin, enc y.Long]] (VW.run good [] ?_) ?_; simp (implicitDefEqProofs := false) [enc_list, hk, hk', hg, hg', hgp, hq1, hq1', spliceV]
        · exact ⟨4, [], by simp [enc_list], by simp, by simp, by simp (implicitDefEqProofs := false) [enc_list], by simp (implicitDefEqProofs := false) [enc_list]⟩
        refine VW.seq (VW.run good [] ?_); simp (implicitDefEqProofs := false) [enc_list]
        refine VW.seq_cut [(3, .ptr 0 6 0), (9, .bool false), (11, enc m), (12, slS 1 P), (13, sl1 2 X), (14, .int .i64 now), (15, .int .i64 k), (16, .ptr 3 4 0), (17, .int .i64 u)] [bcl b, .vec (encL P), .vec (encL X), .cells [enc y.Words, enc y.Disc, enc y.Begin, enc y.Long]] (VW.run good [] ?_) ?_
        · by_cases hk0 : k = 0
          · subst hk0
            rw [if_pos rfl] at hu
            subst hu
            simp (implicitDefEqProofs := false) [enc_list]
            exact ⟨4, [], by simp [enc_list], by simp, by simp, by simp (implicitDefEqProofs := false) [enc_list], by simp (implicitDefEqProofs := false) [enc_list]⟩
          · rw [if_neg hk0] at hu
            subst hu
            have hk1 : 0 < k := by omega
            have hk1' : (0 : Int) < (k : Int) := by omega
            simp (implicitDefEqProofs := false) [enc_list, hk1, hk1', wP]
            exact ⟨4, [], by simp [enc_list], by simp, by simp, by simp (implicitDefEqProofs := false) [enc_list], by simp (implicitDefEqProofs := false) [enc_list]⟩
        refine VW.seq_cut [(3, .ptr 0 6 0), (9, .bool false), (11, enc m), (12, slS 1 P), (13, sl1 2 X), (14, .int .i64 now), (15, .int .i64 k), (16, .ptr 3 4 0), (17, .int .i64 A)] [bcl b, .vec (encL P), .vec (encL X), .cells [enc y.Words, enc y.Disc, enc y.Begin, enc y.Long]] (VW.run good [] ?_) ?_; simp (implicitDefEqProofs := false) [enc_list, hd, hd1, hd1', hgd, wu, hR, wA]
        · exact ⟨4, [], by simp [enc_list], by simp, by simp, by simp (implicitDefEqProofs := false) [enc_list], by simp (implicitDefEqProofs := false) [enc_list]⟩
        obtain ⟨B, hB⟩ : ∃ B, (!decide (k = 0) && decide (b.Pause.High < A - now)) = B := ⟨_, rfl⟩
        rw [hB] at hs
        cases B
        · refine VW.seq_cut [(3, .ptr 0 6 0), (9, .bool false), (11, enc m), (12, slS 1 P), (13, sl1 2 X), (14, .int .i64 now), (15, .int .i64 k), (16, .ptr 3 4 0), (17, .int .i64 A)] [bcl b, .vec (encL P), .vec (encL X), .cells [enc y.Words, enc y.Disc, enc y.Begin, enc y.Long]] (VW.run good [] ?_) ?_
          · by_cases hk0 : k = 0
            · subst hk0
              simp (implicitDefEqProofs := false) [enc_list]
              exact ⟨4, [], by simp [enc_list], by simp, by simp, by simp (implicitDefEqProofs := false) [enc_list], by simp (implicitDefEqProofs := false) [enc_list]⟩
            · have hk1 : 0 < k := by omega
              have hk1' : (0 : Int) < (k : Int) := by omega
              have hnb : ¬ b.Pause.High < A - now := by simpa [hk0] using hB
              simp (implicitDefEqProofs := false) [enc_list, hk1, hk1', wn, hnb]
              exact ⟨4, [], by simp [enc_list], by simp, by simp, by simp (implicitDefEqProofs := false) [enc_list], by simp (implicitDefEqProofs := false) [enc_list]⟩
          rw [if_neg (by decide)] at hs
          have hyw : y.Words ≠ [] := fun h => by rw [h] at yw1; simp at yw1
          have hf1 : fits (P.length + 1) 16 = true := by unfold fits; simp; omega
          have hf2 : fits (X.length + y.Words.length) 8 = true := fits8L (by omega)
          have hap1 := app_Start [bcl b, .vec (encL P), .vec (encL X), .cells [enc y.Words, enc y.Disc, enc y.Begin, enc y.Long]] 1 16 P ⟨q, A⟩ rfl hf1
          simp only [enc_list, enc_int, sz_int, List.set_cons_succ, List.set_cons_zero] at hap1
          have hap2 := app_list [bcl b, .vec (encL (P ++ [⟨q, A⟩])), .vec (encL X), .cells [enc y.Words, enc y.Disc, enc y.Begin, enc y.Long]] 2 8 X y.Words false rfl hyw hf2
          simp only [enc_list, enc_int, sz_int, List.set_cons_succ, List.set_cons_zero] at hap2
          refine VW.run good [] ?_; simp (implicitDefEqProofs := false) [enc_list, hk, hk', hg, hg', hap1, hap2, wL, w1, spliceV]
          simp (implicitDefEqProofs := false) [enc_list, AExit.leave]
          refine VW.run good [] ?_; simp (implicitDefEqProofs := false) [enc_list, w1]
          refine ⟨_, _, (hI _ _ _).2 ⟨P ++ [⟨q, A⟩], X ++ y.Words, A + y.Long, rfl, rfl, ?_, ?_, by simp [hPl], by omega, by omega⟩, ⟨3, [], by simp [enc_list], by simp, by simp, by simp (implicitDefEqProofs := false) [enc_list], by simp (implicitDefEqProofs := false) [enc_list]⟩⟩
          · rw [hs, decide_eq_false (by omega)]
            cases spokenL b false (A + y.Long) (List.drop (k + 1) m) with
            | none => rfl
            | some r => simp
          · rw [htk, hq, hX2]
        · have hk0 : k ≠ 0 := fun h => by rw [h] at hB; simp at hB
          have hk1 : 0 < k := by omega
          have hk1' : (0 : Int) < (k : Int) := by omega
          have hnb : b.Pause.High < A - now := by simpa [hk0] using hB
          rw [if_pos rfl] at hs
          rw [hs] at hr
          cases hr
          refine VW.run good [] ?_; simp (implicitDefEqProofs := false) [enc_list, hk1, hk1', wn, hnb]
          simp (implicitDefEqProofs := false) [enc_list, AExit.leave]
      · intro f M hi
        obtain ⟨P, X, now, rfl, rfl, hs, hX, hPl, n0, n1⟩ := (hI _ _ _).1 hi
        rw [List.drop_length, spokenL] at hs
        rw [List.take_length, ← ht] at hX
        subst hX
        refine VW.run good [] ?_; simp (implicitDefEqProofs := false) [enc_list]
        exact ⟨P, now, by rw [hs]; simp, ⟨3, [], by simp [enc_list], by simp, by simp, by simp (implicitDefEqProofs := false) [enc_list], by simp (implicitDefEqProofs := false) [enc_list]⟩⟩
    · obtain ⟨P, now⟩ := x
      simp only at hc hp
      rw [hp] at hr
      cases hr
      simp (implicitDefEqProofs := false); refine .ofCut hc (VW.run good [] ?_); simp (implicitDefEqProofs := false) [enc_list]
  · cases hr
end Go.RS.DC

