/- Walks: lists that come before others; a number of a span. -/
import Derived.Test.YtcbkaiakncbcbaaDoorVwc
import Derived.Test.YtcbkaiakncbcbaaDoorDxa
import Derived.Test.YtcbkaiakncbcbaaDoorVpb
set_option linter.all false
namespace Go.RS.DC
open Go Go.RS
open Go.RS.Enc (enc dec)
variable {E : VEnv}
theorem firstF_le : ∀ a b : List Int, firstF a b ≤ a.length ∧ firstF a b ≤ b.length
  | [], b => by cases b <;> simp [firstF]
  | _ :: _, [] => by simp [firstF]
  | x :: a, y :: b => by
    have := firstF_le a b
    unfold firstF
    split <;> simp <;> omega
theorem aheadB_first : ∀ a b : List Int, aheadB a b = if h : firstF a b < a.length ∧ firstF a b < b.length then decide (a[firstF a b]'h.1 < b[firstF a b]'h.2) else decide (a.length < b.length)
  | [], [] => by simp [aheadB]
  | [], y :: b => by simp [aheadB, firstF]
  | x :: a, [] => by simp [aheadB, firstF]
  | x :: a, y :: b => by
    have ih := aheadB_first a b
    by_cases hx : x = y
    · have hf : firstF (x :: a) (y :: b) = firstF a b + 1 := by rw [firstF, if_pos hx]
      rw [aheadB, if_pos hx, ih]
      simp only [hf, List.length_cons, Nat.add_lt_add_iff_right, List.getElem_cons_succ]
    · have hf : firstF (x :: a) (y :: b) = 0 := by rw [firstF, if_neg hx]
      rw [aheadB, if_neg hx]
      simp [hf]
theorem w_Ahead (hE : E.env.fn = G) : Ok E 35 (s2 fun a b => some (aheadB a b)) := by
  refine ok2 fun a b r hr => ?_
  cases hr
  have good := goodV_cons (w_First hE) goodV_nil
  obtain ⟨f1, f2⟩ := firstF_le a b
  have hB := aheadB_first a b
  generalize aheadB a b = T at hB
  generalize hF : firstF a b = F at *
  by_cases h1 : F < a.length
  · by_cases h2 : F < b.length
    · rw [dif_pos ⟨h1, h2⟩] at hB
      refine VP.run (A := F35) (good) [] (by rw [hE]; rfl) (by simp [F35]) ?_; unfold F35; simp (implicitDefEqProofs := false) [enc_list, hF, h1, h2, get_Int a F h1, get_Int b F h2, hB]
    · rw [dif_neg (fun h => h2 h.2)] at hB
      refine VP.run (A := F35) (good) [] (by rw [hE]; rfl) (by simp [F35]) ?_; unfold F35; simp (implicitDefEqProofs := false) [enc_list, hF, h1, h2, hB]
  · rw [dif_neg (fun h => h1 h.1)] at hB
    refine VP.run (A := F35) (good) [] (by rw [hE]; rfl) (by simp [F35]) ?_; unfold F35; simp (implicitDefEqProofs := false) [enc_list, hF, h1, hB]
theorem dec_l4 (a b c d : Int) : (dec (PV.lst true 4 1 [.int .i64 a, .int .i64 b, .int .i64 c, .int .i64 d]) : Option (List Int)) = some [a, b, c, d] := rfl
/-- A number of a span: what the program tells. -/
def fromF (s : Span) (n : Int) : Option Int := if -4000000000000000000 ≤ s.Low ∧ s.High ≤ 4000000000000000000 then some (fromR s n) else none
end Go.RS.DC

/- Walks: what the laws share (1): sound books, texts that pieces say. -/
namespace Go.RS.DC
open Go Go.RS
open Go.RS.Enc (enc dec)
variable {E : VEnv}
theorem v_Valid (hE : E.env.fn = G) : Ok E 56 (s3 fun (s : Span) a b => some (spanOk s a b)) := by
  refine ok3 fun s a b r hr => ?_
  cases hr
  have e : spanOk s a b = (decide (s.Low ≤ s.High) && decide (a ≤ s.Low) && decide (s.High ≤ b)) := by
    unfold spanOk; rw [Bool.and_comm (decide (a ≤ s.Low))]
  rw [e]
  refine VP.run (A := F56) (goodV_nil) [] (by rw [hE]; rfl) (by simp [F56]) ?_; unfold F56; simp (implicitDefEqProofs := false) [enc_list]
  repeat' (first | (refine vstep_split (fun hb => ?_) (fun hb => ?_) <;> (try simp only [Bool.not_eq_eq_eq_not, Bool.not_true, Bool.not_false, decide_eq_true_eq, decide_eq_false_iff_not] at hb) <;> simp (implicitDefEqProofs := false) [hb, enc_list]) | (refine vcond_split (fun hb => ?_) (fun hb => ?_) <;> (try simp only [Bool.not_eq_eq_eq_not, Bool.not_true, Bool.not_false, decide_eq_true_eq, decide_eq_false_iff_not] at hb) <;> simp (implicitDefEqProofs := false) [hb, enc_list]))
theorem v_sound (hE : E.env.fn = G) : Ok E 32 (s1 fun b => some (okB b)) := by
  refine ok1 fun b r hr => ?_
  cases hr
  have good := goodV_cons (v_Check hE) (goodV_cons (w_Lies hE) (goodV_cons (v_Valid hE) goodV_nil))
  cases ho : okB b
  · have hck : checkB b = 50 := by unfold checkB; rw [ho]; rfl
    refine VP.run (A := F32) (good) [] (by rw [hE]; rfl) (by simp [F32]) ?_; unfold F32; simp (implicitDefEqProofs := false) [enc_list, hck]
    refine VW.loop_to 0 [(3, .bool false)] [] (True) ?_ (fun hp f m hc => ?_)
    · obtain ⟨Inv, hI⟩ : ∃ Inv : Nat → List (Nat × PV) → VM → Prop, ∀ k f m, Inv k f m ↔ (f = [(1, .ptr 0 6 0), (3, .bool false), (4, .int .i64 0)] ∧ m = [bcl b]) := ⟨_, fun _ _ _ => Iff.rfl⟩
      refine VW.loop_cut Inv 0 ?_ ?_ ?_
      · exact ⟨_, _, (hI _ _ _).2 ⟨rfl, rfl⟩, ⟨1, [], by simp [enc_list], by simp, by simp, by simp (implicitDefEqProofs := false) [enc_list], by simp (implicitDefEqProofs := false) [enc_list]⟩⟩
      · intro k f m hk hi
        omega
      · intro f m hi
        obtain ⟨rfl, rfl⟩ := (hI _ _ _).1 hi
        refine VW.run good [] ?_; simp (implicitDefEqProofs := false) [enc_list]
        exact ⟨0, [], by simp [enc_list], by simp, by simp, by simp (implicitDefEqProofs := false) [enc_list], by simp (implicitDefEqProofs := false) [enc_list]⟩
    · simp (implicitDefEqProofs := false); refine .ofCut hc (VW.run good [] ?_); simp (implicitDefEqProofs := false) [enc_list]
  · have hck : checkB b = 0 := by unfold checkB; rw [ho]; rfl
    have o := okB_ok ho
    have e1 : wi b.Discs.length 1 4 = true := (wi_iff _ _ _).2 ⟨by have := o.d1; omega, by have := o.d2; omega⟩
    have e2 : wi b.Pieces.length 1 10 = true := (wi_iff _ _ _).2 ⟨by have := o.p1; omega, by have := o.p2; omega⟩
    have e3 : spanOk b.Pause 0 200 = true := (spanOk_iff _ _ _).2 ⟨o.a0, o.a1, o.a2⟩
    have e4 : spanOk b.Rest 0 500 = true := (spanOk_iff _ _ _).2 ⟨o.r0, o.r1, o.r2⟩
    have d2 := o.d2
    have p2 := o.p2
    have wd : IntKind.i64.wrap ((b.Discs.length : Int) - 1) = b.Discs.length - 1 := wrap64 (by omega) (by omega)
    refine VP.run (A := F32) (good) [] (by rw [hE]; rfl) (by simp [F32]) ?_; unfold F32; simp (implicitDefEqProofs := false) [enc_list, hck, e1, e2, e3, e4]
    refine VW.loop_to 0 [(3, .bool true)] [] (True) ?_ (fun hp f m hc => ?_)
    · obtain ⟨Inv, hI⟩ : ∃ Inv : Nat → List (Nat × PV) → VM → Prop, ∀ k f m, Inv k f m ↔ (f = [(1, .ptr 0 6 0), (3, .bool true), (4, .int .i64 k)] ∧ m = [bcl b]) := ⟨_, fun _ _ _ => Iff.rfl⟩
      refine VW.loop_cut Inv b.Pieces.length ?_ ?_ ?_
      · exact ⟨_, _, (hI _ _ _).2 ⟨rfl, rfl⟩, ⟨1, [], by simp [enc_list], by simp, by simp, by simp (implicitDefEqProofs := false) [enc_list], by simp (implicitDefEqProofs := false) [enc_list]⟩⟩
      · intro k f m hk hi
        obtain ⟨rfl, rfl⟩ := (hI _ _ _).1 hi
        have w1 : IntKind.i64.wrap ((k : Int) + 1) = k + 1 := wrap64 (by omega) (by omega)
        have hk' : (k : Int) < b.Pieces.length := by omega
        have po := o.ps _ (List.getElem_mem hk)
        have hg := get_Piece b.Pieces k hk
        generalize b.Pieces[k] = x at *
        obtain ⟨d, hd⟩ : ∃ d : Nat, x.Disc = d := ⟨x.Disc.toNat, by have := po.d0; omega⟩
        have hd1 : d < b.Discs.length := by have := po.d1; omega
        have hd1' : (d : Int) < b.Discs.length := by omega
        have hgd := get_Int b.Discs d hd1
        have hT : discOf b x = b.Discs[d] := by unfold discOf; rw [hd, List.getD_eq_getElem?_getD, Int.toNat_natCast, List.getElem?_eq_getElem hd1]; rfl
        have t1 := po.t1
        have t2 := po.t2
        have b0 := po.b0
        have b1 := po.b1
        have l1 := po.l1
        have l2 := po.l2
        rw [hT] at t1 t2 b1 l2
        generalize b.Discs[d] = T at *
        have w2 : IntKind.i64.wrap (T - 1) = T - 1 := wrap64 (by omega) (by omega)
        have f1 : wi x.Words.length 1 4 = true := (wi_iff _ _ _).2 ⟨by have := po.w1; omega, by have := po.w2; omega⟩
        have f2 : wi (d : Int) 0 (b.Discs.length - 1) = true := (wi_iff _ _ _).2 ⟨by omega, by omega⟩
        have f3 : wi T 1 500 = true := (wi_iff _ _ _).2 ⟨t1, t2⟩
        have f4 : wi x.Long 1 T = true := (wi_iff _ _ _).2 ⟨l1, l2⟩
        have f5 : wi x.Begin 0 (T - 1) = true := (wi_iff _ _ _).2 ⟨b0, by omega⟩
        refine VW.run good [] ?_; simp (implicitDefEqProofs := false) [enc_list, hk, hk', hg, hd, hd1, hd1', hgd, w1, w2, wd, f1, f2, f3, f4, f5, spliceV]
        exact ⟨_, _, (hI _ _ _).2 ⟨rfl, rfl⟩, ⟨1, [], by simp [enc_list], by simp, by simp, by simp (implicitDefEqProofs := false) [enc_list], by simp (implicitDefEqProofs := false) [enc_list]⟩⟩
      · intro f m hi
        obtain ⟨rfl, rfl⟩ := (hI _ _ _).1 hi
        refine VW.run good [] ?_; simp (implicitDefEqProofs := false) [enc_list]
        exact ⟨0, [], by simp [enc_list], by simp, by simp, by simp (implicitDefEqProofs := false) [enc_list], by simp (implicitDefEqProofs := false) [enc_list]⟩
    · simp (implicitDefEqProofs := false); refine .ofCut hc (VW.run good [] ?_); simp (implicitDefEqProofs := false) [enc_list]
end Go.RS.DC

/- Walks: what the laws share (2): texts that pieces say. -/
namespace Go.RS.DC
open Go Go.RS
open Go.RS.Enc (enc dec)
variable {E : VEnv}
theorem app_list (M : VM) (t bytes : Nat) (out l : List Int) (ex : Bool) (h : M[t]? = some (.vec (encL out))) (hl : l ≠ []) (hf : fits (out.length + l.length) bytes = true) :
    appendV M 1 bytes (.sl t out.length 0 out.length (openCap + 1) 1) (.lst ex l.length 1 (encL l)) = some (.sl t (out ++ l).length 0 (out ++ l).length (openCap + 1) 1, M.set t (.vec (encL (out ++ l)))) := by
  have hv : vcells M t = some (encL out) := by unfold vcells; rw [h]
  have h0 : l.length ≠ 0 := fun h => hl (List.eq_nil_of_length_eq_zero h)
  have he : elemsV M 1 (.lst ex l.length 1 (encL l)) = some (l.length, encL l) := by simp [elemsV, okE, h0]
  have hll : (encL l).length = l.length := by rw [encL_length]; exact Nat.mul_one _
  have hol : (encL out).length = out.length := by rw [encL_length]; exact Nat.mul_one _
  have hne : encL l ≠ [] := fun h => h0 (by rw [← hll, h]; rfl)
  unfold appendV
  simp only [he]
  rw [if_pos ⟨trivial, by decide⟩, if_neg h0]
  cases out with
  | nil =>
    rw [if_pos (show ([] : List Int).length = 0 from rfl)]
    simp only [h, encL_nil]
    rw [if_pos ⟨trivial, rfl, by simpa using hf, encL_isF l, hne⟩, hll]
    rfl
  | cons a out =>
    rw [if_neg (show ¬ (a :: out).length = 0 by simp)]
    simp only [hv]
    rw [if_neg (by rw [hol]; simp), if_pos (by omega), if_pos ⟨trivial, trivial, Nat.mul_one _, hf, scal_ints l⟩]
    simp only [vput, h, encL_isF, if_true, Option.map_some, hll, encL_append, List.length_append]
def someG (b : Book) (bits : List Int) : Option (List Int × List Int) := if okB b then some (someF b bits) else none
set_option maxRecDepth 20000 in
theorem v_some (hE : E.env.fn = G) : Ok E 33 (s2 someG) := by
  refine ok2 fun b bits r hr => ?_
  unfold someG at hr
  split at hr
  · rename_i ho
    cases hr
    have o := okB_ok ho
    have p1 := o.p1
    have p2 := o.p2
    refine VP.bound fun hb => ?_
    simp [enc_list] at hb
    have good := goodV_cons (w_Rest hE) goodV_nil
    obtain ⟨T, hT⟩ : ∃ T, someF b bits = T := ⟨_, rfl⟩
    rw [hT]
    refine VP.func (A := F33) (by rw [hE]; rfl) (by simp [F33]) ?_
    unfold F33
    refine VW.seq (VW.run good [] ?_); simp (implicitDefEqProofs := false) [enc_list]
    refine VW.seq (VW.run good [] ?_); simp (implicitDefEqProofs := false) [enc_list]
    refine VW.declare 6 1 (by simp) ?_
    refine VW.declare 7 1 (by simp) ?_
    refine VW.seq (VW.seq (VW.run good [] ?_))
    simp (implicitDefEqProofs := false) [enc_list]
    refine VW.block ?_
    refine VW.loop_to 0 [(6, sl1 1 T.1), (7, sl1 2 T.2)] [bcl b, .vec (encL T.1), .vec (encL T.2)] (True) ?_ (fun hp f m hc => ?_)
    · obtain ⟨Inv, hI⟩ : ∃ Inv : Nat → List (Nat × PV) → VM → Prop, ∀ k f m, Inv k f m ↔ (∃ s : List Int × List Int, f = [(1, enc bits), (2, .ptr 0 6 0), (6, sl1 1 s.1), (7, sl1 2 s.2), (8, .int .i64 k)] ∧ m = [bcl b, .vec (encL s.1), .vec (encL s.2)] ∧ (bits.drop k).foldl (someStep b) s = T ∧ SomeOk b s) := ⟨_, fun _ _ _ => Iff.rfl⟩
      refine VW.loop_cut Inv bits.length ?_ ?_ ?_
      · exact ⟨_, _, (hI _ _ _).2 ⟨([], []), rfl, rfl, hT, ⟨rfl, by simp [InR], by simp⟩⟩, ⟨3, [], by simp [enc_list], by simp, by simp, by simp (implicitDefEqProofs := false) [enc_list], by simp (implicitDefEqProofs := false) [enc_list]⟩⟩
      · intro k f m hk hi
        obtain ⟨⟨s1, s2⟩, rfl, rfl, hs, so⟩ := (hI _ _ _).1 hi
        have w1 : IntKind.i64.wrap ((k : Int) + 1) = k + 1 := wrap64 (by omega) (by omega)
        have hk' : (k : Int) < bits.length := by omega
        rw [List.drop_eq_getElem_cons hk, List.foldl_cons] at hs
        have so2 := someStep_ok o so bits[k]
        have hg := get_Int bits k hk
        generalize bits[k] = x at *
        have hR : restF x b.Pieces.length = some (x % b.Pieces.length) := if_pos ⟨by omega, by omega⟩
        obtain ⟨m0, m1⟩ := mod_piece o x
        obtain ⟨q, hq⟩ : ∃ q : Nat, x % (b.Pieces.length : Int) = q := ⟨(x % (b.Pieces.length : Int)).toNat, by omega⟩
        have hq1 : q < b.Pieces.length := by omega
        have hq1' : (q : Int) < b.Pieces.length := by omega
        have hgp := get_Piece b.Pieces q hq1
        have hpn : pieceN b q = b.Pieces[q] := by unfold pieceN; rw [List.getD_eq_getElem?_getD, List.getElem?_eq_getElem hq1]; rfl
        have po := pieceN_ok o hq1
        have hst : someStep b (s1, s2) x = if s1.length + (pieceN b q).Words.length ≤ 8 then (s1 ++ (pieceN b q).Words, s2 ++ [(q : Int)]) else (s1, s2) := by
          unfold someStep; rw [hq, pieceAt_N]
        rw [hst] at hs so2
        rw [hq] at hR
        rw [hpn] at hs so2 po
        generalize b.Pieces[q] = y at *
        have pw1 := po.w1
        have pw2 := po.w2
        have sl := so.l
        simp only at sl
        have hs2 := words_len o so.r
        rw [← so.t] at hs2
        simp only at hs2
        obtain ⟨n, hn⟩ : ∃ n, s1.length + y.Words.length = n := ⟨_, rfl⟩
        have w2 : IntKind.i64.wrap ((s1.length : Int) + y.Words.length) = (n : Int) := by rw [wrap64 (by omega) (by omega)]; omega
        rw [hn] at hs so2
        by_cases hle : n ≤ 8
        · rw [if_pos hle] at hs so2
          have hle' : (n : Int) ≤ 8 := by omega
          have hf : fits (s2.length + 1) 8 = true := fits8L (by omega)
          have hf2 : fits n 8 = true := fits8L (by omega)
          have hy : y.Words ≠ [] := fun h => by rw [h] at pw1; simp at pw1
          have hap := app_list [bcl b, .vec (encL s1), .vec (encL s2)] 1 8 s1 y.Words false rfl hy (by rw [hn]; exact hf2)
          refine VW.run good [] ?_; simp (implicitDefEqProofs := false) [enc_list, hk, hk', hg, hR, hq1, hq1', hgp, w1, w2, hle, hle', hf, hap, hn, spliceV]
          exact ⟨_, _, (hI _ _ _).2 ⟨(s1 ++ y.Words, s2 ++ [(q : Int)]), rfl, rfl, hs, so2⟩, ⟨3, [], by simp [enc_list,  hn], by simp, by simp, by simp (implicitDefEqProofs := false) [enc_list,  hn], by simp (implicitDefEqProofs := false) [enc_list,  hn]⟩⟩
        · rw [if_neg hle] at hs so2
          have hle' : ¬ (n : Int) ≤ 8 := by omega
          refine VW.run good [] ?_; simp (implicitDefEqProofs := false) [enc_list, hk, hk', hg, hR, hq1, hq1', hgp, w1, w2, hle, hle', hn, spliceV]
          exact ⟨_, _, (hI _ _ _).2 ⟨(s1, s2), rfl, rfl, hs, so2⟩, ⟨3, [], by simp [enc_list], by simp, by simp, by simp (implicitDefEqProofs := false) [enc_list], by simp (implicitDefEqProofs := false) [enc_list]⟩⟩
      · intro f m hi
        obtain ⟨s, rfl, rfl, hs, so⟩ := (hI _ _ _).1 hi
        rw [List.drop_length, List.foldl_nil] at hs
        subst hs
        refine VW.run good [] ?_; simp (implicitDefEqProofs := false) [enc_list]
        exact ⟨3, [], by simp [enc_list], by simp, by simp, by simp (implicitDefEqProofs := false) [enc_list], by simp (implicitDefEqProofs := false) [enc_list]⟩
    · obtain ⟨T1, T2⟩ := T
      simp (implicitDefEqProofs := false) [enc_list, AExit.leave]
      refine .ofCut hc (VW.run good [] ?_)
      simp (implicitDefEqProofs := false) [enc_list]
  · cases hr
end Go.RS.DC

/- Walks: what the laws share (3): what pieces say; whether some of them are enough. -/
namespace Go.RS.DC
open Go Go.RS
open Go.RS.Enc (enc dec)
variable {E : VEnv}
def saidG (b : Book) (l : List Int) : Option (List Int × Bool) := if okB b = true ∧ l.length ≤ 100 then some (if l.all (inB b) = true then (wordsL b l, true) else ([], false)) else none
theorem wordsL_snoc (b : Book) (l : List Int) (k : Int) : wordsL b (l ++ [k]) = wordsL b l ++ (pieceAt b k).Words := by rw [wordsL_append]; simp [wordsL]
theorem inB_iff {b : Book} {k : Int} : inB b k = true ↔ 0 ≤ k ∧ k < b.Pieces.length := by unfold inB; rw [wi_iff]; omega
set_option maxRecDepth 20000 in
theorem v_said (hE : E.env.fn = G) : Ok E 34 (s2 saidG) := by
  refine ok2 fun b l r hr => ?_
  unfold saidG at hr
  split at hr
  · rename_i hc
    cases hr
    obtain ⟨ho, hl⟩ := hc
    have o := okB_ok ho
    have p1 := o.p1
    have p2 := o.p2
    have good := goodV_cons (w_Lies hE) goodV_nil
    have wl : IntKind.i64.wrap ((b.Pieces.length : Int) - 1) = b.Pieces.length - 1 := wrap64 (by omega) (by omega)
    generalize hT : (if l.all (inB b) = true then (wordsL b l, true) else ([], false) : List Int × Bool) = T
    refine VP.func (A := F34) (by rw [hE]; rfl) (by simp [F34]) ?_
    unfold F34
    refine VW.seq (VW.run good [] ?_); simp (implicitDefEqProofs := false) [enc_list]
    refine VW.seq (VW.run good [] ?_); simp (implicitDefEqProofs := false) [enc_list]
    refine VW.declare 6 1 (by simp) ?_
    refine VW.seq (VW.seq (VW.run good [] ?_))
    simp (implicitDefEqProofs := false) [enc_list]
    refine VW.block ?_
    refine VW.loop_to 0 [(6, sl1 1 T.1)] [bcl b, .vec (encL T.1)] (T.2 = true) ?_ (fun hp f m hc => ?_)
    · obtain ⟨Inv, hI⟩ : ∃ Inv : Nat → List (Nat × PV) → VM → Prop, ∀ k f m, Inv k f m ↔ (∃ out : List Int, f = [(1, enc l), (2, .ptr 0 6 0), (6, sl1 1 out), (7, .int .i64 k)] ∧ m = [bcl b, .vec (encL out)] ∧ out = wordsL b (l.take k) ∧ out.length ≤ 4 * k ∧ (l.take k).all (inB b) = true) := ⟨_, fun _ _ _ => Iff.rfl⟩
      refine VW.loop_cut Inv l.length ?_ ?_ ?_
      · exact ⟨_, _, (hI _ _ _).2 ⟨[], rfl, rfl, rfl, by simp, rfl⟩, ⟨2, [], by simp [enc_list], by simp, by simp, by simp (implicitDefEqProofs := false) [enc_list], by simp (implicitDefEqProofs := false) [enc_list]⟩⟩
      · intro k f m hk hi
        obtain ⟨out, rfl, rfl, hout, hlo, hal⟩ := (hI _ _ _).1 hi
        have w1 : IntKind.i64.wrap ((k : Int) + 1) = k + 1 := wrap64 (by omega) (by omega)
        have hk' : (k : Int) < l.length := by omega
        have htk : l.take (k + 1) = l.take k ++ [l[k]] := by rw [List.take_add_one, List.getElem?_eq_getElem hk]; rfl
        have hg := get_Int l k hk
        have hmem : l[k] ∈ l := List.getElem_mem hk
        generalize l[k] = x at *
        cases hx : wi x 0 (b.Pieces.length - 1)
        · have hno : ¬ l.all (inB b) = true := fun h => by
            have := List.all_eq_true.1 h x hmem
            unfold inB at this
            rw [hx] at this; cases this
          rw [if_neg hno] at hT
          subst hT
          refine VW.run good [] ?_; simp (implicitDefEqProofs := false) [enc_list, hk, hk', hg, wl, hx]
          simp (implicitDefEqProofs := false) [enc_list, AExit.leave]
        · obtain ⟨x0, x1⟩ := (wi_iff _ _ _).1 hx
          obtain ⟨q, hq⟩ : ∃ q : Nat, x = q := ⟨x.toNat, by omega⟩
          subst hq
          have hq1 : q < b.Pieces.length := by omega
          have hq1' : (q : Int) < b.Pieces.length := by omega
          have hgp := get_Piece b.Pieces q hq1
          have hpn : pieceN b q = b.Pieces[q] := by unfold pieceN; rw [List.getD_eq_getElem?_getD, List.getElem?_eq_getElem hq1]; rfl
          have po := pieceN_ok o hq1
          have hws : wordsL b (l.take (k + 1)) = out ++ (pieceN b q).Words := by rw [htk, wordsL_snoc, pieceAt_N, ← hout]
          have hal2 : (l.take (k + 1)).all (inB b) = true := by rw [htk, List.all_append, hal]; simp [inB, hx]
          rw [hpn] at hws po
          generalize b.Pieces[q] = y at *
          have pw1 := po.w1
          have pw2 := po.w2
          obtain ⟨n, hn⟩ : ∃ n, out.length + y.Words.length = n := ⟨_, rfl⟩
          have hf : fits n 8 = true := fits8L (by omega)
          have hy : y.Words ≠ [] := fun h => by rw [h] at pw1; simp at pw1
          have hap := app_list [bcl b, .vec (encL out)] 1 8 out y.Words false rfl hy (by rw [hn]; exact hf)
          refine VW.run good [] ?_; simp (implicitDefEqProofs := false) [enc_list, hk, hk', hg, wl, hx, hq1, hq1', hgp, w1, hap, hn, spliceV]
          exact ⟨_, _, (hI _ _ _).2 ⟨out ++ y.Words, rfl, rfl, hws.symm, by rw [List.length_append]; omega, hal2⟩, ⟨2, [], by simp [enc_list,  hn], by simp, by simp, by simp (implicitDefEqProofs := false) [enc_list,  hn], by simp (implicitDefEqProofs := false) [enc_list,  hn]⟩⟩
      · intro f m hi
        obtain ⟨out, rfl, rfl, hout, hlo, hal⟩ := (hI _ _ _).1 hi
        rw [List.take_length] at hout hal
        rw [if_pos hal] at hT
        subst hT
        subst hout
        refine VW.run good [] ?_; simp (implicitDefEqProofs := false) [enc_list]
        exact ⟨2, [], by simp [enc_list], by simp, by simp, by simp (implicitDefEqProofs := false) [enc_list], by simp (implicitDefEqProofs := false) [enc_list]⟩
    · obtain ⟨T1, T2⟩ := T
      simp only at hp
      subst hp
      simp (implicitDefEqProofs := false); refine .ofCut hc (VW.run good [] ?_); simp (implicitDefEqProofs := false) [enc_list]
  · cases hr
end Go.RS.DC

/- Walks: the examples of the chapter. -/
namespace Go.RS.DC
open Go Go.RS
open Go.RS.Enc (enc dec)
variable {E : VEnv}
def textC : List Int := [1, 102, 205]
def bookC : Book := ⟨[10, 16], [⟨[1], 0, 2, 5⟩, ⟨[102], 1, 4, 8⟩, ⟨[1, 102], 1, 0, 12⟩, ⟨[205], 0, 7, 6⟩, ⟨[102, 205], 1, 9, 14⟩], ⟨1, 6⟩, ⟨2, 20⟩⟩
theorem v_piece (hE : E.env.fn = G) : Ok E 79 (s4 fun (w : List Int) (d b l : Int) => some (Piece.mk w d b l)) := by
  refine ok4 fun w d b l r hr => ?_
  cases hr
  refine VP.run (A := F79) (goodV_nil) [] (by rw [hE]; rfl) (by simp [F79]) ?_; unfold F79; simp (implicitDefEqProofs := false) [enc_list, spliceV]
theorem v_text (hE : E.env.fn = G) : Ok E 47 (s0 (some textC)) := by
  refine ok0 fun r hr => ?_
  cases hr
  refine VP.run (A := F47) (goodV_nil) [] (by rw [hE]; rfl) (by simp [F47]) ?_; unfold F47; simp (implicitDefEqProofs := false) [enc_list, spliceV, textC, encL]
theorem di1 (a : Int) : (dec (PV.lst true 1 1 [.int .i64 a]) : Option (List Int)) = some [a] := rfl
theorem di2 (a b : Int) : (dec (PV.lst true 2 1 [.int .i64 a, .int .i64 b]) : Option (List Int)) = some [a, b] := rfl
theorem di3 (a b c : Int) : (dec (PV.lst true 3 1 [.int .i64 a, .int .i64 b, .int .i64 c]) : Option (List Int)) = some [a, b, c] := rfl
theorem v_book (hE : E.env.fn = G) : Ok E 46 (s0 (some bookC)) := by
  refine ok0 fun r hr => ?_
  cases hr
  refine VP.run (A := F46) ((goodV_cons (v_piece hE) (goodV_cons (w_To hE) goodV_nil))) [] (by rw [hE]; rfl) (by simp [F46]) ?_; unfold F46; simp (implicitDefEqProofs := false) [enc_list, spliceV, di1, di2, bookC, encL]
theorem ex1 : WordsR ⟨0, 1, 2, 5⟩ = (textC, 0) := by decide +kernel
theorem ex2 : FewestVR bookC textC = ([0, 4], 0) := by decide +kernel
theorem ex3 : NeededR bookC [textC, [102]] = ([0, 1, 3], 0) := by decide +kernel
theorem ex4 : IsPlanR bookC textC 0 60 [⟨2, 32⟩, ⟨3, 47⟩] = (true, 0) := by decide +kernel
theorem ex5 : (PlanPR bookC textC 0 60).1.length = 2 ∧ (PlanPR bookC textC 0 60).2 = 0 := by decide +kernel
theorem ex6 : LatestPR bookC textC 0 60 = (32, 0) := by decide +kernel
theorem ex7 : DayP bookC ⟨2, 4, 6, 1, []⟩ 36 5 1 = ([2], 0) := by decide +kernel
theorem dt2 : (dec (PV.lst true 2 1 [.lst false textC.length 1 (encL textC), .lst true 1 1 [.int .i64 102]]) : Option (List (List Int))) = some [textC, [102]] := rfl
theorem ds2 : (dec (PV.lst true 2 2 [.int .i64 2, .int .i64 32, .int .i64 3, .int .i64 47]) : Option (List Start)) = some [⟨2, 32⟩, ⟨3, 47⟩] := rfl
set_option maxRecDepth 100000 in
theorem v_works (hE : E.env.fn = G) (hgl : E.gl 1 = some [f130v, f131v]) (hgl2 : E.gl 0 = some vparts) : Ok E 23 (s0 (some true)) := by
  refine ok0 fun r hr => ?_
  cases hr
  have good := goodV_cons (v_Words hE hgl2) (goodV_cons (v_book hE) (goodV_cons (v_text hE) (goodV_cons (v_Fewest hE) (goodV_cons (v_Needed hE) (goodV_cons (v_IsPlan hE) (goodV_cons (v_Plan hE) (goodV_cons (v_Latest hE) (goodV_cons (v_Day hE hgl hgl2) (goodV_cons (w_Alike hE) goodV_nil)))))))))
  obtain ⟨e5, e6⟩ := ex5
  obtain ⟨⟨pl, pe⟩, hP⟩ : ∃ p, PlanPR bookC textC 0 60 = p := ⟨_, rfl⟩
  rw [hP] at e5 e6
  simp only at e5 e6
  refine VP.run (A := F23) (good) [] (by rw [hE]; rfl) (by simp [F23]) ?_; unfold F23; simp (implicitDefEqProofs := false) [enc_list, ex1, ex2, ex3, ex4, hP, e5, e6, ex6, ex7, dt2, ds2, di2, di3, spliceV]
end Go.RS.DC

/- Walks: what the laws share (5): a list with one number more; words that no piece says. -/
namespace Go.RS.DC
open Go Go.RS
open Go.RS.Enc (enc dec)
variable {E : VEnv}
def withG (l : List Int) (n : Int) : Option (List Int) := if l.length ≤ 1000 then some (l ++ [n]) else none
theorem find_not {w : Int} : ∀ (l : List Int) (k : Nat), findR w k l < 0 → w ∉ l
  | [], _, _ => by simp
  | x :: l, k, h => by
    rw [findR] at h
    split at h
    · omega
    · rename_i hx
      have := find_not l (k + 1) h
      simp only [List.mem_cons, not_or]
      exact ⟨fun e => hx e.symm, this⟩
theorem app_cap (M : VM) (t bytes q n m : Nat) (C l : List Int) (ex : Bool) (h : M[t]? = some (.vec (encL C))) (hC : C.length = q) (hm : l.length = m) (h0 : l ≠ []) (hn : n + m ≤ q) (hq : q < 1000000) :
    appendV M 1 bytes (.sl t q 0 n q 1) (.lst ex m 1 (encL l)) = some (.sl t q 0 (n + m) q 1, M.set t (.vec (encL (C.take n ++ l ++ C.drop (n + m))))) := by
  have hl0 : m ≠ 0 := fun h => h0 (List.eq_nil_of_length_eq_zero (by omega))
  have hv : vcells M t = some (encL C) := by unfold vcells; rw [h]
  have he : elemsV M 1 (.lst ex m 1 (encL l)) = some (m, encL l) := by simp [elemsV, okE, hl0]
  have hll : (encL l).length = m := by rw [encL_length, ← hm]; exact Nat.mul_one _
  have hcl : (encL C).length = q := by rw [encL_length, ← hC]; exact Nat.mul_one _
  have hsp : spliceV (encL C) (0 + n * 1) (encL l) = encL (C.take n ++ l ++ C.drop (n + m)) := by
    unfold spliceV
    have h1 := encL_take C n
    have h2 := encL_drop C (n + m)
    rw [show El.sz Int = 1 from rfl, Nat.mul_one] at h1 h2
    rw [Nat.mul_one, Nat.zero_add, h1, hll, h2, encL_append, encL_append, List.append_assoc]
  have ho : ¬ openCap ≤ q := by have : openCap = 18446744073709551616 := rfl; omega
  unfold appendV
  simp only [he]
  rw [if_pos ⟨trivial, by decide⟩, if_neg hl0, if_neg (by omega)]
  simp only [hv]
  rw [if_neg (by rw [hcl]; simp), if_neg ho, if_pos hn, if_pos ⟨by rw [hll]; omega, scal_ints l, by omega⟩]
  simp only [vput, h, encL_isF, if_true, Option.map_some, hsp]
theorem v_With (hE : E.env.fn = G) : Ok E 38 (s2 withG) := by
  refine ok2 fun l n r hr => ?_
  unfold withG at hr
  split at hr
  · rename_i hl
    cases hr
    have w1 : IntKind.i64.wrap ((l.length : Int) + 1) = ((l.length + 1 : Nat) : Int) := by rw [wrap64 (by omega) (by omega)]; omega
    obtain ⟨q, hq⟩ : ∃ q, l.length + 1 = q := ⟨_, rfl⟩
    rw [hq] at w1
    have c0 : ¬ q = 0 := by omega
    have c1 : q * 8 ≤ 1099511627776 := by omega
    have c2 : q ≤ 1099511627776 := by omega
    have hz : List.map (fun i => PV.ofS ([Value.int .i64 0][i % 1]?.getD undef)) (List.range q) = encL (List.replicate q (0 : Int)) := by
      rw [encL_rep (0 : Int) (.int .i64 0) 1 rfl q, Nat.mul_one, List.eq_replicate_iff]
      refine ⟨by simp, fun b hb => ?_⟩
      obtain ⟨i, _, rfl⟩ := List.mem_map.1 hb
      simp [Nat.mod_one]
    have a2 : ∀ (l : List Int), l.length + 1 = q → appendV [.vec (encL (l ++ [0]))] 1 8 (.sl 0 q 0 l.length q 1) (.lst true 1 1 [.int .i64 n]) = some (.sl 0 q 0 (l.length + 1) q 1, [.vec (encL (l ++ [n]))]) := fun l h => by
      have := app_cap [.vec (encL (l ++ [0]))] 0 8 q l.length 1 (l ++ [0]) [n] true rfl (by simp; omega) rfl (by simp) (by omega) (by omega)
      have e : (l ++ [(0 : Int)]).take l.length ++ [n] ++ (l ++ [0]).drop (l.length + 1) = l ++ [n] := by simp
      rw [e] at this
      exact this
    have hfz : ∀ (l : List Int), l.length + 1 = q → fzSl [.vec (encL (l ++ [n]))] 0 q 0 (l.length + 1) q 1 = .lst true q 1 (encL (l ++ [n])) := fun l h => by
      have hen : (encL (l ++ [n])).length = l.length + 1 := by rw [encL_length]; simp
      unfold fzSl
      have hq0 : ¬ q = 0 := by omega
      have hqo : q ≤ openCap := by have : openCap = 18446744073709551616 := rfl; omega
      simp [hen, h, hq0, hqo]
      rw [← h, ← hen, List.take_length]
    have a2' := a2 l hq
    have hf' := hfz l hq
    rw [hq] at a2' hf'
    by_cases h0 : l = []
    · subst h0
      have hq1 : q = 1 := by simpa using hq.symm
      subst hq1
      have hw : IntKind.i64.wrap 1 = 1 := by decide
      have a0 : appendV [.vec [PV.int .i64 0]] 1 8 (.sl 0 1 0 0 1 1) (.lst false 0 1 []) = some (.sl 0 1 0 0 1 1, [.vec [PV.int .i64 0]]) := rfl
      have a2'' : appendV [.vec [PV.int .i64 0]] 1 8 (.sl 0 1 0 0 1 1) (.lst true 1 1 [.int .i64 n]) = some (.sl 0 1 0 1 1 1, [.vec (encL [n])]) := a2'
      have hf'' : fzSl [.vec (encL [n])] 0 1 0 1 1 1 = .lst true 1 1 (encL [n]) := hf'
      refine VP.run (A := F38) (goodV_nil) [] (by rw [hE]; rfl) (by simp [F38]) ?_; unfold F38; simp (implicitDefEqProofs := false) [enc_list, hw, hz, a0, a2'', hf'', spliceV]
    · have h0' : ¬ l.length = 0 := fun h => h0 (List.eq_nil_of_length_eq_zero h)
      have a1 := app_cap [.vec (encL (List.replicate q (0 : Int)))] 0 8 q 0 l.length (List.replicate q 0) l false rfl (by simp) rfl h0 (by omega) (by omega)
      have e : (List.replicate q (0 : Int)).take 0 ++ l ++ (List.replicate q 0).drop (0 + l.length) = l ++ [0] := by
        rw [List.take_zero, List.nil_append, List.drop_replicate, show q - (0 + l.length) = 1 by omega]; rfl
      rw [e] at a1
      simp only [Nat.zero_add, List.set_cons_zero] at a1
      refine VP.run (A := F38) (goodV_nil) [] (by rw [hE]; rfl) (by simp [F38]) ?_; unfold F38; simp (implicitDefEqProofs := false) [enc_list, w1, c0, c1, c2, hz, a1, a2', hf', h0', hq, spliceV]
  · cases hr
end Go.RS.DC

/- Walks: what the laws share (6): sets as numbers; whether some pieces are enough. -/
namespace Go.RS.DC
open Go Go.RS
open Go.RS.Enc (enc dec)
variable {E : VEnv}
def inF (s k : Int) : Option Bool := if 0 ≤ s ∧ s < 1048576 ∧ 0 ≤ k ∧ k < 60 then some (s.toNat.testBit k.toNat) else none
theorem bit_of (y k : Nat) : y.testBit k = decide (y / 2 ^ k % 2 = 1) := by
  rw [Nat.testBit_eq_decide_div_mod_eq]
theorem v_In (hE : E.env.fn = G) : Ok E 77 (s2 inF) := by
  refine ok2 fun s k r hr => ?_
  unfold inF at hr
  split at hr
  · rename_i hc
    cases hr
    obtain ⟨y, rfl⟩ : ∃ y : Nat, s = y := ⟨s.toNat, by omega⟩
    obtain ⟨q, rfl⟩ : ∃ q : Nat, k = q := ⟨k.toNat, by omega⟩
    have hq : min q IntKind.i64.bits = q := by have : IntKind.i64.bits = 64 := rfl; omega
    have hq0 : ((q : Int) < 0) = False := eq_false (by omega)
    have hfd : (y : Int).fdiv (2 ^ q) = ((y / 2 ^ q : Nat) : Int) := by
      rw [Int.fdiv_eq_ediv_of_nonneg _ (by exact Int.pow_nonneg (by decide))]
      norm_cast
    have hle : y / 2 ^ q ≤ y := Nat.div_le_self _ _
    obtain ⟨z, hz⟩ : ∃ z, y / 2 ^ q = z := ⟨_, rfl⟩
    have hand : IntKind.i64.wrap (((BitVec.ofInt IntKind.i64.bits (z : Int) &&& BitVec.ofInt IntKind.i64.bits 1).toNat : Nat) : Int) = ((z % 2 : Nat) : Int) := by
      have h1 : (BitVec.ofInt IntKind.i64.bits (z : Int)).toNat = z := by
        rw [BitVec.toNat_ofInt]
        have : IntKind.i64.bits = 64 := rfl
        rw [this]; omega
      have h2 : (BitVec.ofInt IntKind.i64.bits 1).toNat = 1 := by decide
      rw [BitVec.toNat_and, h1, h2, Nat.and_one_is_mod, wrap64 (by omega) (by omega)]
    have hb : (y : Int).toNat.testBit (q : Int).toNat = decide (z % 2 = 1) := by
      rw [Int.toNat_natCast, Int.toNat_natCast, bit_of, hz]
    rw [hb]
    rw [hz] at hfd
    refine VP.run (A := F77) (goodV_nil) [] (by rw [hE]; rfl) (by simp [F77]) ?_; unfold F77; simp (implicitDefEqProofs := false) [enc_list, hq, hq0, hfd, hand]
    have e1 : z % 2 ^ IntKind.i64.bits = z := by
      have : IntKind.i64.bits = 64 := rfl
      rw [this]; omega
    have e2 : 1 % 2 ^ IntKind.i64.bits = 1 := by decide
    rw [e1, e2, Nat.and_one_is_mod, wrap64 (by omega) (by omega)]
    omega
  · cases hr
def listG (s n : Int) : Option (List Int) := if 0 ≤ s ∧ s < 1048576 ∧ 0 ≤ n ∧ n ≤ 20 then some (listF s.toNat n.toNat) else none
theorem listF_len (s : Nat) : ∀ n, (listF s n).length ≤ n
  | 0 => by simp [listF]
  | n + 1 => by
    have := listF_len s n
    rw [listF, List.length_append]
    split <;> simp <;> omega
theorem v_List (hE : E.env.fn = G) : Ok E 41 (s2 listG) := by
  refine ok2 fun s n r hr => ?_
  unfold listG at hr
  split at hr
  · rename_i hc
    cases hr
    obtain ⟨y, rfl⟩ : ∃ y : Nat, s = y := ⟨s.toNat, by omega⟩
    obtain ⟨N, rfl⟩ : ∃ N : Nat, n = N := ⟨n.toNat, by omega⟩
    rw [Int.toNat_natCast, Int.toNat_natCast]
    have good := goodV_cons (v_In hE) goodV_nil
    obtain ⟨T, hT⟩ : ∃ T, listF y N = T := ⟨_, rfl⟩
    rw [hT]
    refine VP.func (A := F41) (by rw [hE]; rfl) (by simp [F41]) ?_
    unfold F41
    refine VW.seq (VW.run good [] ?_); simp (implicitDefEqProofs := false) [enc_list]
    refine VW.seq (VW.run good [] ?_); simp (implicitDefEqProofs := false) [enc_list]
    refine VW.declare 5 1 (by simp) ?_
    refine VW.seq (VW.seq (VW.run good [] ?_))
    simp (implicitDefEqProofs := false) [enc_list]
    refine VW.block ?_
    refine VW.loop_to 0 [(5, sl1 0 T)] [.vec (encL T)] (True) ?_ (fun hp f m hc => ?_)
    · obtain ⟨Inv, hI⟩ : ∃ Inv : Nat → List (Nat × PV) → VM → Prop, ∀ k f m, Inv k f m ↔ (f = [(0, .int .i64 y), (1, .int .i64 N), (5, sl1 0 (listF y k)), (6, .int .i64 k)] ∧ m = [.vec (encL (listF y k))]) := ⟨_, fun _ _ _ => Iff.rfl⟩
      refine VW.loop_cut Inv N ?_ ?_ ?_
      · exact ⟨_, _, (hI _ _ _).2 ⟨rfl, rfl⟩, ⟨1, [], by simp [enc_list,  listF], by simp, by simp, by simp (implicitDefEqProofs := false) [enc_list,  listF], by simp (implicitDefEqProofs := false) [enc_list,  listF]⟩⟩
      · intro k f m hk hi
        obtain ⟨rfl, rfl⟩ := (hI _ _ _).1 hi
        have w1 : IntKind.i64.wrap ((k : Int) + 1) = k + 1 := wrap64 (by omega) (by omega)
        have hk' : (k : Int) < (N : Int) := by omega
        have hin : inF (y : Int) (k : Int) = some (y.testBit k) := by
          unfold inF; rw [if_pos ⟨by omega, by omega, by omega, by omega⟩]; rfl
        have hf : fits ((listF y k).length + 1) 8 = true := fits8L (by have := listF_len y k; omega)
        cases hb : y.testBit k
        · have e : listF y (k + 1) = listF y k := by rw [listF, hb]; simp
          rw [hb] at hin
          refine VW.run good [] ?_; simp (implicitDefEqProofs := false) [enc_list, hk', hin, w1]
          exact ⟨_, _, (hI _ _ _).2 ⟨rfl, rfl⟩, ⟨1, [], by simp [enc_list,  e], by simp, by simp, by simp (implicitDefEqProofs := false) [enc_list,  e], by simp (implicitDefEqProofs := false) [enc_list,  e]⟩⟩
        · have e : listF y (k + 1) = listF y k ++ [(k : Int)] := by rw [listF, hb]; simp
          rw [hb] at hin
          refine VW.run good [] ?_; simp (implicitDefEqProofs := false) [enc_list, hk', hin, w1, hf, spliceV]
          exact ⟨_, _, (hI _ _ _).2 ⟨rfl, rfl⟩, ⟨1, [], by simp [enc_list,  e], by simp, by simp, by simp (implicitDefEqProofs := false) [enc_list,  e], by simp (implicitDefEqProofs := false) [enc_list,  e]⟩⟩
      · intro f m hi
        obtain ⟨rfl, rfl⟩ := (hI _ _ _).1 hi
        rw [hT]
        refine VW.run good [] ?_; simp (implicitDefEqProofs := false) [enc_list]
        exact ⟨1, [], by simp [enc_list], by simp, by simp, by simp (implicitDefEqProofs := false) [enc_list], by simp (implicitDefEqProofs := false) [enc_list]⟩
    · simp (implicitDefEqProofs := false) [enc_list, AExit.leave]
      refine .ofCut hc (VW.run good [] ?_)
      simp (implicitDefEqProofs := false) [enc_list]
  · cases hr
def enoughG (b : Book) (l t : List Int) : Option Bool := if okB b = true ∧ l.length ≤ 10 then some (enoughB b l t) else none
set_option maxHeartbeats 1600000 in
set_option maxRecDepth 20000 in
theorem v_enough (hE : E.env.fn = G) : Ok E 40 (s3 enoughG) := by
  refine ok3 fun b l t r hr => ?_
  unfold enoughG at hr
  split at hr
  · rename_i hc
    cases hr
    obtain ⟨ho, hl⟩ := hc
    have o := okB_ok ho
    have p1 := o.p1
    have p2 := o.p2
    have good := goodV_cons (w_Lies hE) (goodV_cons (v_Fewest hE) goodV_nil)
    have wl : IntKind.i64.wrap ((b.Pieces.length : Int) - 1) = b.Pieces.length - 1 := wrap64 (by omega) (by omega)
    obtain ⟨P, hP⟩ : ∃ P, (l.filter (inB b)).map (pieceAt b) = P := ⟨_, rfl⟩
    have hB : enoughB b l t = decide ((FewestVR ⟨b.Discs, P, b.Pause, b.Rest⟩ t).2 = 0) := by unfold enoughB subB; rw [hP]
    rw [hB]
    obtain ⟨EnS, hEn⟩ : ∃ EnS : List Piece → PV → VM → Prop, ∀ ps v M, EnS ps v M ↔ ((ps = [] ∧ v = .nilS ∧ M = []) ∨ (ps ≠ [] ∧ v = .sl 2 (ps.length * 4) 0 ps.length (openCap + 4) 4 ∧ M = [.vec (encL ps)])) := ⟨_, fun _ _ _ => Iff.rfl⟩
    refine VP.func (A := F40) (by rw [hE]; rfl) (by simp [F40]) ?_
    unfold F40
    refine VW.seq (VW.run good [] ?_); simp (implicitDefEqProofs := false) [enc_list]
    refine VW.seq (VW.run good [] ?_); simp (implicitDefEqProofs := false) [enc_list, spliceV]
    refine VW.seq (VW.run good [] ?_); simp (implicitDefEqProofs := false) [enc_list, spliceV]
    refine VW.seq (VW.seq (VW.run good [] ?_))
    simp (implicitDefEqProofs := false) [enc_list]
    refine VW.block ?_
    refine VW.loop_toE 0 (fun (y : PV × VM) => [(2, enc t), (7, .ptr 1 6 0)]) (fun (y : PV × VM) => (bcl b :: .cells [enc b.Discs, y.1, .int .i64 b.Pause.Low, .int .i64 b.Pause.High, .int .i64 b.Rest.Low, .int .i64 b.Rest.High] :: y.2)) (fun (y : PV × VM) => EnS P y.1 y.2) ?_ (fun y hp f m hc => ?_)
    · obtain ⟨Inv, hI⟩ : ∃ Inv : Nat → List (Nat × PV) → VM → Prop, ∀ k f m, Inv k f m ↔ (∃ v M, f = [(1, enc l), (2, enc t), (3, .ptr 0 6 0), (7, .ptr 1 6 0), (8, .int .i64 k)] ∧ m = bcl b :: .cells [enc b.Discs, v, .int .i64 b.Pause.Low, .int .i64 b.Pause.High, .int .i64 b.Rest.Low, .int .i64 b.Rest.High] :: M ∧ EnS (((l.take k).filter (inB b)).map (pieceAt b)) v M) := ⟨_, fun _ _ _ => Iff.rfl⟩
      refine VW.loop_cut Inv l.length ?_ ?_ ?_
      · exact ⟨_, _, (hI _ _ _).2 ⟨.nilS, [], rfl, rfl, (hEn _ _ _).2 (.inl ⟨rfl, rfl, rfl⟩)⟩, ⟨2, [], by simp [enc_list], by simp, by simp, by simp (implicitDefEqProofs := false) [enc_list], by simp (implicitDefEqProofs := false) [enc_list]⟩⟩
      · intro k f m hk hi
        obtain ⟨v, M, rfl, rfl, hv⟩ := (hI _ _ _).1 hi
        have w1 : IntKind.i64.wrap ((k : Int) + 1) = k + 1 := wrap64 (by omega) (by omega)
        have hk' : (k : Int) < l.length := by omega
        have htk : l.take (k + 1) = l.take k ++ [l[k]] := by rw [List.take_add_one, List.getElem?_eq_getElem hk]; rfl
        have hg := get_Int l k hk
        generalize l[k] = x at *
        cases hx : wi x 0 (b.Pieces.length - 1)
        · have hst : ((l.take (k + 1)).filter (inB b)).map (pieceAt b) = ((l.take k).filter (inB b)).map (pieceAt b) := by rw [htk]; simp [List.filter_append, inB, hx]
          rw [← hst] at hv
          rcases (hEn _ _ _).1 hv with ⟨_, rfl, rfl⟩ | ⟨_, rfl, rfl⟩
          · refine VW.run good [] ?_; simp (implicitDefEqProofs := false) [enc_list, hk, hk', hg, wl, hx, w1]
            exact ⟨_, _, (hI _ _ _).2 ⟨_, _, rfl, rfl, hv⟩, ⟨2, [], by simp [enc_list], by simp, by simp, by simp (implicitDefEqProofs := false) [enc_list], by simp (implicitDefEqProofs := false) [enc_list]⟩⟩
          · refine VW.run good [] ?_; simp (implicitDefEqProofs := false) [enc_list, hk, hk', hg, wl, hx, w1]
            exact ⟨_, _, (hI _ _ _).2 ⟨_, _, rfl, rfl, hv⟩, ⟨3, [], by simp [enc_list], by simp, by simp, by simp (implicitDefEqProofs := false) [enc_list], by simp (implicitDefEqProofs := false) [enc_list]⟩⟩
        · obtain ⟨x0, x1⟩ := (wi_iff _ _ _).1 hx
          obtain ⟨q, hq⟩ : ∃ q : Nat, x = q := ⟨x.toNat, by omega⟩
          subst hq
          have hq1 : q < b.Pieces.length := by omega
          have hq1' : (q : Int) < b.Pieces.length := by omega
          have hgp := get_Piece b.Pieces q hq1
          have hpn : pieceN b q = b.Pieces[q] := by unfold pieceN; rw [List.getD_eq_getElem?_getD, List.getElem?_eq_getElem hq1]; rfl
          have hst : ((l.take (k + 1)).filter (inB b)).map (pieceAt b) = ((l.take k).filter (inB b)).map (pieceAt b) ++ [pieceN b q] := by
            rw [htk]
            have : inB b (q : Int) = true := hx
            simp [List.filter_append, this, pieceAt_N]
          have hlen : (((l.take k).filter (inB b)).map (pieceAt b)).length ≤ 10 := by
            rw [List.length_map]
            have h1 := List.length_filter_le (inB b) (l.take k)
            rw [List.length_take] at h1
            omega
          rw [hpn] at hst
          generalize ((l.take k).filter (inB b)).map (pieceAt b) = ps at *
          generalize b.Pieces[q] = y at *
          have hf : fits (ps.length + 1) 48 = true := by unfold fits; simp; omega
          rcases (hEn _ _ _).1 hv with ⟨rfl, rfl, rfl⟩ | ⟨hps, rfl, rfl⟩
          · have a1 : appendV [bcl b, .cells [.lst false b.Discs.length 1 (encL b.Discs), .nilS, .int .i64 b.Pause.Low, .int .i64 b.Pause.High, .int .i64 b.Rest.Low, .int .i64 b.Rest.High]] 4 48 .nilS (.lst true 1 4 [.lst false y.Words.length 1 (encL y.Words), .int .i64 y.Disc, .int .i64 y.Begin, .int .i64 y.Long]) = some (.sl 2 4 0 1 (openCap + 4) 4, [bcl b, .cells [.lst false b.Discs.length 1 (encL b.Discs), .nilS, .int .i64 b.Pause.Low, .int .i64 b.Pause.High, .int .i64 b.Rest.Low, .int .i64 b.Rest.High], .vec (encL [y])]) := by
              have hf1 : fits 1 48 = true := by decide
              simp [appendV, elemsV, okE, hf1, newVec, PV.isFL, PV.isF, encL, El.cells]
              rfl
            refine VW.run good [] ?_; simp (implicitDefEqProofs := false) [enc_list, hk, hk', hg, wl, hx, w1, hq1, hq1', hgp, a1, spliceV]
            exact ⟨_, _, (hI _ _ _).2 ⟨_, _, rfl, rfl, (hEn _ _ _).2 (.inr ⟨by rw [hst]; simp, by rw [hst], by rw [hst]⟩)⟩, ⟨3, [], by simp [enc_list,  hst], by simp, by simp, by simp (implicitDefEqProofs := false) [enc_list,  hst], by simp (implicitDefEqProofs := false) [enc_list,  hst]⟩⟩
          · have a1 := app_Piece [bcl b, .cells [.lst false b.Discs.length 1 (encL b.Discs), .sl 2 (ps.length * 4) 0 ps.length (openCap + 4) 4, .int .i64 b.Pause.Low, .int .i64 b.Pause.High, .int .i64 b.Rest.Low, .int .i64 b.Rest.High], .vec (encL ps)] 2 48 ps y rfl hf
            refine VW.run good [] ?_; simp (implicitDefEqProofs := false) [enc_list, hk, hk', hg, wl, hx, w1, hq1, hq1', hgp, a1, spliceV]
            exact ⟨_, _, (hI _ _ _).2 ⟨_, _, rfl, rfl, (hEn _ _ _).2 (.inr ⟨by rw [hst]; simp, by rw [hst], by rw [hst]⟩)⟩, ⟨3, [], by simp [enc_list,  hst], by simp, by simp, by simp (implicitDefEqProofs := false) [enc_list,  hst], by simp (implicitDefEqProofs := false) [enc_list,  hst]⟩⟩
      · intro f m hi
        obtain ⟨v, M, rfl, rfl, hv⟩ := (hI _ _ _).1 hi
        rw [List.take_length, hP] at hv
        rcases (hEn _ _ _).1 hv with ⟨_, rfl, rfl⟩ | ⟨_, rfl, rfl⟩
        · refine VW.run good [] ?_; simp (implicitDefEqProofs := false) [enc_list]
          exact ⟨_, _, hv, ⟨2, [], by simp [enc_list], by simp, by simp, by simp (implicitDefEqProofs := false) [enc_list], by simp (implicitDefEqProofs := false) [enc_list]⟩⟩
        · refine VW.run good [] ?_; simp (implicitDefEqProofs := false) [enc_list]
          exact ⟨_, _, hv, ⟨3, [], by simp [enc_list], by simp, by simp, by simp (implicitDefEqProofs := false) [enc_list], by simp (implicitDefEqProofs := false) [enc_list]⟩⟩
    · obtain ⟨v, M⟩ := y
      simp only at hp hc
      simp (implicitDefEqProofs := false) [enc_list, AExit.leave]
      refine .ofCut hc ?_
      rcases (hEn _ _ _).1 hp with ⟨hP0, rfl, rfl⟩ | ⟨hP0, rfl, rfl⟩
      · have hX : (dec PV.nilS : Option (List Piece)) = some P := by rw [hP0]; rfl
        obtain ⟨R, hR⟩ : ∃ R, FewestVR ⟨b.Discs, P, b.Pause, b.Rest⟩ t = R := ⟨_, rfl⟩
        obtain ⟨R1, R2⟩ := R
        rw [hR]
        refine VW.run good [] ?_; simp (implicitDefEqProofs := false) [enc_list, hX, hR]
      · refine VW.freezeM (t := 2) (len := P.length * 4) (o := 0) (q := P.length) (cap := openCap + 4) (e := 4) (cs := [enc b.Discs, .sl 2 (P.length * 4) 0 P.length (openCap + 4) 4, .int .i64 b.Pause.Low, .int .i64 b.Pause.High, .int .i64 b.Rest.Low, .int .i64 b.Rest.High]) 1 1 rfl rfl (by decide) ?_
        obtain ⟨MM, hMM⟩ : ∃ MM : VM, [bcl b, .cells [enc b.Discs, .sl 2 (P.length * 4) 0 P.length (openCap + 4) 4, .int .i64 b.Pause.Low, .int .i64 b.Pause.High, .int .i64 b.Rest.Low, .int .i64 b.Rest.High], .vec (encL P)] = MM := ⟨_, rfl⟩
        have hfz : fzSl MM 2 (P.length * 4) 0 P.length (openCap + 4) 4 = .lst (openCap + 4 == P.length) P.length 4 (encL P) := by
          have := fzSl_vec (α := Piece) MM 2 P (by rw [← hMM]; rfl) (by decide)
          rwa [if_neg (by simpa using hP0)] at this
        rw [hMM, hfz, ← hMM]
        generalize (openCap + 4 == P.length) = bx
        have hX : (dec (PV.lst bx P.length 4 (encL P)) : Option (List Piece)) = some P := dec_lst bx P
        simp only [List.set_cons_succ, List.set_cons_zero]
        obtain ⟨R, hR⟩ : ∃ R, FewestVR ⟨b.Discs, P, b.Pause, b.Rest⟩ t = R := ⟨_, rfl⟩
        obtain ⟨R1, R2⟩ := R
        rw [hR]
        refine VW.run good [] ?_; simp (implicitDefEqProofs := false) [enc_list, hX, hR]
  · cases hr
end Go.RS.DC

/- Walks: what the laws share (7): what can be asked about. -/
namespace Go.RS.DC
open Go Go.RS
open Go.RS.Enc (enc dec)
variable {E : VEnv}
theorem v_isText (hE : E.env.fn = G) : Ok E 78 (s1 fun l => some (wordsOk l 8)) := by
  refine ok1 fun l r hr => ?_
  cases hr
  refine VP.bound fun hb => ?_
  simp [enc_list] at hb
  have good := goodV_cons (w_Lies hE) goodV_nil
  obtain ⟨T, hT⟩ : ∃ T, wordsOk l 8 = T := ⟨_, rfl⟩
  rw [hT]
  unfold wordsOk at hT
  cases h1 : wi l.length 1 8
  · rw [h1, Bool.false_and] at hT
    subst hT
    refine VP.run (A := F78) (good) [] (by rw [hE]; rfl) (by simp [F78]) ?_; unfold F78; simp (implicitDefEqProofs := false) [enc_list, h1]
    refine VW.loop_to 0 [(3, .bool false)] [] (True) ?_ (fun hp f m hc => ?_)
    · obtain ⟨Inv, hI⟩ : ∃ Inv : Nat → List (Nat × PV) → VM → Prop, ∀ k f m, Inv k f m ↔ (f = [(0, enc l), (3, .bool false), (4, .int .i64 0)] ∧ m = []) := ⟨_, fun _ _ _ => Iff.rfl⟩
      refine VW.loop_cut Inv 0 ?_ ?_ ?_
      · exact ⟨_, _, (hI _ _ _).2 ⟨rfl, rfl⟩, ⟨0, [], by simp [enc_list], by simp, by simp, by simp (implicitDefEqProofs := false) [enc_list], by simp (implicitDefEqProofs := false) [enc_list]⟩⟩
      · intro k f m hk hi
        omega
      · intro f m hi
        obtain ⟨rfl, rfl⟩ := (hI _ _ _).1 hi
        refine VW.run good [] ?_; simp (implicitDefEqProofs := false) [enc_list]
        exact ⟨0, [], by simp [enc_list], by simp, by simp, by simp (implicitDefEqProofs := false) [enc_list], by simp (implicitDefEqProofs := false) [enc_list]⟩
    · simp (implicitDefEqProofs := false); refine .ofCut hc (VW.run good [] ?_); simp (implicitDefEqProofs := false) [enc_list]
  · rw [h1, Bool.true_and] at hT
    refine VP.run (A := F78) (good) [] (by rw [hE]; rfl) (by simp [F78]) ?_; unfold F78; simp (implicitDefEqProofs := false) [enc_list, h1]
    refine VW.loop_to 0 [(3, .bool T)] [] (True) ?_ (fun hp f m hc => ?_)
    · obtain ⟨Inv, hI⟩ : ∃ Inv : Nat → List (Nat × PV) → VM → Prop, ∀ k f m, Inv k f m ↔ (f = [(0, enc l), (3, .bool ((l.take k).all fun n => wi n 0 299)), (4, .int .i64 k)] ∧ m = []) := ⟨_, fun _ _ _ => Iff.rfl⟩
      refine VW.loop_cut Inv l.length ?_ ?_ ?_
      · exact ⟨_, _, (hI _ _ _).2 ⟨rfl, rfl⟩, ⟨0, [], by simp [enc_list], by simp, by simp, by simp (implicitDefEqProofs := false) [enc_list], by simp (implicitDefEqProofs := false) [enc_list]⟩⟩
      · intro k f m hk hi
        obtain ⟨rfl, rfl⟩ := (hI _ _ _).1 hi
        have w1 : IntKind.i64.wrap ((k : Int) + 1) = k + 1 := wrap64 (by omega) (by omega)
        have hk' : (k : Int) < l.length := by omega
        have htk : l.take (k + 1) = l.take k ++ [l[k]] := by rw [List.take_add_one, List.getElem?_eq_getElem hk]; rfl
        have hst : (l.take (k + 1)).all (fun n => wi n 0 299) = ((l.take k).all (fun n => wi n 0 299) && wi l[k] 0 299) := by rw [htk, List.all_append]; simp
        have hg := get_Int l k hk
        have hall : l.all (fun n => wi n 0 299) = true → (l.take k).all (fun n => wi n 0 299) = true := fun h => List.all_eq_true.2 fun x hx => List.all_eq_true.1 h x (List.mem_of_mem_take hx)
        generalize l[k] = x at *
        cases hc : (l.take k).all fun n => wi n 0 299
        · have hTf : T = false := by
            cases T
            · rfl
            · rw [hall hT] at hc; cases hc
          subst hTf
          refine VW.run good [] ?_; simp (implicitDefEqProofs := false) [enc_list, hk, hk', hg, w1]
          exact ⟨0, [], by simp [enc_list], by simp, by simp, by simp (implicitDefEqProofs := false) [enc_list], by simp (implicitDefEqProofs := false) [enc_list]⟩
        · rw [hc, Bool.true_and] at hst
          cases hx : wi x 0 299
          · rw [hx] at hst
            refine VW.run good [] ?_; simp (implicitDefEqProofs := false) [enc_list, hk, hk', hg, w1, hx]
            exact ⟨_, _, (hI _ _ _).2 ⟨rfl, rfl⟩, ⟨0, [], by simp [enc_list,  hst], by simp, by simp, by simp (implicitDefEqProofs := false) [enc_list,  hst], by simp (implicitDefEqProofs := false) [enc_list,  hst]⟩⟩
          · rw [hx] at hst
            refine VW.run good [] ?_; simp (implicitDefEqProofs := false) [enc_list, hk, hk', hg, w1, hx]
            exact ⟨_, _, (hI _ _ _).2 ⟨rfl, rfl⟩, ⟨0, [], by simp [enc_list,  hst], by simp, by simp, by simp (implicitDefEqProofs := false) [enc_list,  hst], by simp (implicitDefEqProofs := false) [enc_list,  hst]⟩⟩
      · intro f m hi
        obtain ⟨rfl, rfl⟩ := (hI _ _ _).1 hi
        rw [List.take_length, hT]
        cases T
        · refine VW.run good [] ?_; simp (implicitDefEqProofs := false) [enc_list]
          exact ⟨0, [], by simp [enc_list], by simp, by simp, by simp (implicitDefEqProofs := false) [enc_list], by simp (implicitDefEqProofs := false) [enc_list]⟩
        · refine VW.run good [] ?_; simp (implicitDefEqProofs := false) [enc_list]
          exact ⟨0, [], by simp [enc_list], by simp, by simp, by simp (implicitDefEqProofs := false) [enc_list], by simp (implicitDefEqProofs := false) [enc_list]⟩
    · simp (implicitDefEqProofs := false) [enc_list, AExit.leave]
      refine .ofCut hc (VW.run good [] ?_)
      simp (implicitDefEqProofs := false) [enc_list]
def canB (x : Asked) : Bool := wordsOk x.Text 8 && decide (0 ≤ x.From) && decide (x.From ≤ x.Pip) && decide (x.Pip - x.From ≤ 6100) && decide (x.Pip ≤ 100000000)
def canG (x : Asked) : Option Bool := if x.Pip < 9223372036854775808 then some (canB x) else none
theorem v_can (hE : E.env.fn = G) : Ok E 44 (s1 canG) := by
  refine ok1 fun x r hr => ?_
  unfold canG at hr
  split at hr
  · rename_i hp
    cases hr
    have good := goodV_cons (v_isText hE) goodV_nil
    unfold canB
    cases h1 : wordsOk x.Text 8
    · refine VP.run (A := F44) (good) [] (by rw [hE]; rfl) (by simp [F44]) ?_; unfold F44; simp (implicitDefEqProofs := false) [enc_list, h1]
    · by_cases h2 : 0 ≤ x.From
      · by_cases h3 : x.From ≤ x.Pip
        · have w1 : IntKind.i64.wrap (x.Pip - x.From) = x.Pip - x.From := wrap64 (by omega) (by omega)
          by_cases h4 : x.Pip - x.From ≤ 6100
          · refine VP.run (A := F44) (good) [] (by rw [hE]; rfl) (by simp [F44]) ?_; unfold F44; simp (implicitDefEqProofs := false) [enc_list, h1, h2, h3, w1, h4]
          · refine VP.run (A := F44) (good) [] (by rw [hE]; rfl) (by simp [F44]) ?_; unfold F44; simp (implicitDefEqProofs := false) [enc_list, h1, h2, h3, w1, h4]
        · refine VP.run (A := F44) (good) [] (by rw [hE]; rfl) (by simp [F44]) ?_; unfold F44; simp (implicitDefEqProofs := false) [enc_list, h1, h2, h3]
      · refine VP.run (A := F44) (good) [] (by rw [hE]; rfl) (by simp [F44]) ?_; unfold F44; simp (implicitDefEqProofs := false) [enc_list, h1, h2]
  · cases hr
end Go.RS.DC

