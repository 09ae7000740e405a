/- Walks: lists that come before others; a number of a span. -/
import Derived.Test.YtcbkaiakncbcbaaDoorVwc
import Derived.Test.YtcbkaiakncbcbaaDoorDxa
import Derived.Test.YtcbkaiakncbcbaaDoorVpb
set_option linter.all false
namespace Go.RS.DC
open Go Go.RS
open Go.RS.Enc (enc dec)
variable {E : VEnv}
theorem firstF_le : ∀ a b : List Int, firstF a b ≤ a.length ∧ firstF a b ≤ b.length
  | [], b => by cases b <;> simp [firstF]
  | _ :: _, [] => by simp [firstF]
  | x :: a, y :: b => by
    have := firstF_le a b
    unfold firstF
    split <;> simp <;> omega
theorem aheadB_first : ∀ a b : List Int, aheadB a b = if h : firstF a b < a.length ∧ firstF a b < b.length then decide (a[firstF a b]'h.1 < b[firstF a b]'h.2) else decide (a.length < b.length)
  | [], [] => by simp [aheadB]
  | [], y :: b => by simp [aheadB, firstF]
  | x :: a, [] => by simp [aheadB, firstF]
  | x :: a, y :: b => by
    have ih := aheadB_first a b
    by_cases hx : x = y
    · have hf : firstF (x :: a) (y :: b) = firstF a b + 1 := by rw [firstF, if_pos hx]
      rw [aheadB, if_pos hx, ih]
      simp only [hf, List.length_cons, Nat.add_lt_add_iff_right, List.getElem_cons_succ]
    · have hf : firstF (x :: a) (y :: b) = 0 := by rw [firstF, if_neg hx]
      rw [aheadB, if_neg hx]
      simp [hf]
theorem w_Ahead (hE : E.env.fn = G) : Ok E 35 (s2 fun a b => some (aheadB a b)) := by
  refine ok2 fun a b r hr => ?_
  cases hr
  have good := goodV_cons (w_First hE) goodV_nil
  obtain ⟨f1, f2⟩ := firstF_le a b
  have hB := aheadB_first a b
  generalize aheadB a b = T at hB
  generalize hF : firstF a b = F at *
  by_cases h1 : F < a.length
  · by_cases h2 : F < b.length
    · rw [dif_pos ⟨h1, h2⟩] at hB
      refine VP.run (A := F35) (good) [] (by rw [hE]; rfl) (by simp [F35]) ?_; unfold F35; simp (implicitDefEqProofs := false) [enc_list, hF, h1, h2, get_Int a F h1, get_Int b F h2, hB]
    · rw [dif_neg (fun h => h2 h.2)] at hB
      refine VP.run (A := F35) (good) [] (by rw [hE]; rfl) (by simp [F35]) ?_; unfold F35; simp (implicitDefEqProofs := false) [enc_list, hF, h1, h2, hB]
  · rw [dif_neg (fun h => h1 h.1)] at hB
    refine VP.run (A := F35) (good) [] (by rw [hE]; rfl) (by simp [F35]) ?_; unfold F35; simp (implicitDefEqProofs := false) [enc_list, hF, h1, hB]
end Go.RS.DC

/- Walks: what the laws share (1): sound books, texts that pieces say. -/
namespace Go.RS.DC
open Go Go.RS
open Go.RS.Enc (enc dec)
variable {E : VEnv}
theorem v_Valid (hE : E.env.fn = G) : Ok E 56 (s3 fun (s : Span) a b => some (spanOk s a b)) := by
  refine ok3 fun s a b r hr => ?_
  cases hr
  have e : spanOk s a b = (decide (s.Low ≤ s.High) && decide (a ≤ s.Low) && decide (s.High ≤ b)) := by
    unfold spanOk; rw [Bool.and_comm (decide (a ≤ s.Low))]
  rw [e]
  refine VP.run (A := F56) (goodV_nil) [] (by rw [hE]; rfl) (by simp [F56]) ?_; unfold F56; simp (implicitDefEqProofs := false) [enc_list]
  repeat' (first | (refine vstep_split (fun hb => ?_) (fun hb => ?_) <;> (try simp only [Bool.not_eq_eq_eq_not, Bool.not_true, Bool.not_false, decide_eq_true_eq, decide_eq_false_iff_not] at hb) <;> simp (implicitDefEqProofs := false) [hb, enc_list]) | (refine vcond_split (fun hb => ?_) (fun hb => ?_) <;> (try simp only [Bool.not_eq_eq_eq_not, Bool.not_true, Bool.not_false, decide_eq_true_eq, decide_eq_false_iff_not] at hb) <;> simp (implicitDefEqProofs := false) [hb, enc_list]))
theorem v_sound (hE : E.env.fn = G) : Ok E 32 (s1 fun b => some (okB b)) := by
  refine ok1 fun b r hr => ?_
  cases hr
  have good := goodV_cons (v_Check hE) (goodV_cons (w_Lies hE) (goodV_cons (v_Valid hE) goodV_nil))
  cases ho : okB b
  · have hck : checkB b = 50 := by unfold checkB; rw [ho]; rfl
    refine VP.run (A := F32) (good) [] (by rw [hE]; rfl) (by simp [F32]) ?_; unfold F32; simp (implicitDefEqProofs := false) [enc_list, hck]
    refine VW.loop_to 0 [(3, .bool false)] [] (True) ?_ (fun hp f m hc => ?_)
    · obtain ⟨Inv, hI⟩ : ∃ Inv : Nat → List (Nat × PV) → VM → Prop, ∀ k f m, Inv k f m ↔ (f = [(1, .ptr 0 6 0), (3, .bool false), (4, .int .i64 0)] ∧ m = [bcl b]) := ⟨_, fun _ _ _ => Iff.rfl⟩
      refine VW.loop_cut Inv 0 ?_ ?_ ?_
      · exact ⟨_, _, (hI _ _ _).2 ⟨rfl, rfl⟩, ⟨1, [], by simp [enc_list], by simp, by simp, by simp (implicitDefEqProofs := false) [enc_list], by simp (implicitDefEqProofs := false) [enc_list]⟩⟩
      · intro k f m hk hi
        omega
      · intro f m hi
        obtain ⟨rfl, rfl⟩ := (hI _ _ _).1 hi
        refine VW.run good [] ?_; simp (implicitDefEqProofs := false) [enc_list]
        exact ⟨0, [], by simp [enc_list], by simp, by simp, by simp (implicitDefEqProofs := false) [enc_list], by simp (implicitDefEqProofs := false) [enc_list]⟩
    · simp (implicitDefEqProofs := false); refine .ofCut hc (VW.run good [] ?_); simp (implicitDefEqProofs := false) [enc_list]
  · have hck : checkB b = 0 := by unfold checkB; rw [ho]; rfl
    have o := okB_ok ho
    have e1 : wi b.Discs.length 1 4 = true := (wi_iff _ _ _).2 ⟨by have := o.d1; omega, by have := o.d2; omega⟩
    have e2 : wi b.Pieces.length 1 10 = true := (wi_iff _ _ _).2 ⟨by have := o.p1; omega, by have := o.p2; omega⟩
    have e3 : spanOk b.Pause 0 200 = true := (spanOk_iff _ _ _).2 ⟨o.a0, o.a1, o.a2⟩
    have e4 : spanOk b.Rest 0 500 = true := (spanOk_iff _ _ _).2 ⟨o.r0, o.r1, o.r2⟩
    have d2 := o.d2
    have p2 := o.p2
    have wd : IntKind.i64.wrap ((b.Discs.length : Int) - 1) = b.Discs.length - 1 := wrap64 (by omega) (by omega)
    refine VP.run (A := F32) (good) [] (by rw [hE]; rfl) (by simp [F32]) ?_; unfold F32; simp (implicitDefEqProofs := false) [enc_list, hck, e1, e2, e3, e4]
    refine VW.loop_to 0 [(3, .bool true)] [] (True) ?_ (fun hp f m hc => ?_)
    · obtain ⟨Inv, hI⟩ : ∃ Inv : Nat → List (Nat × PV) → VM → Prop, ∀ k f m, Inv k f m ↔ (f = [(1, .ptr 0 6 0), (3, .bool true), (4, .int .i64 k)] ∧ m = [bcl b]) := ⟨_, fun _ _ _ => Iff.rfl⟩
      refine VW.loop_cut Inv b.Pieces.length ?_ ?_ ?_
      · exact ⟨_, _, (hI _ _ _).2 ⟨rfl, rfl⟩, ⟨1, [], by simp [enc_list], by simp, by simp, by simp (implicitDefEqProofs := false) [enc_list], by simp (implicitDefEqProofs := false) [enc_list]⟩⟩
      · intro k f m hk hi
        obtain ⟨rfl, rfl⟩ := (hI _ _ _).1 hi
        have w1 : IntKind.i64.wrap ((k : Int) + 1) = k + 1 := wrap64 (by omega) (by omega)
        have hk' : (k : Int) < b.Pieces.length := by omega
        have po := o.ps _ (List.getElem_mem hk)
        have hg := get_Piece b.Pieces k hk
        generalize b.Pieces[k] = x at *
        obtain ⟨d, hd⟩ : ∃ d : Nat, x.Disc = d := ⟨x.Disc.toNat, by have := po.d0; omega⟩
        have hd1 : d < b.Discs.length := by have := po.d1; omega
        have hd1' : (d : Int) < b.Discs.length := by omega
        have hgd := get_Int b.Discs d hd1
        have hT : discOf b x = b.Discs[d] := by unfold discOf; rw [hd, List.getD_eq_getElem?_getD, Int.toNat_natCast, List.getElem?_eq_getElem hd1]; rfl
        have t1 := po.t1
        have t2 := po.t2
        have b0 := po.b0
        have b1 := po.b1
        have l1 := po.l1
        have l2 := po.l2
        rw [hT] at t1 t2 b1 l2
        generalize b.Discs[d] = T at *
        have w2 : IntKind.i64.wrap (T - 1) = T - 1 := wrap64 (by omega) (by omega)
        have f1 : wi x.Words.length 1 4 = true := (wi_iff _ _ _).2 ⟨by have := po.w1; omega, by have := po.w2; omega⟩
        have f2 : wi (d : Int) 0 (b.Discs.length - 1) = true := (wi_iff _ _ _).2 ⟨by omega, by omega⟩
        have f3 : wi T 1 500 = true := (wi_iff _ _ _).2 ⟨t1, t2⟩
        have f4 : wi x.Long 1 T = true := (wi_iff _ _ _).2 ⟨l1, l2⟩
        have f5 : wi x.Begin 0 (T - 1) = true := (wi_iff _ _ _).2 ⟨b0, by omega⟩
        refine VW.run good [] ?_; simp (implicitDefEqProofs := false) [enc_list, hk, hk', hg, hd, hd1, hd1', hgd, w1, w2, wd, f1, f2, f3, f4, f5, spliceV]
        exact ⟨_, _, (hI _ _ _).2 ⟨rfl, rfl⟩, ⟨1, [], by simp [enc_list], by simp, by simp, by simp (implicitDefEqProofs := false) [enc_list], by simp (implicitDefEqProofs := false) [enc_list]⟩⟩
      · intro f m hi
        obtain ⟨rfl, rfl⟩ := (hI _ _ _).1 hi
        refine VW.run good [] ?_; simp (implicitDefEqProofs := false) [enc_list]
        exact ⟨0, [], by simp [enc_list], by simp, by simp, by simp (implicitDefEqProofs := false) [enc_list], by simp (implicitDefEqProofs := false) [enc_list]⟩
    · simp (implicitDefEqProofs := false); refine .ofCut hc (VW.run good [] ?_); simp (implicitDefEqProofs := false) [enc_list]
end Go.RS.DC

/- Walks: what the laws share (2): texts that pieces say. -/
namespace Go.RS.DC
open Go Go.RS
open Go.RS.Enc (enc dec)
variable {E : VEnv}
theorem app_list (M : VM) (t bytes : Nat) (out l : List Int) (ex : Bool) (h : M[t]? = some (.vec (encL out))) (hl : l ≠ []) (hf : fits (out.length + l.length) bytes = true) :
    appendV M 1 bytes (.sl t out.length 0 out.length (openCap + 1) 1) (.lst ex l.length 1 (encL l)) = some (.sl t (out ++ l).length 0 (out ++ l).length (openCap + 1) 1, M.set t (.vec (encL (out ++ l)))) := by
  have hv : vcells M t = some (encL out) := by unfold vcells; rw [h]
  have h0 : l.length ≠ 0 := fun h => hl (List.eq_nil_of_length_eq_zero h)
  have he : elemsV M 1 (.lst ex l.length 1 (encL l)) = some (l.length, encL l) := by simp [elemsV, okE, h0]
  have hll : (encL l).length = l.length := by rw [encL_length]; exact Nat.mul_one _
  have hol : (encL out).length = out.length := by rw [encL_length]; exact Nat.mul_one _
  have hne : encL l ≠ [] := fun h => h0 (by rw [← hll, h]; rfl)
  unfold appendV
  simp only [he]
  rw [if_pos ⟨trivial, by decide⟩, if_neg h0]
  cases out with
  | nil =>
    rw [if_pos (show ([] : List Int).length = 0 from rfl)]
    simp only [h, encL_nil]
    rw [if_pos ⟨trivial, rfl, by simpa using hf, encL_isF l, hne⟩, hll]
    rfl
  | cons a out =>
    rw [if_neg (show ¬ (a :: out).length = 0 by simp)]
    simp only [hv]
    rw [if_neg (by rw [hol]; simp), if_pos (by omega), if_pos ⟨trivial, trivial, Nat.mul_one _, hf, scal_ints l⟩]
    simp only [vput, h, encL_isF, if_true, Option.map_some, hll, encL_append, List.length_append]
def someG (b : Book) (bits : List Int) : Option (List Int × List Int) := if okB b then some (someF b bits) else none
set_option maxRecDepth 20000 in
theorem v_some (hE : E.env.fn = G) : Ok E 33 (s2 someG) := by
  refine ok2 fun b bits r hr => ?_
  unfold someG at hr
  split at hr
  · rename_i ho
    cases hr
    have o := okB_ok ho
    have p1 := o.p1
    have p2 := o.p2
    refine VP.bound fun hb => ?_
    simp [enc_list] at hb
    have good := goodV_cons (w_Rest hE) goodV_nil
    obtain ⟨T, hT⟩ : ∃ T, someF b bits = T := ⟨_, rfl⟩
    rw [hT]
    refine VP.func (A := F33) (by rw [hE]; rfl) (by simp [F33]) ?_
    unfold F33
    refine VW.seq (VW.run good [] ?_); simp (implicitDefEqProofs := false) [enc_list]
    refine VW.seq (VW.run good [] ?_); simp (implicitDefEqProofs := false) [enc_list]
    refine VW.declare 6 1 (by simp) ?_
    refine VW.declare 7 1 (by simp) ?_
    refine VW.seq (VW.seq (VW.run good [] ?_))
    simp (implicitDefEqProofs := false) [enc_list]
    refine VW.block ?_
    refine VW.loop_to 0 [(6, sl1 1 T.1), (7, sl1 2 T.2)] [bcl b, .vec (encL T.1), .vec (encL T.2)] (True) ?_ (fun hp f m hc => ?_)
    · obtain ⟨Inv, hI⟩ : ∃ Inv : Nat → List (Nat × PV) → VM → Prop, ∀ k f m, Inv k f m ↔ (∃ s : List Int × List Int, f = [(1, enc bits), (2, .ptr 0 6 0), (6, sl1 1 s.1), (7, sl1 2 s.2), (8, .int .i64 k)] ∧ m = [bcl b, .vec (encL s.1), .vec (encL s.2)] ∧ (bits.drop k).foldl (someStep b) s = T ∧ SomeOk b s) := ⟨_, fun _ _ _ => Iff.rfl⟩
      refine VW.loop_cut Inv bits.length ?_ ?_ ?_
      · exact ⟨_, _, (hI _ _ _).2 ⟨([], []), rfl, rfl, hT, ⟨rfl, by simp [InR], by simp⟩⟩, ⟨3, [], by simp [enc_list], by simp, by simp, by simp (implicitDefEqProofs := false) [enc_list], by simp (implicitDefEqProofs := false) [enc_list]⟩⟩
      · intro k f m hk hi
        obtain ⟨⟨s1, s2⟩, rfl, rfl, hs, so⟩ := (hI _ _ _).1 hi
        have w1 : IntKind.i64.wrap ((k : Int) + 1) = k + 1 := wrap64 (by omega) (by omega)
        have hk' : (k : Int) < bits.length := by omega
        rw [List.drop_eq_getElem_cons hk, List.foldl_cons] at hs
        have so2 := someStep_ok o so bits[k]
        have hg := get_Int bits k hk
        generalize bits[k] = x at *
        have hR : restF x b.Pieces.length = some (x % b.Pieces.length) := if_pos ⟨by omega, by omega⟩
        obtain ⟨m0, m1⟩ := mod_piece o x
        obtain ⟨q, hq⟩ : ∃ q : Nat, x % (b.Pieces.length : Int) = q := ⟨(x % (b.Pieces.length : Int)).toNat, by omega⟩
        have hq1 : q < b.Pieces.length := by omega
        have hq1' : (q : Int) < b.Pieces.length := by omega
        have hgp := get_Piece b.Pieces q hq1
        have hpn : pieceN b q = b.Pieces[q] := by unfold pieceN; rw [List.getD_eq_getElem?_getD, List.getElem?_eq_getElem hq1]; rfl
        have po := pieceN_ok o hq1
        have hst : someStep b (s1, s2) x = if s1.length + (pieceN b q).Words.length ≤ 8 then (s1 ++ (pieceN b q).Words, s2 ++ [(q : Int)]) else (s1, s2) := by
          unfold someStep; rw [hq, pieceAt_N]
        rw [hst] at hs so2
        rw [hq] at hR
        rw [hpn] at hs so2 po
        generalize b.Pieces[q] = y at *
        have pw1 := po.w1
        have pw2 := po.w2
        have sl := so.l
        simp only at sl
        have hs2 := words_len o so.r
        rw [← so.t] at hs2
        simp only at hs2
        obtain ⟨n, hn⟩ : ∃ n, s1.length + y.Words.length = n := ⟨_, rfl⟩
        have w2 : IntKind.i64.wrap ((s1.length : Int) + y.Words.length) = (n : Int) := by rw [wrap64 (by omega) (by omega)]; omega
        rw [hn] at hs so2
        by_cases hle : n ≤ 8
        · rw [if_pos hle] at hs so2
          have hle' : (n : Int) ≤ 8 := by omega
          have hf : fits (s2.length + 1) 8 = true := fits8L (by omega)
          have hf2 : fits n 8 = true := fits8L (by omega)
          have hy : y.Words ≠ [] := fun h => by rw [h] at pw1; simp at pw1
          have hap := app_list [bcl b, .vec (encL s1), .vec (encL s2)] 1 8 s1 y.Words false rfl hy (by rw [hn]; exact hf2)
          refine VW.run good [] ?_; simp (implicitDefEqProofs := false) [enc_list, hk, hk', hg, hR, hq1, hq1', hgp, w1, w2, hle, hle', hf, hap, hn, spliceV]
          exact ⟨_, _, (hI _ _ _).2 ⟨(s1 ++ y.Words, s2 ++ [(q : Int)]), rfl, rfl, hs, so2⟩, ⟨3, [], by simp [enc_list,  hn], by simp, by simp, by simp (implicitDefEqProofs := false) [enc_list,  hn], by simp (implicitDefEqProofs := false) [enc_list,  hn]⟩⟩
        · rw [if_neg hle] at hs so2
          have hle' : ¬ (n : Int) ≤ 8 := by omega
          refine VW.run good [] ?_; simp (implicitDefEqProofs := false) [enc_list, hk, hk', hg, hR, hq1, hq1', hgp, w1, w2, hle, hle', hn, spliceV]
          exact ⟨_, _, (hI _ _ _).2 ⟨(s1, s2), rfl, rfl, hs, so2⟩, ⟨3, [], by simp [enc_list], by simp, by simp, by simp (implicitDefEqProofs := false) [enc_list], by simp (implicitDefEqProofs := false) [enc_list]⟩⟩
      · intro f m hi
        obtain ⟨s, rfl, rfl, hs, so⟩ := (hI _ _ _).1 hi
        rw [List.drop_length, List.foldl_nil] at hs
        subst hs
        refine VW.run good [] ?_; simp (implicitDefEqProofs := false) [enc_list]
        exact ⟨3, [], by simp [enc_list], by simp, by simp, by simp (implicitDefEqProofs := false) [enc_list], by simp (implicitDefEqProofs := false) [enc_list]⟩
    · obtain ⟨T1, T2⟩ := T
      simp (implicitDefEqProofs := false) [enc_list, AExit.leave]
      refine .ofCut hc (VW.run good [] ?_)
      simp (implicitDefEqProofs := false) [enc_list]
  · cases hr
end Go.RS.DC

/- Walks: what the laws share (3): what pieces say; whether some of them are enough. -/
namespace Go.RS.DC
open Go Go.RS
open Go.RS.Enc (enc dec)
variable {E : VEnv}
def saidG (b : Book) (l : List Int) : Option (List Int × Bool) := if okB b = true ∧ l.length ≤ 100 then some (if l.all (inB b) = true then (wordsL b l, true) else ([], false)) else none
theorem wordsL_snoc (b : Book) (l : List Int) (k : Int) : wordsL b (l ++ [k]) = wordsL b l ++ (pieceAt b k).Words := by rw [wordsL_append]; simp [wordsL]
theorem inB_iff {b : Book} {k : Int} : inB b k = true ↔ 0 ≤ k ∧ k < b.Pieces.length := by unfold inB; rw [wi_iff]; omega
set_option maxRecDepth 20000 in
theorem v_said (hE : E.env.fn = G) : Ok E 34 (s2 saidG) := by
  refine ok2 fun b l r hr => ?_
  unfold saidG at hr
  split at hr
  · rename_i hc
    cases hr
    obtain ⟨ho, hl⟩ := hc
    have o := okB_ok ho
    have p1 := o.p1
    have p2 := o.p2
    have good := goodV_cons (w_Lies hE) goodV_nil
    have wl : IntKind.i64.wrap ((b.Pieces.length : Int) - 1) = b.Pieces.length - 1 := wrap64 (by omega) (by omega)
    generalize hT : (if l.all (inB b) = true then (wordsL b l, true) else ([], false) : List Int × Bool) = T
    refine VP.func (A := F34) (by rw [hE]; rfl) (by simp [F34]) ?_
    unfold F34
    refine VW.seq (VW.run good [] ?_); simp (implicitDefEqProofs := false) [enc_list]
    refine VW.seq (VW.run good [] ?_); simp (implicitDefEqProofs := false) [enc_list]
    refine VW.declare 6 1 (by simp) ?_
    refine VW.seq (VW.seq (VW.run good [] ?_))
    simp (implicitDefEqProofs := false) [enc_list]
    refine VW.block ?_
    refine VW.loop_to 0 [(6, sl1 1 T.1)] [bcl b, .vec (encL T.1)] (T.2 = true) ?_ (fun hp f m hc => ?_)
    · obtain ⟨Inv, hI⟩ : ∃ Inv : Nat → List (Nat × PV) → VM → Prop, ∀ k f m, Inv k f m ↔ (∃ out : List Int, f = [(1, enc l), (2, .ptr 0 6 0), (6, sl1 1 out), (7, .int .i64 k)] ∧ m = [bcl b, .vec (encL out)] ∧ out = wordsL b (l.take k) ∧ out.length ≤ 4 * k ∧ (l.take k).all (inB b) = true) := ⟨_, fun _ _ _ => Iff.rfl⟩
      refine VW.loop_cut Inv l.length ?_ ?_ ?_
      · exact ⟨_, _, (hI _ _ _).2 ⟨[], rfl, rfl, rfl, by simp, rfl⟩, ⟨2, [], by simp [enc_list], by simp, by simp, by simp (implicitDefEqProofs := false) [enc_list], by simp (implicitDefEqProofs := false) [enc_list]⟩⟩
      · intro k f m hk hi
        obtain ⟨out, rfl, rfl, hout, hlo, hal⟩ := (hI _ _ _).1 hi
        have w1 : IntKind.i64.wrap ((k : Int) + 1) = k + 1 := wrap64 (by omega) (by omega)
        have hk' : (k : Int) < l.length := by omega
        have htk : l.take (k + 1) = l.take k ++ [l[k]] := by rw [List.take_add_one, List.getElem?_eq_getElem hk]; rfl
        have hg := get_Int l k hk
        have hmem : l[k] ∈ l := List.getElem_mem hk
        generalize l[k] = x at *
        cases hx : wi x 0 (b.Pieces.length - 1)
        · have hno : ¬ l.all (inB b) = true := fun h => by
            have := List.all_eq_true.1 h x hmem
            unfold inB at this
            rw [hx] at this; cases this
          rw [if_neg hno] at hT
          subst hT
          refine VW.run good [] ?_; simp (implicitDefEqProofs := false) [enc_list, hk, hk', hg, wl, hx]
          simp (implicitDefEqProofs := false) [enc_list, AExit.leave]
        · obtain ⟨x0, x1⟩ := (wi_iff _ _ _).1 hx
          obtain ⟨q, hq⟩ : ∃ q : Nat, x = q := ⟨x.toNat, by omega⟩
          subst hq
          have hq1 : q < b.Pieces.length := by omega
          have hq1' : (q : Int) < b.Pieces.length := by omega
          have hgp := get_Piece b.Pieces q hq1
          have hpn : pieceN b q = b.Pieces[q] := by unfold pieceN; rw [List.getD_eq_getElem?_getD, List.getElem?_eq_getElem hq1]; rfl
          have po := pieceN_ok o hq1
          have hws : wordsL b (l.take (k + 1)) = out ++ (pieceN b q).Words := by rw [htk, wordsL_snoc, pieceAt_N, ← hout]
          have hal2 : (l.take (k + 1)).all (inB b) = true := by rw [htk, List.all_append, hal]; simp [inB, hx]
          rw [hpn] at hws po
          generalize b.Pieces[q] = y at *
          have pw1 := po.w1
          have pw2 := po.w2
          obtain ⟨n, hn⟩ : ∃ n, out.length + y.Words.length = n := ⟨_, rfl⟩
          have hf : fits n 8 = true := fits8L (by omega)
          have hy : y.Words ≠ [] := fun h => by rw [h] at pw1; simp at pw1
          have hap := app_list [bcl b, .vec (encL out)] 1 8 out y.Words false rfl hy (by rw [hn]; exact hf)
          refine VW.run good [] ?_; simp (implicitDefEqProofs := false) [enc_list, hk, hk', hg, wl, hx, hq1, hq1', hgp, w1, hap, hn, spliceV]
          exact ⟨_, _, (hI _ _ _).2 ⟨out ++ y.Words, rfl, rfl, hws.symm, by rw [List.length_append]; omega, hal2⟩, ⟨2, [], by simp [enc_list,  hn], by simp, by simp, by simp (implicitDefEqProofs := false) [enc_list,  hn], by simp (implicitDefEqProofs := false) [enc_list,  hn]⟩⟩
      · intro f m hi
        obtain ⟨out, rfl, rfl, hout, hlo, hal⟩ := (hI _ _ _).1 hi
        rw [List.take_length] at hout hal
        rw [if_pos hal] at hT
        subst hT
        subst hout
        refine VW.run good [] ?_; simp (implicitDefEqProofs := false) [enc_list]
        exact ⟨2, [], by simp [enc_list], by simp, by simp, by simp (implicitDefEqProofs := false) [enc_list], by simp (implicitDefEqProofs := false) [enc_list]⟩
    · obtain ⟨T1, T2⟩ := T
      simp only at hp
      subst hp
      simp (implicitDefEqProofs := false); refine .ofCut hc (VW.run good [] ?_); simp (implicitDefEqProofs := false) [enc_list]
  · cases hr
end Go.RS.DC

/- Walks: the examples of the chapter. -/
namespace Go.RS.DC
open Go Go.RS
open Go.RS.Enc (enc dec)
variable {E : VEnv}
def textC : List Int := [1, 102, 205]
def bookC : Book := ⟨[10, 16], [⟨[1], 0, 2, 5⟩, ⟨[102], 1, 4, 8⟩, ⟨[1, 102], 1, 0, 12⟩, ⟨[205], 0, 7, 6⟩, ⟨[102, 205], 1, 9, 14⟩], ⟨1, 6⟩, ⟨2, 20⟩⟩
theorem v_piece (hE : E.env.fn = G) : Ok E 79 (s4 fun (w : List Int) (d b l : Int) => some (Piece.mk w d b l)) := by
  refine ok4 fun w d b l r hr => ?_
  cases hr
  refine VP.run (A := F79) (goodV_nil) [] (by rw [hE]; rfl) (by simp [F79]) ?_; unfold F79; simp (implicitDefEqProofs := false) [enc_list, spliceV]
theorem v_text (hE : E.env.fn = G) : Ok E 47 (s0 (some textC)) := by
  refine ok0 fun r hr => ?_
  cases hr
  refine VP.run (A := F47) (goodV_nil) [] (by rw [hE]; rfl) (by simp [F47]) ?_; unfold F47; simp (implicitDefEqProofs := false) [enc_list, spliceV, textC, encL]
theorem di1 (a : Int) : (dec (PV.lst true 1 1 [.int .i64 a]) : Option (List Int)) = some [a] := rfl
theorem di2 (a b : Int) : (dec (PV.lst true 2 1 [.int .i64 a, .int .i64 b]) : Option (List Int)) = some [a, b] := rfl
theorem di3 (a b c : Int) : (dec (PV.lst true 3 1 [.int .i64 a, .int .i64 b, .int .i64 c]) : Option (List Int)) = some [a, b, c] := rfl
theorem v_book (hE : E.env.fn = G) : Ok E 46 (s0 (some bookC)) := by
  refine ok0 fun r hr => ?_
  cases hr
  refine VP.run (A := F46) ((goodV_cons (v_piece hE) (goodV_cons (w_To hE) goodV_nil))) [] (by rw [hE]; rfl) (by simp [F46]) ?_; unfold F46; simp (implicitDefEqProofs := false) [enc_list, spliceV, di1, di2, bookC, encL]
theorem ex1 : WordsR ⟨0, 1, 2, 5⟩ = (textC, 0) := by decide +kernel
theorem ex2 : FewestVR bookC textC = ([0, 4], 0) := by decide +kernel
theorem ex3 : NeededR bookC [textC, [102]] = ([0, 1, 3], 0) := by decide +kernel
theorem ex4 : IsPlanR bookC textC 0 60 [⟨2, 32⟩, ⟨3, 47⟩] = (true, 0) := by decide +kernel
theorem ex5 : (PlanPR bookC textC 0 60).1.length = 2 ∧ (PlanPR bookC textC 0 60).2 = 0 := by decide +kernel
theorem ex6 : LatestPR bookC textC 0 60 = (32, 0) := by decide +kernel
theorem ex7 : DayP bookC ⟨2, 4, 6, 1, []⟩ 36 5 1 = ([2], 0) := by decide +kernel
theorem dt2 : (dec (PV.lst true 2 1 [.lst false textC.length 1 (encL textC), .lst true 1 1 [.int .i64 102]]) : Option (List (List Int))) = some [textC, [102]] := rfl
theorem ds2 : (dec (PV.lst true 2 2 [.int .i64 2, .int .i64 32, .int .i64 3, .int .i64 47]) : Option (List Start)) = some [⟨2, 32⟩, ⟨3, 47⟩] := rfl
set_option maxRecDepth 100000 in
theorem v_works (hE : E.env.fn = G) (hgl : E.gl 1 = some [f130v, f131v]) (hgl2 : E.gl 0 = some vparts) : Ok E 23 (s0 (some true)) := by
  refine ok0 fun r hr => ?_
  cases hr
  have good := goodV_cons (v_Words hE hgl2) (goodV_cons (v_book hE) (goodV_cons (v_text hE) (goodV_cons (v_Fewest hE) (goodV_cons (v_Needed hE) (goodV_cons (v_IsPlan hE) (goodV_cons (v_Plan hE) (goodV_cons (v_Latest hE) (goodV_cons (v_Day hE hgl hgl2) (goodV_cons (w_Alike hE) goodV_nil)))))))))
  obtain ⟨e5, e6⟩ := ex5
  obtain ⟨⟨pl, pe⟩, hP⟩ : ∃ p, PlanPR bookC textC 0 60 = p := ⟨_, rfl⟩
  rw [hP] at e5 e6
  simp only at e5 e6
  refine VP.run (A := F23) (good) [] (by rw [hE]; rfl) (by simp [F23]) ?_; unfold F23; simp (implicitDefEqProofs := false) [enc_list, ex1, ex2, ex3, ex4, hP, e5, e6, ex6, ex7, dt2, ds2, di2, di3, spliceV]
end Go.RS.DC

