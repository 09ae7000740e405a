/- Walks: lists that come before others; a number of a span. -/
import Derived.Test.YtcbkaiakncbcbaaDoorVwc
import Derived.Test.YtcbkaiakncbcbaaDoorDxa
import Derived.Test.YtcbkaiakncbcbaaDoorVpb
set_option linter.all false
namespace Go.RS.DC
open Go Go.RS
open Go.RS.Enc (enc dec)
variable {E : VEnv}
theorem firstF_le : ∀ a b : List Int, firstF a b ≤ a.length ∧ firstF a b ≤ b.length
  | [], b => by cases b <;> simp [firstF]
  | _ :: _, [] => by simp [firstF]
  | x :: a, y :: b => by
    have := firstF_le a b
    unfold firstF
    split <;> simp <;> omega
theorem aheadB_first : ∀ a b : List Int, aheadB a b = if h : firstF a b < a.length ∧ firstF a b < b.length then decide (a[firstF a b]'h.1 < b[firstF a b]'h.2) else decide (a.length < b.length)
  | [], [] => by simp [aheadB]
  | [], y :: b => by simp [aheadB, firstF]
  | x :: a, [] => by simp [aheadB, firstF]
  | x :: a, y :: b => by
    have ih := aheadB_first a b
    by_cases hx : x = y
    · have hf : firstF (x :: a) (y :: b) = firstF a b + 1 := by rw [firstF, if_pos hx]
      rw [aheadB, if_pos hx, ih]
      simp only [hf, List.length_cons, Nat.add_lt_add_iff_right, List.getElem_cons_succ]
    · have hf : firstF (x :: a) (y :: b) = 0 := by rw [firstF, if_neg hx]
      rw [aheadB, if_neg hx]
      simp [hf]
theorem w_Ahead (hE : E.env.fn = G) : Ok E 35 (s2 fun a b => some (aheadB a b)) := by
  refine ok2 fun a b r hr => ?_
  cases hr
  have good := goodV_cons (w_First hE) goodV_nil
  obtain ⟨f1, f2⟩ := firstF_le a b
  have hB := aheadB_first a b
  generalize aheadB a b = T at hB
  generalize hF : firstF a b = F at *
  by_cases h1 : F < a.length
  · by_cases h2 : F < b.length
    · rw [dif_pos ⟨h1, h2⟩] at hB
      refine VP.run (A := F35) (good) [] (by rw [hE]; rfl) (by simp [F35]) ?_; unfold F35; simp (implicitDefEqProofs := false) [enc_list, hF, h1, h2, get_Int a F h1, get_Int b F h2, hB]
    · rw [dif_neg (fun h => h2 h.2)] at hB
      refine VP.run (A := F35) (good) [] (by rw [hE]; rfl) (by simp [F35]) ?_; unfold F35; simp (implicitDefEqProofs := false) [enc_list, hF, h1, h2, hB]
  · rw [dif_neg (fun h => h1 h.1)] at hB
    refine VP.run (A := F35) (good) [] (by rw [hE]; rfl) (by simp [F35]) ?_; unfold F35; simp (implicitDefEqProofs := false) [enc_list, hF, h1, hB]
end Go.RS.DC

/- Walks: what the laws share (1): sound books, texts that pieces say. -/
namespace Go.RS.DC
open Go Go.RS
open Go.RS.Enc (enc dec)
variable {E : VEnv}
theorem v_Valid (hE : E.env.fn = G) : Ok E 56 (s3 fun (s : Span) a b => some (spanOk s a b)) := by
  refine ok3 fun s a b r hr => ?_
  cases hr
  have e : spanOk s a b = (decide (s.Low ≤ s.High) && decide (a ≤ s.Low) && decide (s.High ≤ b)) := by
    unfold spanOk; rw [Bool.and_comm (decide (a ≤ s.Low))]
  rw [e]
  refine VP.run (A := F56) (goodV_nil) [] (by rw [hE]; rfl) (by simp [F56]) ?_; unfold F56; simp (implicitDefEqProofs := false) [enc_list]
  repeat' (first | (refine vstep_split (fun hb => ?_) (fun hb => ?_) <;> (try simp only [Bool.not_eq_eq_eq_not, Bool.not_true, Bool.not_false, decide_eq_true_eq, decide_eq_false_iff_not] at hb) <;> simp (implicitDefEqProofs := false) [hb, enc_list]) | (refine vcond_split (fun hb => ?_) (fun hb => ?_) <;> (try simp only [Bool.not_eq_eq_eq_not, Bool.not_true, Bool.not_false, decide_eq_true_eq, decide_eq_false_iff_not] at hb) <;> simp (implicitDefEqProofs := false) [hb, enc_list]))
end Go.RS.DC

/- Walks: what the laws share (2): texts that pieces say. -/
namespace Go.RS.DC
open Go Go.RS
open Go.RS.Enc (enc dec)
variable {E : VEnv}
end Go.RS.DC

/- Walks: what the laws share (3): what pieces say; whether some of them are enough. -/
namespace Go.RS.DC
open Go Go.RS
open Go.RS.Enc (enc dec)
variable {E : VEnv}
end Go.RS.DC

/- Walks: the examples of the chapter. -/
namespace Go.RS.DC
open Go Go.RS
open Go.RS.Enc (enc dec)
variable {E : VEnv}
def textC : List Int := [1, 102, 205]
def bookC : Book := ⟨[10, 16], [⟨[1], 0, 2, 5⟩, ⟨[102], 1, 4, 8⟩, ⟨[1, 102], 1, 0, 12⟩, ⟨[205], 0, 7, 6⟩, ⟨[102, 205], 1, 9, 14⟩], ⟨1, 6⟩, ⟨2, 20⟩⟩
theorem v_piece (hE : E.env.fn = G) : Ok E 79 (s4 fun (w : List Int) (d b l : Int) => some (Piece.mk w d b l)) := by
  refine ok4 fun w d b l r hr => ?_
  cases hr
  refine VP.run (A := F79) (goodV_nil) [] (by rw [hE]; rfl) (by simp [F79]) ?_; unfold F79; simp (implicitDefEqProofs := false) [enc_list, spliceV]
theorem v_text (hE : E.env.fn = G) : Ok E 47 (s0 (some textC)) := by
  refine ok0 fun r hr => ?_
  cases hr
  refine VP.run (A := F47) (goodV_nil) [] (by rw [hE]; rfl) (by simp [F47]) ?_; unfold F47; simp (implicitDefEqProofs := false) [enc_list, spliceV, textC, encL]
theorem di1 (a : Int) : (dec (PV.lst true 1 1 [.int .i64 a]) : Option (List Int)) = some [a] := rfl
theorem di2 (a b : Int) : (dec (PV.lst true 2 1 [.int .i64 a, .int .i64 b]) : Option (List Int)) = some [a, b] := rfl
theorem di3 (a b c : Int) : (dec (PV.lst true 3 1 [.int .i64 a, .int .i64 b, .int .i64 c]) : Option (List Int)) = some [a, b, c] := rfl
theorem v_book (hE : E.env.fn = G) : Ok E 46 (s0 (some bookC)) := by
  refine ok0 fun r hr => ?_
  cases hr
  refine VP.run (A := F46) ((goodV_cons (v_piece hE) (goodV_cons (w_To hE) goodV_nil))) [] (by rw [hE]; rfl) (by simp [F46]) ?_; unfold F46; simp (implicitDefEqProofs := false) [enc_list, spliceV, di1, di2, bookC, encL]
theorem ex1 : WordsR ⟨0, 1, 2, 5⟩ = (textC, 0) := by decide +kernel
theorem ex2 : FewestVR bookC textC = ([0, 4], 0) := by decide +kernel
theorem ex3 : NeededR bookC [textC, [102]] = ([0, 1, 3], 0) := by decide +kernel
theorem ex4 : IsPlanR bookC textC 0 60 [⟨2, 32⟩, ⟨3, 47⟩] = (true, 0) := by decide +kernel
theorem ex5 : (PlanPR bookC textC 0 60).1.length = 2 ∧ (PlanPR bookC textC 0 60).2 = 0 := by decide +kernel
theorem ex6 : LatestPR bookC textC 0 60 = (32, 0) := by decide +kernel
theorem ex7 : DayP bookC ⟨2, 4, 6, 1, []⟩ 36 5 1 = ([2], 0) := by decide +kernel
theorem dt2 : (dec (PV.lst true 2 1 [.lst false textC.length 1 (encL textC), .lst true 1 1 [.int .i64 102]]) : Option (List (List Int))) = some [textC, [102]] := rfl
theorem ds2 : (dec (PV.lst true 2 2 [.int .i64 2, .int .i64 32, .int .i64 3, .int .i64 47]) : Option (List Start)) = some [⟨2, 32⟩, ⟨3, 47⟩] := rfl
set_option maxRecDepth 100000 in
theorem v_works (hE : E.env.fn = G) (hgl : E.gl 1 = some [f130v, f131v]) (hgl2 : E.gl 0 = some vparts) : Ok E 23 (s0 (some true)) := by
  refine ok0 fun r hr => ?_
  cases hr
  have good := goodV_cons (v_Words hE hgl2) (goodV_cons (v_book hE) (goodV_cons (v_text hE) (goodV_cons (v_Fewest hE) (goodV_cons (v_Needed hE) (goodV_cons (v_IsPlan hE) (goodV_cons (v_Plan hE) (goodV_cons (v_Latest hE) (goodV_cons (v_Day hE hgl hgl2) (goodV_cons (w_Alike hE) goodV_nil)))))))))
  obtain ⟨e5, e6⟩ := ex5
  obtain ⟨⟨pl, pe⟩, hP⟩ : ∃ p, PlanPR bookC textC 0 60 = p := ⟨_, rfl⟩
  rw [hP] at e5 e6
  simp only at e5 e6
  refine VP.run (A := F23) (good) [] (by rw [hE]; rfl) (by simp [F23]) ?_; unfold F23; simp (implicitDefEqProofs := false) [enc_list, ex1, ex2, ex3, ex4, hP, e5, e6, ex6, ex7, dt2, ds2, di2, di3, spliceV]
end Go.RS.DC

/- Walks: what the laws share (5): a list with one number more; words that no piece says. -/
namespace Go.RS.DC
open Go Go.RS
open Go.RS.Enc (enc dec)
variable {E : VEnv}
end Go.RS.DC

/- Walks: what the laws share (6): sets as numbers; whether some pieces are enough. -/
namespace Go.RS.DC
open Go Go.RS
open Go.RS.Enc (enc dec)
variable {E : VEnv}
def inF (s k : Int) : Option Bool := if 0 ≤ s ∧ s < 1048576 ∧ 0 ≤ k ∧ k < 60 then some (s.toNat.testBit k.toNat) else none
theorem bit_of (y k : Nat) : y.testBit k = decide (y / 2 ^ k % 2 = 1) := by
  rw [Nat.testBit_eq_decide_div_mod_eq]
theorem v_In (hE : E.env.fn = G) : Ok E 77 (s2 inF) := by
  refine ok2 fun s k r hr => ?_
  unfold inF at hr
  split at hr
  · rename_i hc
    cases hr
    obtain ⟨y, rfl⟩ : ∃ y : Nat, s = y := ⟨s.toNat, by omega⟩
    obtain ⟨q, rfl⟩ : ∃ q : Nat, k = q := ⟨k.toNat, by omega⟩
    have hq : min q IntKind.i64.bits = q := by have : IntKind.i64.bits = 64 := rfl; omega
    have hq0 : ((q : Int) < 0) = False := eq_false (by omega)
    have hfd : (y : Int).fdiv (2 ^ q) = ((y / 2 ^ q : Nat) : Int) := by
      rw [Int.fdiv_eq_ediv_of_nonneg _ (by exact Int.pow_nonneg (by decide))]
      norm_cast
    have hle : y / 2 ^ q ≤ y := Nat.div_le_self _ _
    obtain ⟨z, hz⟩ : ∃ z, y / 2 ^ q = z := ⟨_, rfl⟩
    have hand : IntKind.i64.wrap (((BitVec.ofInt IntKind.i64.bits (z : Int) &&& BitVec.ofInt IntKind.i64.bits 1).toNat : Nat) : Int) = ((z % 2 : Nat) : Int) := by
      have h1 : (BitVec.ofInt IntKind.i64.bits (z : Int)).toNat = z := by
        rw [BitVec.toNat_ofInt]
        have : IntKind.i64.bits = 64 := rfl
        rw [this]; omega
      have h2 : (BitVec.ofInt IntKind.i64.bits 1).toNat = 1 := by decide
      rw [BitVec.toNat_and, h1, h2, Nat.and_one_is_mod, wrap64 (by omega) (by omega)]
    have hb : (y : Int).toNat.testBit (q : Int).toNat = decide (z % 2 = 1) := by
      rw [Int.toNat_natCast, Int.toNat_natCast, bit_of, hz]
    rw [hb]
    rw [hz] at hfd
    refine VP.run (A := F77) (goodV_nil) [] (by rw [hE]; rfl) (by simp [F77]) ?_; unfold F77; simp (implicitDefEqProofs := false) [enc_list, hq, hq0, hfd, hand]
    have e1 : z % 2 ^ IntKind.i64.bits = z := by
      have : IntKind.i64.bits = 64 := rfl
      rw [this]; omega
    have e2 : 1 % 2 ^ IntKind.i64.bits = 1 := by decide
    rw [e1, e2, Nat.and_one_is_mod, wrap64 (by omega) (by omega)]
    omega
  · cases hr
def listG (s n : Int) : Option (List Int) := if 0 ≤ s ∧ s < 1048576 ∧ 0 ≤ n ∧ n ≤ 20 then some (listF s.toNat n.toNat) else none
theorem listF_len (s : Nat) : ∀ n, (listF s n).length ≤ n
  | 0 => by simp [listF]
  | n + 1 => by
    have := listF_len s n
    rw [listF, List.length_append]
    split <;> simp <;> omega
theorem v_List (hE : E.env.fn = G) : Ok E 41 (s2 listG) := by
  refine ok2 fun s n r hr => ?_
  unfold listG at hr
  split at hr
  · rename_i hc
    cases hr
    obtain ⟨y, rfl⟩ : ∃ y : Nat, s = y := ⟨s.toNat, by omega⟩
    obtain ⟨N, rfl⟩ : ∃ N : Nat, n = N := ⟨n.toNat, by omega⟩
    rw [Int.toNat_natCast, Int.toNat_natCast]
    have good := goodV_cons (v_In hE) goodV_nil
    obtain ⟨T, hT⟩ : ∃ T, listF y N = T := ⟨_, rfl⟩
    rw [hT]
    refine VP.func (A := F41) (by rw [hE]; rfl) (by simp [F41]) ?_
    unfold F41
    refine VW.seq (VW.run good [] ?_); simp (implicitDefEqProofs := false) [enc_list]
    refine VW.seq (VW.run good [] ?_); simp (implicitDefEqProofs := false) [enc_list]
    refine VW.declare 5 1 (by simp) ?_
    refine VW.seq (VW.seq (VW.run good [] ?_))
    simp (implicitDefEqProofs := false) [enc_list]
    refine VW.block ?_
    refine VW.loop_to 0 [(5, sl1 0 T)] [.vec (encL T)] (True) ?_ (fun hp f m hc => ?_)
    · obtain ⟨Inv, hI⟩ : ∃ Inv : Nat → List (Nat × PV) → VM → Prop, ∀ k f m, Inv k f m ↔ (f = [(0, .int .i64 y), (1, .int .i64 N), (5, sl1 0 (listF y k)), (6, .int .i64 k)] ∧ m = [.vec (encL (listF y k))]) := ⟨_, fun _ _ _ => Iff.rfl⟩
      refine VW.loop_cut Inv N ?_ ?_ ?_
      · exact ⟨_, _, (hI _ _ _).2 ⟨rfl, rfl⟩, ⟨1, [], by simp [enc_list,  listF], by simp, by simp, by simp (implicitDefEqProofs := false) [enc_list,  listF], by simp (implicitDefEqProofs := false) [enc_list,  listF]⟩⟩
      · intro k f m hk hi
        obtain ⟨rfl, rfl⟩ := (hI _ _ _).1 hi
        have w1 : IntKind.i64.wrap ((k : Int) + 1) = k + 1 := wrap64 (by omega) (by omega)
        have hk' : (k : Int) < (N : Int) := by omega
        have hin : inF (y : Int) (k : Int) = some (y.testBit k) := by
          unfold inF; rw [if_pos ⟨by omega, by omega, by omega, by omega⟩]; rfl
        have hf : fits ((listF y k).length + 1) 8 = true := fits8L (by have := listF_len y k; omega)
        cases hb : y.testBit k
        · have e : listF y (k + 1) = listF y k := by rw [listF, hb]; simp
          rw [hb] at hin
          refine VW.run good [] ?_; simp (implicitDefEqProofs := false) [enc_list, hk', hin, w1]
          exact ⟨_, _, (hI _ _ _).2 ⟨rfl, rfl⟩, ⟨1, [], by simp [enc_list,  e], by simp, by simp, by simp (implicitDefEqProofs := false) [enc_list,  e], by simp (implicitDefEqProofs := false) [enc_list,  e]⟩⟩
        · have e : listF y (k + 1) = listF y k ++ [(k : Int)] := by rw [listF, hb]; simp
          rw [hb] at hin
          refine VW.run good [] ?_; simp (implicitDefEqProofs := false) [enc_list, hk', hin, w1, hf, spliceV]
          exact ⟨_, _, (hI _ _ _).2 ⟨rfl, rfl⟩, ⟨1, [], by simp [enc_list,  e], by simp, by simp, by simp (implicitDefEqProofs := false) [enc_list,  e], by simp (implicitDefEqProofs := false) [enc_list,  e]⟩⟩
      · intro f m hi
        obtain ⟨rfl, rfl⟩ := (hI _ _ _).1 hi
        rw [hT]
        refine VW.run good [] ?_; simp (implicitDefEqProofs := false) [enc_list]
        exact ⟨1, [], by simp [enc_list], by simp, by simp, by simp (implicitDefEqProofs := false) [enc_list], by simp (implicitDefEqProofs := false) [enc_list]⟩
    · simp (implicitDefEqProofs := false) [enc_list, AExit.leave]
      refine .ofCut hc (VW.run good [] ?_)
      simp (implicitDefEqProofs := false) [enc_list]
  · cases hr
end Go.RS.DC

