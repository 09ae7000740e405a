/- Walks: lists that come before others; a number of a span. -/
import Derived.Test.YtcbkaiakncbcbaaDoorVwc
import Derived.Test.YtcbkaiakncbcbaaDoorDxa
import Derived.Test.YtcbkaiakncbcbaaDoorVpb
set_option linter.all false
namespace Go.RS.DC
open Go Go.RS
open Go.RS.Enc (enc dec)
variable {E : VEnv}
theorem firstF_le : ∀ a b : List Int, firstF a b ≤ a.length ∧ firstF a b ≤ b.length
  | [], b => by cases b <;> simp [firstF]
  | _ :: _, [] => by simp [firstF]
  | x :: a, y :: b => by
    have := firstF_le a b
    unfold firstF
    split <;> simp <;> omega
theorem aheadB_first : ∀ a b : List Int, aheadB a b = if h : firstF a b < a.length ∧ firstF a b < b.length then decide (a[firstF a b]'h.1 < b[firstF a b]'h.2) else decide (a.length < b.length)
  | [], [] => by simp [aheadB]
  | [], y :: b => by simp [aheadB, firstF]
  | x :: a, [] => by simp [aheadB, firstF]
  | x :: a, y :: b => by
    have ih := aheadB_first a b
    by_cases hx : x = y
    · have hf : firstF (x :: a) (y :: b) = firstF a b + 1 := by rw [firstF, if_pos hx]
      rw [aheadB, if_pos hx, ih]
      simp only [hf, List.length_cons, Nat.add_lt_add_iff_right, List.getElem_cons_succ]
    · have hf : firstF (x :: a) (y :: b) = 0 := by rw [firstF, if_neg hx]
      rw [aheadB, if_neg hx]
      simp [hf]
theorem dec_l4 (a b c d : Int) : (dec (PV.lst true 4 1 [.int .i64 a, .int .i64 b, .int .i64 c, .int .i64 d]) : Option (List Int)) = some [a, b, c, d] := rfl
/-- A number of a span: what the program tells. -/
def fromF (s : Span) (n : Int) : Option Int := if -4000000000000000000 ≤ s.Low ∧ s.High ≤ 4000000000000000000 then some (fromR s n) else none
end Go.RS.DC

/- Walks: what the laws share (1): sound books, texts that pieces say. -/
namespace Go.RS.DC
open Go Go.RS
open Go.RS.Enc (enc dec)
variable {E : VEnv}
theorem v_Valid (hE : E.env.fn = G) : Ok E 56 (s3 fun (s : Span) a b => some (spanOk s a b)) := by
  refine ok3 fun s a b r hr => ?_
  cases hr
  have e : spanOk s a b = (decide (s.Low ≤ s.High) && decide (a ≤ s.Low) && decide (s.High ≤ b)) := by
    unfold spanOk; rw [Bool.and_comm (decide (a ≤ s.Low))]
  rw [e]
  refine VP.run (A := F56) (goodV_nil) [] (by rw [hE]; rfl) (by simp [F56]) ?_; unfold F56; simp (implicitDefEqProofs := false) [enc_list]
  repeat' (first | (refine vstep_split (fun hb => ?_) (fun hb => ?_) <;> (try simp only [Bool.not_eq_eq_eq_not, Bool.not_true, Bool.not_false, decide_eq_true_eq, decide_eq_false_iff_not] at hb) <;> simp (implicitDefEqProofs := false) [hb, enc_list]) | (refine vcond_split (fun hb => ?_) (fun hb => ?_) <;> (try simp only [Bool.not_eq_eq_eq_not, Bool.not_true, Bool.not_false, decide_eq_true_eq, decide_eq_false_iff_not] at hb) <;> simp (implicitDefEqProofs := false) [hb, enc_list]))
end Go.RS.DC

/- Walks: what the laws share (2): texts that pieces say. -/
namespace Go.RS.DC
open Go Go.RS
open Go.RS.Enc (enc dec)
variable {E : VEnv}
theorem app_list (M : VM) (t bytes : Nat) (out l : List Int) (ex : Bool) (h : M[t]? = some (.vec (encL out))) (hl : l ≠ []) (hf : fits (out.length + l.length) bytes = true) :
    appendV M 1 bytes (.sl t out.length 0 out.length (openCap + 1) 1) (.lst ex l.length 1 (encL l)) = some (.sl t (out ++ l).length 0 (out ++ l).length (openCap + 1) 1, M.set t (.vec (encL (out ++ l)))) := by
  have hv : vcells M t = some (encL out) := by unfold vcells; rw [h]
  have h0 : l.length ≠ 0 := fun h => hl (List.eq_nil_of_length_eq_zero h)
  have he : elemsV M 1 (.lst ex l.length 1 (encL l)) = some (l.length, encL l) := by simp [elemsV, okE, h0]
  have hll : (encL l).length = l.length := by rw [encL_length]; exact Nat.mul_one _
  have hol : (encL out).length = out.length := by rw [encL_length]; exact Nat.mul_one _
  have hne : encL l ≠ [] := fun h => h0 (by rw [← hll, h]; rfl)
  unfold appendV
  simp only [he]
  rw [if_pos ⟨trivial, by decide⟩, if_neg h0]
  cases out with
  | nil =>
    rw [if_pos (show ([] : List Int).length = 0 from rfl)]
    simp only [h, encL_nil]
    rw [if_pos ⟨trivial, rfl, by simpa using hf, encL_isF l, hne⟩, hll]
    rfl
  | cons a out =>
    rw [if_neg (show ¬ (a :: out).length = 0 by simp)]
    simp only [hv]
    rw [if_neg (by rw [hol]; simp), if_pos (by omega), if_pos ⟨trivial, trivial, Nat.mul_one _, hf, scal_ints l⟩]
    simp only [vput, h, encL_isF, if_true, Option.map_some, hll, encL_append, List.length_append]
def someG (b : Book) (bits : List Int) : Option (List Int × List Int) := if okB b then some (someF b bits) else none
end Go.RS.DC

/- Walks: what the laws share (3): what pieces say; whether some of them are enough. -/
namespace Go.RS.DC
open Go Go.RS
open Go.RS.Enc (enc dec)
variable {E : VEnv}
def saidG (b : Book) (l : List Int) : Option (List Int × Bool) := if okB b = true ∧ l.length ≤ 100 then some (if l.all (inB b) = true then (wordsL b l, true) else ([], false)) else none
theorem wordsL_snoc (b : Book) (l : List Int) (k : Int) : wordsL b (l ++ [k]) = wordsL b l ++ (pieceAt b k).Words := by rw [wordsL_append]; simp [wordsL]
theorem inB_iff {b : Book} {k : Int} : inB b k = true ↔ 0 ≤ k ∧ k < b.Pieces.length := by unfold inB; rw [wi_iff]; omega
end Go.RS.DC

/- Walks: the examples of the chapter. -/
namespace Go.RS.DC
open Go Go.RS
open Go.RS.Enc (enc dec)
variable {E : VEnv}
def textC : List Int := [1, 102, 205]
def bookC : Book := ⟨[10, 16], [⟨[1], 0, 2, 5⟩, ⟨[102], 1, 4, 8⟩, ⟨[1, 102], 1, 0, 12⟩, ⟨[205], 0, 7, 6⟩, ⟨[102, 205], 1, 9, 14⟩], ⟨1, 6⟩, ⟨2, 20⟩⟩
theorem v_piece (hE : E.env.fn = G) : Ok E 79 (s4 fun (w : List Int) (d b l : Int) => some (Piece.mk w d b l)) := by
  refine ok4 fun w d b l r hr => ?_
  cases hr
  refine VP.run (A := F79) (goodV_nil) [] (by rw [hE]; rfl) (by simp [F79]) ?_; unfold F79; simp (implicitDefEqProofs := false) [enc_list, spliceV]
theorem v_text (hE : E.env.fn = G) : Ok E 47 (s0 (some textC)) := by
  refine ok0 fun r hr => ?_
  cases hr
  refine VP.run (A := F47) (goodV_nil) [] (by rw [hE]; rfl) (by simp [F47]) ?_; unfold F47; simp (implicitDefEqProofs := false) [enc_list, spliceV, textC, encL]
theorem di1 (a : Int) : (dec (PV.lst true 1 1 [.int .i64 a]) : Option (List Int)) = some [a] := rfl
theorem di2 (a b : Int) : (dec (PV.lst true 2 1 [.int .i64 a, .int .i64 b]) : Option (List Int)) = some [a, b] := rfl
theorem di3 (a b c : Int) : (dec (PV.lst true 3 1 [.int .i64 a, .int .i64 b, .int .i64 c]) : Option (List Int)) = some [a, b, c] := rfl
theorem v_book (hE : E.env.fn = G) : Ok E 46 (s0 (some bookC)) := by
  refine ok0 fun r hr => ?_
  cases hr
  refine VP.run (A := F46) ((goodV_cons (v_piece hE) (goodV_cons (w_To hE) goodV_nil))) [] (by rw [hE]; rfl) (by simp [F46]) ?_; unfold F46; simp (implicitDefEqProofs := false) [enc_list, spliceV, di1, di2, bookC, encL]
theorem ex1 : WordsR ⟨0, 1, 2, 5⟩ = (textC, 0) := by decide +kernel
theorem ex2 : FewestVR bookC textC = ([0, 4], 0) := by decide +kernel
theorem ex3 : NeededR bookC [textC, [102]] = ([0, 1, 3], 0) := by decide +kernel
theorem ex4 : IsPlanR bookC textC 0 60 [⟨2, 32⟩, ⟨3, 47⟩] = (true, 0) := by decide +kernel
theorem ex5 : (PlanPR bookC textC 0 60).1.length = 2 ∧ (PlanPR bookC textC 0 60).2 = 0 := by decide +kernel
theorem ex6 : LatestPR bookC textC 0 60 = (32, 0) := by decide +kernel
theorem ex7 : DayP bookC ⟨2, 4, 6, 1, []⟩ 36 5 1 = ([2], 0) := by decide +kernel
theorem dt2 : (dec (PV.lst true 2 1 [.lst false textC.length 1 (encL textC), .lst true 1 1 [.int .i64 102]]) : Option (List (List Int))) = some [textC, [102]] := rfl
theorem ds2 : (dec (PV.lst true 2 2 [.int .i64 2, .int .i64 32, .int .i64 3, .int .i64 47]) : Option (List Start)) = some [⟨2, 32⟩, ⟨3, 47⟩] := rfl
set_option maxRecDepth 100000 in
theorem v_works (hE : E.env.fn = G) (hgl : E.gl 1 = some [f130v, f131v]) (hgl2 : E.gl 0 = some vparts) : Ok E 23 (s0 (some true)) := by
  refine ok0 fun r hr => ?_
  cases hr
  have good := goodV_cons (v_Words hE hgl2) (goodV_cons (v_book hE) (goodV_cons (v_text hE) (goodV_cons (v_Fewest hE) (goodV_cons (v_Needed hE) (goodV_cons (v_IsPlan hE) (goodV_cons (v_Plan hE) (goodV_cons (v_Latest hE) (goodV_cons (v_Day hE hgl hgl2) (goodV_cons (w_Alike hE) goodV_nil)))))))))
  obtain ⟨e5, e6⟩ := ex5
  obtain ⟨⟨pl, pe⟩, hP⟩ : ∃ p, PlanPR bookC textC 0 60 = p := ⟨_, rfl⟩
  rw [hP] at e5 e6
  simp only at e5 e6
  refine VP.run (A := F23) (good) [] (by rw [hE]; rfl) (by simp [F23]) ?_; unfold F23; simp (implicitDefEqProofs := false) [enc_list, ex1, ex2, ex3, ex4, hP, e5, e6, ex6, ex7, dt2, ds2, di2, di3, spliceV]
end Go.RS.DC

/- Walks: what the laws share (5): a list with one number more; words that no piece says. -/
namespace Go.RS.DC
open Go Go.RS
open Go.RS.Enc (enc dec)
variable {E : VEnv}
def withG (l : List Int) (n : Int) : Option (List Int) := if l.length ≤ 1000 then some (l ++ [n]) else none
theorem find_not {w : Int} : ∀ (l : List Int) (k : Nat), findR w k l < 0 → w ∉ l
  | [], _, _ => by simp
  | x :: l, k, h => by
    rw [findR] at h
    split at h
    · omega
    · rename_i hx
      have := find_not l (k + 1) h
      simp only [List.mem_cons, not_or]
      exact ⟨fun e => hx e.symm, this⟩
theorem app_cap (M : VM) (t bytes q n m : Nat) (C l : List Int) (ex : Bool) (h : M[t]? = some (.vec (encL C))) (hC : C.length = q) (hm : l.length = m) (h0 : l ≠ []) (hn : n + m ≤ q) (hq : q < 1000000) :
    appendV M 1 bytes (.sl t q 0 n q 1) (.lst ex m 1 (encL l)) = some (.sl t q 0 (n + m) q 1, M.set t (.vec (encL (C.take n ++ l ++ C.drop (n + m))))) := by
  have hl0 : m ≠ 0 := fun h => h0 (List.eq_nil_of_length_eq_zero (by omega))
  have hv : vcells M t = some (encL C) := by unfold vcells; rw [h]
  have he : elemsV M 1 (.lst ex m 1 (encL l)) = some (m, encL l) := by simp [elemsV, okE, hl0]
  have hll : (encL l).length = m := by rw [encL_length, ← hm]; exact Nat.mul_one _
  have hcl : (encL C).length = q := by rw [encL_length, ← hC]; exact Nat.mul_one _
  have hsp : spliceV (encL C) (0 + n * 1) (encL l) = encL (C.take n ++ l ++ C.drop (n + m)) := by
    unfold spliceV
    have h1 := encL_take C n
    have h2 := encL_drop C (n + m)
    rw [show El.sz Int = 1 from rfl, Nat.mul_one] at h1 h2
    rw [Nat.mul_one, Nat.zero_add, h1, hll, h2, encL_append, encL_append, List.append_assoc]
  have ho : ¬ openCap ≤ q := by have : openCap = 18446744073709551616 := rfl; omega
  unfold appendV
  simp only [he]
  rw [if_pos ⟨trivial, by decide⟩, if_neg hl0, if_neg (by omega)]
  simp only [hv]
  rw [if_neg (by rw [hcl]; simp), if_neg ho, if_pos hn, if_pos ⟨by rw [hll]; omega, scal_ints l, by omega⟩]
  simp only [vput, h, encL_isF, if_true, Option.map_some, hsp]
end Go.RS.DC

/- Walks: what the laws share (6): sets as numbers; whether some pieces are enough. -/
namespace Go.RS.DC
open Go Go.RS
open Go.RS.Enc (enc dec)
variable {E : VEnv}
def inF (s k : Int) : Option Bool := if 0 ≤ s ∧ s < 1048576 ∧ 0 ≤ k ∧ k < 60 then some (s.toNat.testBit k.toNat) else none
theorem bit_of (y k : Nat) : y.testBit k = decide (y / 2 ^ k % 2 = 1) := by
  rw [Nat.testBit_eq_decide_div_mod_eq]
def listG (s n : Int) : Option (List Int) := if 0 ≤ s ∧ s < 1048576 ∧ 0 ≤ n ∧ n ≤ 20 then some (listF s.toNat n.toNat) else none
theorem listF_len (s : Nat) : ∀ n, (listF s n).length ≤ n
  | 0 => by simp [listF]
  | n + 1 => by
    have := listF_len s n
    rw [listF, List.length_append]
    split <;> simp <;> omega
def enoughG (b : Book) (l t : List Int) : Option Bool := if okB b = true ∧ l.length ≤ 10 then some (enoughB b l t) else none
end Go.RS.DC

/- Walks: what the laws share (7): what can be asked about. -/
namespace Go.RS.DC
open Go Go.RS
open Go.RS.Enc (enc dec)
variable {E : VEnv}
def canB (x : Asked) : Bool := wordsOk x.Text 8 && decide (0 ≤ x.From) && decide (x.From ≤ x.Pip) && decide (x.Pip - x.From ≤ 6100) && decide (x.Pip ≤ 100000000)
def canG (x : Asked) : Option Bool := if x.Pip < 9223372036854775808 then some (canB x) else none
end Go.RS.DC

