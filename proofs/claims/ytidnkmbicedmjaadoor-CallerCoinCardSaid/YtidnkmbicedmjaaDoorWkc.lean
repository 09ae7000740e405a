/- Walks: the program (1): books. -/
import Derived.Test.YtidnkmbicedmjaaDoorWkb
set_option linter.all false
namespace Go.RS.CC
open Go Go.RS
open Go.RS.Enc (enc dec)
variable {E : VEnv}
def isCallP (b : Book) (x : Call) : Bool := wi x.At 0 3599 && wi x.Wait 0 3600 && wi x.Hear 1 5 && wi x.From 0 (lenm b.Shares.length)
theorem w_isCall (hE : E.env.fn = G) : Ok E 55 (s2 fun b x => some (isCallP b x)) := by
  refine ok2 fun b x r hr => ?_
  cases hr
  refine VP.run (A := F55) ((goodV_cons (w_within hE) goodV_nil)) [] (by rw [hE]; rfl) (by simp [F55]) ?_; unfold F55; simp (implicitDefEqProofs := false) [enc_list]
  repeat' (first | (refine vstep_split (fun hb => ?_) (fun hb => ?_) <;> (try simp only [Bool.not_eq_eq_eq_not, Bool.not_true, Bool.not_false, decide_eq_true_eq, decide_eq_false_iff_not] at hb) <;> simp (implicitDefEqProofs := false) [hb, enc_list]) | (refine vcond_split (fun hb => ?_) (fun hb => ?_) <;> (try simp only [Bool.not_eq_eq_eq_not, Bool.not_true, Bool.not_false, decide_eq_true_eq, decide_eq_false_iff_not] at hb) <;> simp (implicitDefEqProofs := false) [hb, enc_list]))
  all_goals simp [isCallP, lenm, *]
theorem isCallP_R (b : Book) (x : Call) {last : Int} (h : 0 ≤ last) : callOkR b last x = (isCallP b x && decide (last ≤ x.At)) := by
  rw [Bool.eq_iff_iff]
  simp only [callOkR, isCallP, Bool.and_eq_true, wi_iff, decide_eq_true_eq]
  constructor
  · rintro ⟨⟨⟨h1, h2⟩, h3⟩, h4⟩; exact ⟨⟨⟨⟨⟨by omega, by omega⟩, h2⟩, h3⟩, h4⟩, by omega⟩
  · rintro ⟨⟨⟨⟨h1, h2⟩, h3⟩, h4⟩, h5⟩; exact ⟨⟨⟨⟨by omega, by omega⟩, h2⟩, h3⟩, h4⟩
theorem w_CheckP (hE : E.env.fn = G) : Ok E 19 (s1 fun b => some (checkR b)) := by
  refine ok1 fun b r hr => ?_
  cases hr
  refine VP.bound fun hb => ?_
  simp [enc_list] at hb
  have good := goodV_cons (w_within hE) (goodV_cons (w_isCall hE) goodV_nil)
  refine VP.func (A := F19) (by rw [hE]; rfl) (by simp [F19]) ?_; unfold F19
  refine VW.seq (VW.run good [] ?_); simp (implicitDefEqProofs := false) [enc_list]
  refine VW.seq_cut [(1, .ptr 0 6 0), (3, .bool (headR b))] [bkc b] (VW.run good [] ?_) ?_; simp (implicitDefEqProofs := false) [enc_list]
  · repeat' (first | (refine vstep_split (fun hb => ?_) (fun hb => ?_) <;> (try simp only [Bool.not_eq_eq_eq_not, Bool.not_true, Bool.not_false, decide_eq_true_eq, decide_eq_false_iff_not] at hb) <;> simp (implicitDefEqProofs := false) [hb, enc_list]) | (refine vcond_split (fun hb => ?_) (fun hb => ?_) <;> (try simp only [Bool.not_eq_eq_eq_not, Bool.not_true, Bool.not_false, decide_eq_true_eq, decide_eq_false_iff_not] at hb) <;> simp (implicitDefEqProofs := false) [hb, enc_list]))
    all_goals exact ⟨1, [], by simp [enc_list,  headR, *], by simp, by simp, by simp (implicitDefEqProofs := false) [enc_list,  headR, *], by simp (implicitDefEqProofs := false) [enc_list,  headR, *]⟩
  refine VW.run good [] ?_; simp (implicitDefEqProofs := false) [enc_list]
  refine VW.loop_to 0 [(1, .ptr 0 6 0), (3, .bool (headR b && b.Shares.all fun n => wi n 0 100))] [bkc b] (True) ?_ (fun hp f m hc => ?_)
  · obtain ⟨Inv, hI⟩ : ∃ Inv : Nat → List (Nat × PV) → VM → Prop, ∀ k f m, Inv k f m ↔ (∃ s, f = [(1, .ptr 0 6 0), (3, .bool s), (42, enc b.Shares), (43, .int .i64 b.Shares.length), (44, .int .i64 k)] ∧ m = [bkc b] ∧ (headR b && b.Shares.all fun n => wi n 0 100) = (s && (b.Shares.drop k).all fun n => wi n 0 100)) := ⟨_, fun _ _ _ => Iff.rfl⟩
    refine VW.loop_cut Inv b.Shares.length ?_ ?_ ?_
    · exact ⟨_, _, (hI _ _ _).2 ⟨_, rfl, rfl, rfl⟩, ⟨1, [], by simp [enc_list], by simp, by simp, by simp (implicitDefEqProofs := false) [enc_list], by simp (implicitDefEqProofs := false) [enc_list]⟩⟩
    · intro k f m hk hi
      obtain ⟨s, rfl, rfl, hs⟩ := (hI _ _ _).1 hi
      rw [List.drop_eq_getElem_cons hk, List.all_cons] at hs
      have w1 : IntKind.i64.wrap ((k : Int) + 1) = k + 1 := wrap64 (by omega) (by omega)
      cases s
      · refine VW.run good [] ?_; simp (implicitDefEqProofs := false) [enc_list, hk, get_Int _ k hk, w1]
        exact ⟨_, _, (hI _ _ _).2 ⟨false, rfl, rfl, by simpa using hs⟩, ⟨1, [], by simp [enc_list], by simp, by simp, by simp (implicitDefEqProofs := false) [enc_list], by simp (implicitDefEqProofs := false) [enc_list]⟩⟩
      · refine VW.run good [] ?_; simp (implicitDefEqProofs := false) [enc_list, hk, get_Int _ k hk, w1]
        exact ⟨_, _, (hI _ _ _).2 ⟨wi b.Shares[k] 0 100, rfl, rfl, hs⟩, ⟨1, [], by simp [enc_list], by simp, by simp, by simp (implicitDefEqProofs := false) [enc_list], by simp (implicitDefEqProofs := false) [enc_list]⟩⟩
    · intro f m hi
      obtain ⟨s, rfl, rfl, hs⟩ := (hI _ _ _).1 hi
      rw [List.drop_length, List.all_nil, Bool.and_true] at hs
      refine VW.run good [] ?_; simp (implicitDefEqProofs := false) [enc_list]; exact ⟨1, [], by simp [enc_list,  hs], by simp, by simp, by simp (implicitDefEqProofs := false) [enc_list,  hs], by simp (implicitDefEqProofs := false) [enc_list,  hs]⟩
  simp (implicitDefEqProofs := false); refine .ofCut hc (VW.run good [] ?_); simp (implicitDefEqProofs := false) [enc_list]
  refine VW.loop_to 2 [(3, .bool (okR b))] [] (True) ?_ (fun hp f m hc => ?_)
  · obtain ⟨Inv, hI⟩ : ∃ Inv : Nat → List (Nat × PV) → VM → Prop, ∀ k f m, Inv k f m ↔ (∃ s, f = [(1, .ptr 0 6 0), (3, .bool s), (55, enc b.Hours), (56, .int .i64 b.Hours.length), (57, .int .i64 k)] ∧ m = [bkc b] ∧ okR b = (s && (b.Hours.drop k).all (callsR b))) := ⟨_, fun _ _ _ => Iff.rfl⟩
    refine VW.loop_cut Inv b.Hours.length ?_ ?_ ?_
    · exact ⟨_, _, (hI _ _ _).2 ⟨_, rfl, rfl, rfl⟩, ⟨1, [], by simp [enc_list], by simp, by simp, by simp (implicitDefEqProofs := false) [enc_list], by simp (implicitDefEqProofs := false) [enc_list]⟩⟩
    · intro k f m hk hi
      obtain ⟨s, rfl, rfl, hs⟩ := (hI _ _ _).1 hi
      have w1 : IntKind.i64.wrap ((k : Int) + 1) = k + 1 := wrap64 (by omega) (by omega)
      rw [List.drop_eq_getElem_cons hk, List.all_cons] at hs
      generalize hl : b.Hours[k] = l at hs
      have e12 : ((l.length : Int) ≤ 12) = (l.length ≤ 12) := by apply propext; omega
      refine VW.seq (VW.run good [] ?_); simp (implicitDefEqProofs := false) [enc_list, hk]
      refine VW.seq (VW.run good [] ?_); simp (implicitDefEqProofs := false) [enc_list]
      refine VW.seq (VW.block ?_)
      refine VW.seq (VW.run good [] ?_); simp (implicitDefEqProofs := false) [enc_list, hk, get_List _ k hk, hl]
      refine VW.seq_cut [(1, .ptr 0 6 0), (3, .bool (s && decide (l.length ≤ 12))), (7, enc l), (55, enc b.Hours), (56, .int .i64 b.Hours.length), (57, .int .i64 k)] [bkc b] (VW.run good [] ?_) ?_; simp (implicitDefEqProofs := false) [enc_list]
      · cases s
        · simp (implicitDefEqProofs := false) [enc_list]; exact ⟨1, [], by simp [enc_list], by simp, by simp, by simp (implicitDefEqProofs := false) [enc_list], by simp (implicitDefEqProofs := false) [enc_list]⟩
        · simp (implicitDefEqProofs := false) [enc_list]; exact ⟨1, [], by simp [enc_list,  e12], by simp, by simp, by simp (implicitDefEqProofs := false) [enc_list,  e12], by simp (implicitDefEqProofs := false) [enc_list,  e12]⟩
      refine VW.bound 7 (by simp [enc_list]; exact ⟨rfl, rfl, rfl, rfl⟩) fun hlb => ?_
      refine VW.run good [] ?_; simp (implicitDefEqProofs := false) [enc_list]
      refine VW.loop_to 4 [(1, .ptr 0 6 0), (3, .bool (s && callsR b l)), (55, enc b.Hours), (56, .int .i64 b.Hours.length), (57, .int .i64 k)] [bkc b] (True) ?_ (fun hp f m hc => ?_)
      · clear hI hi
        obtain ⟨Inv, hI⟩ : ∃ Inv : Nat → List (Nat × PV) → VM → Prop, ∀ j f m, Inv j f m ↔ (∃ s' last, f = [(1, .ptr 0 6 0), (3, .bool s'), (8, .int .i64 last), (55, enc b.Hours), (56, .int .i64 b.Hours.length), (57, .int .i64 k), (67, enc l), (68, .int .i64 l.length), (69, .int .i64 j)] ∧ m = [bkc b] ∧ (s' = true → 0 ≤ last) ∧ (s && callsR b l) = (s' && callsLR b (l.drop j) last)) := ⟨_, fun _ _ _ => Iff.rfl⟩
        refine VW.loop_cut Inv l.length ?_ ?_ ?_
        · exact ⟨_, _, (hI _ _ _).2 ⟨s && decide (l.length ≤ 12), 0, rfl, rfl, fun _ => Int.le_refl 0, by simp [callsR, Bool.and_assoc]⟩, ⟨1, [], by simp [enc_list], by simp, by simp, by simp (implicitDefEqProofs := false) [enc_list], by simp (implicitDefEqProofs := false) [enc_list]⟩⟩
        · intro j f m hj hi
          obtain ⟨s', last, rfl, rfl, h0, hc⟩ := (hI _ _ _).1 hi
          have w2 : IntKind.i64.wrap ((j : Int) + 1) = j + 1 := wrap64 (by omega) (by omega)
          rw [List.drop_eq_getElem_cons hj, callsLR] at hc
          cases s'
          · refine VW.run good [] ?_; simp (implicitDefEqProofs := false) [enc_list, hj, get_Call l j hj, w2, spliceV]
            exact ⟨_, _, (hI _ _ _).2 ⟨false, l[j].At, rfl, rfl, by simp, by simpa using hc⟩, ⟨1, [], by simp [enc_list], by simp, by simp, by simp (implicitDefEqProofs := false) [enc_list], by simp (implicitDefEqProofs := false) [enc_list]⟩⟩
          · rw [isCallP_R b l[j] (h0 rfl)] at hc
            have h9 : (isCallP b l[j] && decide (last ≤ l[j].At)) = true → 0 ≤ l[j].At := by
              intro hx; simp only [Bool.and_eq_true, decide_eq_true_eq] at hx; have := h0 rfl; omega
            refine VW.run good [] ?_; simp (implicitDefEqProofs := false) [enc_list, hj, get_Call l j hj, w2, spliceV]
            repeat' (first | (refine vstep_split (fun hb => ?_) (fun hb => ?_) <;> (try simp only [Bool.not_eq_eq_eq_not, Bool.not_true, Bool.not_false, decide_eq_true_eq, decide_eq_false_iff_not] at hb) <;> simp (implicitDefEqProofs := false) [hb, enc_list, hj, get_Call l j hj, w2, spliceV]) | (refine vcond_split (fun hb => ?_) (fun hb => ?_) <;> (try simp only [Bool.not_eq_eq_eq_not, Bool.not_true, Bool.not_false, decide_eq_true_eq, decide_eq_false_iff_not] at hb) <;> simp (implicitDefEqProofs := false) [hb, enc_list, hj, get_Call l j hj, w2, spliceV]))
            all_goals exact ⟨_, _, (hI _ _ _).2 ⟨isCallP b l[j] && decide (last ≤ l[j].At), l[j].At, rfl, rfl, h9, by simpa using hc⟩, ⟨1, [], by simp [enc_list,  hb], by simp, by simp, by simp (implicitDefEqProofs := false) [enc_list,  hb], by simp (implicitDefEqProofs := false) [enc_list,  hb]⟩⟩
        · intro f m hi
          obtain ⟨s', last, rfl, rfl, h0, hc⟩ := (hI _ _ _).1 hi
          rw [List.drop_length, callsLR, Bool.and_true] at hc
          refine VW.run good [] ?_; simp (implicitDefEqProofs := false) [enc_list]
          exact ⟨1, [], by simp [enc_list,  hc], by simp, by simp, by simp (implicitDefEqProofs := false) [enc_list,  hc], by simp (implicitDefEqProofs := false) [enc_list,  hc]⟩
      · simp (implicitDefEqProofs := false); refine .ofCut hc (VW.run good [] ?_); simp (implicitDefEqProofs := false) [enc_list, w1]
        exact ⟨_, _, (hI _ _ _).2 ⟨s && callsR b l, rfl, rfl, by rw [hs, Bool.and_assoc]⟩, ⟨1, [], by simp [enc_list], by simp, by simp, by simp (implicitDefEqProofs := false) [enc_list], by simp (implicitDefEqProofs := false) [enc_list]⟩⟩
    · intro f m hi
      obtain ⟨s, rfl, rfl, hs⟩ := (hI _ _ _).1 hi
      rw [List.drop_length, List.all_nil, Bool.and_true] at hs
      refine VW.run good [] ?_; simp (implicitDefEqProofs := false) [enc_list]; exact ⟨0, [], by simp [enc_list,  hs], by simp, by simp, by simp (implicitDefEqProofs := false) [enc_list,  hs], by simp (implicitDefEqProofs := false) [enc_list,  hs]⟩
  simp (implicitDefEqProofs := false); refine .ofCut hc (VW.run good [] ?_); simp (implicitDefEqProofs := false) [enc_list]
  repeat' (first | (refine vstep_split (fun hb => ?_) (fun hb => ?_) <;> (try simp only [Bool.not_eq_eq_eq_not, Bool.not_true, Bool.not_false, decide_eq_true_eq, decide_eq_false_iff_not] at hb) <;> simp (implicitDefEqProofs := false) [hb, enc_list, checkR]) | (refine vcond_split (fun hb => ?_) (fun hb => ?_) <;> (try simp only [Bool.not_eq_eq_eq_not, Bool.not_true, Bool.not_false, decide_eq_true_eq, decide_eq_false_iff_not] at hb) <;> simp (implicitDefEqProofs := false) [hb, enc_list, checkR]))
end Go.RS.CC

/- The chapter's answers, as plain functions (2): how the program serves. -/
namespace Go.RS.CC
open Go Go.RS
open Go.RS.Enc (enc dec)
def upP (each t : Int) : Int := (t + each - 1) / each * each
def untilP (each hear t : Int) : Int := upP each t + hear * each
def minL (x : Int) : List Int → Int
  | [] => x
  | y :: l => minL (if y < x then y else x) l
def minP (l : List Int) : Int := match l with | [] => 0 | x :: l => minL x l
def findP (a : List Int) (j : Int) : Nat → Nat → Option Nat
  | 0, _ => none
  | n + 1, k => if a.getD k 0 ≤ j then some k else findP a j n (k + 1)
def joinP (a : List Int) (ch : Nat) (x : Call) : Int := if a = List.replicate 20 0 then x.At else (if x.At < minP (a.take ch) then minP (a.take ch) else x.At)
def givenP (x : Call) : Served := ⟨-1, x.At + x.Wait, -1⟩
def stepP (each : Int) (ch : Nat) (a : List Int) (out : List Served) (x : Call) : List Int × List Served :=
  if x.At + x.Wait < joinP a ch x then (a, out ++ [givenP x])
  else match findP a (joinP a ch x) ch 0 with
    | some k => (a.set k (untilP each x.Hear (joinP a ch x)), out ++ [⟨joinP a ch x, untilP each x.Hear (joinP a ch x), k⟩])
    | none => (a, out)
def serveP (each : Int) (ch : Nat) : List Int → List Served → List Call → List Served
  | _, out, [] => out
  | a, out, x :: l => serveP each ch (stepP each ch a out x).1 (stepP each ch a out x).2 l
theorem up_rng {each t : Int} (h1 : 1 ≤ each) (h2 : each ≤ 60) (h3 : 0 ≤ t) (h4 : t ≤ 7199) : t ≤ upP each t ∧ upP each t ≤ t + each - 1 ∧ 0 ≤ (t + each - 1) / each ∧ (t + each - 1) / each ≤ 7258 := by
  have g1 := Int.mul_ediv_add_emod (t + each - 1) each
  have g2 := Int.emod_nonneg (t + each - 1) (show each ≠ 0 by omega)
  have g3 := Int.emod_lt_of_pos (t + each - 1) (show 0 < each by omega)
  have g4 : upP each t = each * ((t + each - 1) / each) := Int.mul_comm _ _
  have g5 : 0 ≤ (t + each - 1) / each := Int.ediv_nonneg (by omega) (by omega)
  have g6 : (t + each - 1) / each < 7259 := (Int.ediv_lt_iff_lt_mul (by omega)).2 (by omega)
  omega
structure HourOk (h : Hour) : Prop where
  e1 : 1 ≤ h.book.Each
  e2 : h.book.Each ≤ 60
  rg : ∀ x ∈ h.calls, callRng x
  c1 : 1 ≤ h.channels
  c2 : h.channels ≤ 20
  ln : h.calls.length ≤ 1000
end Go.RS.CC

/- Walks: the program (2): how an hour is served. -/
namespace Go.RS.CC
open Go Go.RS
open Go.RS.Enc (enc dec)
variable {E : VEnv}
theorem w_up (hE : E.env.fn = G) : Ok E 64 (s2 fun (h : Hour) t => if 1 ≤ h.book.Each ∧ h.book.Each ≤ 60 ∧ 0 ≤ t ∧ t ≤ 7199 then some (upP h.book.Each t) else none) := by
  refine ok2 fun h t r hr => ?_
  split at hr
  · rename_i hc
    cases hr
    obtain ⟨h1, h2, h3, h4⟩ := hc
    obtain ⟨g1, g2, g3, g4⟩ := up_rng h1 h2 h3 h4
    have w1 : IntKind.i64.wrap (t + h.book.Each) = t + h.book.Each := wrap64 (by omega) (by omega)
    have w2 : IntKind.i64.wrap (t + h.book.Each - 1) = t + h.book.Each - 1 := wrap64 (by omega) (by omega)
    have w3 : IntKind.i64.wrap ((t + h.book.Each - 1).tdiv h.book.Each) = (t + h.book.Each - 1) / h.book.Each := by
      rw [Int.tdiv_eq_ediv_of_nonneg (by omega)]; exact wrap64 (by omega) (by omega)
    have w4 : IntKind.i64.wrap ((t + h.book.Each - 1) / h.book.Each * h.book.Each) = upP h.book.Each t := wrap64 (show _ ≤ upP h.book.Each t by omega) (show upP h.book.Each t < _ by omega)
    have h0 : h.book.Each ≠ 0 := by omega
    refine VP.run (A := F64) (goodV_nil) [] (by rw [hE]; rfl) (by simp [F64]) ?_; unfold F64; simp (implicitDefEqProofs := false) [enc_list, w1, w2, w3, w4, h0]
  · cases hr
theorem w_until (hE : E.env.fn = G) : Ok E 72 (s3 fun (h : Hour) (x : Call) t => if 1 ≤ h.book.Each ∧ h.book.Each ≤ 60 ∧ 0 ≤ t ∧ t ≤ 7199 ∧ 1 ≤ x.Hear ∧ x.Hear ≤ 5 then some (untilP h.book.Each x.Hear t) else none) := by
  refine ok3 fun h x t r hr => ?_
  split at hr
  · rename_i hc
    cases hr
    obtain ⟨h1, h2, h3, h4, h5, h6⟩ := hc
    obtain ⟨g1, g2, g3, g4⟩ := up_rng h1 h2 h3 h4
    have g5 : 0 ≤ x.Hear * h.book.Each := Int.mul_nonneg (by omega) (by omega)
    have g6 : x.Hear * h.book.Each ≤ 5 * 60 := Int.mul_le_mul (by omega) (by omega) (by omega) (by omega)
    have w1 : IntKind.i64.wrap (x.Hear * h.book.Each) = x.Hear * h.book.Each := wrap64 (by omega) (by omega)
    have w2 : IntKind.i64.wrap (upP h.book.Each t + x.Hear * h.book.Each) = upP h.book.Each t + x.Hear * h.book.Each := wrap64 (by omega) (by omega)
    refine VP.run (A := F72) ((goodV_cons (w_up hE) goodV_nil)) [] (by rw [hE]; rfl) (by simp [F72]) ?_; unfold F72; simp (implicitDefEqProofs := false) [enc_list, h1, h2, h3, h4, w1, w2, untilP]
  · cases hr
abbrev z20 : List PV := encL (List.replicate 20 (0 : Int))
abbrev zero20 : PV := .agg [.int .i64 0, .int .i64 0, .int .i64 0, .int .i64 0, .int .i64 0, .int .i64 0, .int .i64 0, .int .i64 0, .int .i64 0, .int .i64 0, .int .i64 0, .int .i64 0, .int .i64 0, .int .i64 0, .int .i64 0, .int .i64 0, .int .i64 0, .int .i64 0, .int .i64 0, .int .i64 0]
def nobodyS (args : List PV) : Option PV := if args.isEmpty then some zero20 else none
@[simp] theorem nobodyS_nil : nobodyS [] = some zero20 := rfl
theorem w_nobody (hE : E.env.fn = G) : Ok E 70 nobodyS := by
  intro args r hr
  unfold nobodyS at hr
  split at hr
  · rename_i h0
    rw [List.isEmpty_iff] at h0
    subst h0
    cases hr
    refine VP.run (A := F70) (goodV_nil) [] (by rw [hE]; rfl) (by simp [F70]) ?_; unfold F70; simp (implicitDefEqProofs := false) [enc_list, spliceV]
  · cases hr
theorem w_Min (hE : E.env.fn = G) : Ok E 71 (s1 fun l => if 1 ≤ l.length ∧ l.length ≤ 1000 then some (minP l) else none) := by
  refine ok1 fun l r hr => ?_
  split at hr
  · rename_i hl
    cases hr
    obtain ⟨x, l, rfl⟩ : ∃ x l', l = x :: l' := by
      cases l with
      | nil => simp at hl
      | cons x l => exact ⟨x, l, rfl⟩
    have hl' : l.length ≤ 999 := by simpa using hl
    have h1 : ¬ ((l.length : Int) + 1 < 1) := by omega
    have h2 : (0 : Int) ≤ l.length := by omega
    have h3 : (0 : Int) < (l.length : Int) + 1 := by omega
    have h4 : (encL (x :: l))[0]? = some (PV.int .i64 x) := rfl
    have h5 : (encL (x :: l))[0]'(by simp [El.sz]) = PV.int .i64 x := rfl
    refine VP.func (A := F71) (by rw [hE]; rfl) (by simp [F71]) ?_; unfold F71
    refine VW.seq (VW.run goodV_nil [] ?_); simp (implicitDefEqProofs := false) [enc_list]
    refine VW.seq (VW.run goodV_nil [] ?_); simp (implicitDefEqProofs := false) [enc_list, h1]
    refine VW.seq_cut [(0, enc (x :: l)), (3, .int .i64 x)] [] (VW.run goodV_nil [] ?_) ?_; simp (implicitDefEqProofs := false) [enc_list, h1, h2, h3, h4]
    · exact ⟨0, [], by simp [enc_list], by simp, by simp, by simp (implicitDefEqProofs := false) [enc_list], by simp (implicitDefEqProofs := false) [enc_list]⟩
    refine VW.run goodV_nil [] ?_; simp (implicitDefEqProofs := false) [enc_list]
    refine VW.loop_to 0 [(3, .int .i64 (minP (x :: l)))] [] (True) ?_ (fun hp f m hc => ?_)
    · obtain ⟨Inv, hI⟩ : ∃ Inv : Nat → List (Nat × PV) → VM → Prop, ∀ k f m, Inv k f m ↔ (∃ c : Int, f = [(0, enc (x :: l)), (3, .int .i64 c), (4, .int .i64 (k + 1))] ∧ m = [] ∧ minP (x :: l) = minL c (l.drop k)) := ⟨_, fun _ _ _ => Iff.rfl⟩
      refine VW.loop_cut Inv l.length ?_ ?_ ?_
      · exact ⟨_, _, (hI _ _ _).2 ⟨x, rfl, rfl, rfl⟩, ⟨0, [], by simp [enc_list], by simp, by simp, by simp (implicitDefEqProofs := false) [enc_list], by simp (implicitDefEqProofs := false) [enc_list]⟩⟩
      · intro k f m hk hi
        obtain ⟨c, rfl, rfl, hc⟩ := (hI _ _ _).1 hi
        have w1 : IntKind.i64.wrap ((k : Int) + 1 + 1) = k + 1 + 1 := wrap64 (by omega) (by omega)
        rw [List.drop_eq_getElem_cons hk, minL] at hc
        have hk2 : k + 1 < (x :: l).length := by simp; omega
        have hk3 : (k : Int) + 1 < (l.length : Int) + 1 := by omega
        have hk4 : (0 : Int) ≤ (k : Int) + 1 := by omega
        have hk5 : ((k : Int) + 1).toNat = k + 1 := by omega
        have hg := get_Int (x :: l) (k + 1) hk2
        simp only [List.getElem_cons_succ] at hg
        refine VW.run goodV_nil [] ?_; simp (implicitDefEqProofs := false) [enc_list, w1, hk, hk3, hk4, hk5, hg]
        exact ⟨_, _, (hI _ _ _).2 ⟨if l[k] < c then l[k] else c, rfl, rfl, hc⟩, ⟨0, [], by simp [enc_list], by simp, by simp, by simp (implicitDefEqProofs := false) [enc_list], by simp (implicitDefEqProofs := false) [enc_list]⟩⟩
      · intro f m hi
        obtain ⟨c, rfl, rfl, hc⟩ := (hI _ _ _).1 hi
        rw [List.drop_length, minL] at hc
        refine VW.run goodV_nil [] ?_; simp (implicitDefEqProofs := false) [enc_list]
        exact ⟨0, [], by simp [enc_list,  hc], by simp, by simp, by simp (implicitDefEqProofs := false) [enc_list,  hc], by simp (implicitDefEqProofs := false) [enc_list,  hc]⟩
    · simp (implicitDefEqProofs := false); refine .ofCut hc (VW.run goodV_nil [] ?_); simp (implicitDefEqProofs := false) [enc_list]
  · cases hr
end Go.RS.CC

/- Walks: the program (3): how an hour is served. -/
namespace Go.RS.CC
open Go Go.RS
open Go.RS.Enc (enc dec)
variable {E : VEnv}
theorem atoms_int : ∀ (a b : List Int), a.length = b.length → atomsEqV (List.replicate a.length .int) (encL a) (encL b) = some (decide (a = b))
  | [], [], _ => rfl
  | x :: a, y :: b, h => by
    have ih := atoms_int a b (by simpa using h)
    show (match atomEqV .int (PV.int .i64 x) (PV.int .i64 y), atomsEqV (List.replicate a.length .int) (encL a) (encL b) with | some p, some q => some (p && q) | _, _ => none) = _
    rw [ih]
    simp [atomEqV]; rfl
  | [], _ :: _, h => by simp at h
  | _ :: _, [], h => by simp at h
theorem atoms20 (a : List Int) (h : a.length = 20) : atomsEqV [.int, .int, .int, .int, .int, .int, .int, .int, .int, .int, .int, .int, .int, .int, .int, .int, .int, .int, .int, .int] (encL a)
    [.int .i64 0, .int .i64 0, .int .i64 0, .int .i64 0, .int .i64 0, .int .i64 0, .int .i64 0, .int .i64 0, .int .i64 0, .int .i64 0, .int .i64 0, .int .i64 0, .int .i64 0, .int .i64 0, .int .i64 0, .int .i64 0, .int .i64 0, .int .i64 0, .int .i64 0, .int .i64 0] = some (decide (a = List.replicate 20 0)) := by
  have := atoms_int a (List.replicate 20 0) (by simp [h])
  rw [h] at this
  exact this
theorem decfa_Int (M : VM) (t q : Nat) (a : List Int) (h : M[t]? = some (.cells (encL a))) (ha : a.length = 20) (hq : q ≤ 20) : (dec (fzSl M t 20 0 q 20 1) : Option (List Int)) = some (a.take q) := by
  unfold fzSl
  rw [if_neg (by decide)]
  simp only [h]
  have e : (encL a).take q = encL (a.take q) := take_Int a q
  rw [List.drop_zero, Nat.mul_one, e, if_pos ⟨by simp [ha], by omega, .inl (by have := openCap_eq; omega), encL_isF _⟩]
  have : q = (a.take q).length := by simp; omega
  exact decl_Int _ q (a.take q) this
theorem minL_rng : ∀ (l : List Int) (x : Int), (∀ v ∈ x :: l, 0 ≤ v ∧ v ≤ 10000) → 0 ≤ minL x l ∧ minL x l ≤ 10000
  | [], x, h => h x (by simp)
  | y :: l, x, h => by
    rw [minL]
    refine minL_rng l _ fun v hv => ?_
    rcases List.mem_cons.1 hv with rfl | hv
    · split
      · exact h y (by simp)
      · exact h x (by simp)
    · exact h v (by simp [hv])
theorem joinP_rng {a : List Int} (ha : ∀ v ∈ a, 0 ≤ v ∧ v ≤ 10000) {x : Call} (hx : callRng x) (ch : Nat) : 0 ≤ joinP a ch x ∧ joinP a ch x ≤ 10000 ∧ x.At ≤ joinP a ch x := by
  obtain ⟨x1, x2, _⟩ := hx
  have : 0 ≤ minP (a.take ch) ∧ minP (a.take ch) ≤ 10000 := by
    unfold minP
    split
    · omega
    · rename_i y l hl
      exact minL_rng l y fun v hv => ha v (List.mem_of_mem_take (by rw [hl]; exact hv))
  unfold joinP
  split
  · omega
  · split <;> omega
theorem und_Int (n : Nat) : ∀ (a : List Int), ∀ v ∈ encL a, PV.und n v = true
  | [], v, hv => by simp [encL_nil] at hv
  | x :: a, v, hv => by
    rw [encL_cons] at hv
    rcases List.mem_append.1 hv with hv | hv
    · rw [show v = .int .i64 x by simpa using hv]; rfl
    · exact und_Int n a v hv
open Classical in
noncomputable def servePF (h : Hour) : Option (List Served) := if HourOk h then some (serveP h.book.Each h.channels.toNat (List.replicate 20 0) [] h.calls) else none
abbrev hrc (h : Hour) : VObj := .cells (El.cells h)
theorem w_serveP (hE : E.env.fn = G) : Ok E 51 (s1 servePF) := by
  refine ok1 fun h r hr => ?_
  unfold servePF at hr
  split at hr
  · rename_i ho
    cases hr
    have good := goodV_cons (w_nobody hE) (goodV_cons (w_Min hE) (goodV_cons (w_until hE) goodV_nil))
    generalize hT : serveP h.book.Each h.channels.toNat (List.replicate 20 0) [] h.calls = T
    have hc1 := ho.c1
    have hc2 := ho.c2
    have hln := ho.ln
    refine VP.run (A := F51) (good) [] (by rw [hE]; rfl) (by simp [F51]) ?_; unfold F51; simp (implicitDefEqProofs := false) [enc_list, spliceV]
    refine VW.declare 4 3 (by simp) ?_
    have hbl : h.calls.length < 9223372036854775808 := by omega
    refine VW.loop_to 0 [(4, sl3 2 T)] [.gone, .gone, .vec (encL T)] (True) ?_ (fun hp f m hc => ?_)
    · obtain ⟨Inv, hI⟩ : ∃ Inv : Nat → List (Nat × PV) → VM → Prop, ∀ k f m, Inv k f m ↔ (∃ (a : List Int) (out : List Served), f = [(1, .ptr 0 8 0), (3, .ptr 1 20 0), (4, sl3 2 out), (11, enc h.calls), (12, .int .i64 h.calls.length), (13, .int .i64 k)] ∧ m = [hrc h, .cells (encL a), .vec (encL out)] ∧ a.length = 20 ∧ (∀ v ∈ a, 0 ≤ v ∧ v ≤ 10000) ∧ out.length ≤ k ∧ T = serveP h.book.Each h.channels.toNat a out (h.calls.drop k)) := ⟨_, fun _ _ _ => Iff.rfl⟩
      refine VW.loop_cut Inv h.calls.length ?_ ?_ ?_
      · exact ⟨_, _, (hI _ _ _).2 ⟨List.replicate 20 0, [], rfl, rfl, by simp, fun v hv => by simp at hv; omega, by simp, hT.symm⟩, ⟨3, [], by simp [enc_list,  encL_cons], by simp, by simp, by simp (implicitDefEqProofs := false) [enc_list,  encL_cons], by simp (implicitDefEqProofs := false) [enc_list,  encL_cons]⟩⟩
      · intro k f m hk hi
        obtain ⟨a, out, rfl, rfl, ha, hav, hol, hs⟩ := (hI _ _ _).1 hi
        have w1 : IntKind.i64.wrap ((k : Int) + 1) = k + 1 := wrap64 (by omega) (by omega)
        rw [List.drop_eq_getElem_cons hk, serveP] at hs
        generalize hx : h.calls[k] = x at hs
        have hxr : callRng x := hx ▸ ho.rg _ (List.getElem_mem _)
        obtain ⟨j1, j2, j3⟩ := joinP_rng hav hxr h.channels.toNat
        obtain ⟨x1, x2, x3, x4, x5, x6⟩ := hxr
        have w2 : IntKind.i64.wrap (x.At + x.Wait) = x.At + x.Wait := wrap64 (by omega) (by omega)
        have e20 : 20 ≤ a.length := by omega
        have t20 : List.take 20 (encL a) = encL a := by rw [take_Int, List.take_of_length_le (by omega)]
        have z20 := atoms20 a ha
        refine VW.seq (VW.run good [] ?_); simp (implicitDefEqProofs := false) [enc_list, hk]
        refine VW.seq (VW.run good [] ?_); simp (implicitDefEqProofs := false) [enc_list]
        refine VW.seq (VW.block ?_)
        refine VW.seq (VW.run good [] ?_); simp (implicitDefEqProofs := false) [enc_list, hk, get_Call _ k hk, hx, spliceV]
        refine VW.seq (VW.run good [] ?_); simp (implicitDefEqProofs := false) [enc_list]
        refine VW.seq_cut [(1, .ptr 0 8 0), (3, .ptr 1 20 0), (4, sl3 2 out), (6, .ptr 3 4 0), (7, .int .i64 (joinP a h.channels.toNat x)), (11, enc h.calls), (12, .int .i64 h.calls.length), (13, .int .i64 k)] [hrc h, .cells (encL a), .vec (encL out), .cells (El.cells x)] (VW.run good [] ?_) ?_; simp (implicitDefEqProofs := false) [enc_list, e20, t20, z20]
        · have hn1 : 1 ≤ h.channels.toNat := by omega
          have hn2 : h.channels.toNat ≤ 20 := by omega
          have hn3 : h.channels.toNat ≤ 1000 := by omega
          have hn4 : (0 : Int) ≤ h.channels := by omega
          have hn5 : ¬ (20 : Nat) = 0 := by decide
          by_cases hz : a = List.replicate 20 0
          · rw [decide_eq_true hz] at z20
            have hj : joinP a h.channels.toNat x = x.At := by unfold joinP; rw [if_pos hz]
            simp (implicitDefEqProofs := false) [enc_list, z20, hj, ha, t20, nobodyS]
            exact ⟨4, [], by simp [enc_list], by simp, by simp, by simp (implicitDefEqProofs := false) [enc_list], by simp (implicitDefEqProofs := false) [enc_list]; exact und_Int 4 a⟩
          · rw [decide_eq_false hz] at z20
            have hj : joinP a h.channels.toNat x = if x.At < minP (a.take h.channels.toNat) then minP (a.take h.channels.toNat) else x.At := by unfold joinP; rw [if_neg hz]
            have hdec := fun (M : VM) (hM : M[1]? = some (.cells (encL a))) => decfa_Int M 1 h.channels.toNat a hM ha hn2
            simp (implicitDefEqProofs := false) [enc_list, z20, hj, t20, nobodyS, slV, boundV, numV, mOk, sliceV, slBounds, optBound, bound, ofSlice, PV.toS, Addr.add, openCap, hc2, hn1, hn2, hn3, hn4, hdec, ha, Nat.min_eq_left hn2]
            exact ⟨4, [], by simp [enc_list], by simp, by simp, by simp (implicitDefEqProofs := false) [enc_list], by simp (implicitDefEqProofs := false) [enc_list]; exact und_Int 4 a⟩
        rw [stepP] at hs
        generalize hJ : joinP a h.channels.toNat x = J at hs j1 j2 j3
        by_cases hgt : x.At + x.Wait < J
        · rw [if_pos hgt] at hs
          have happ := fun (M : VM) (h : M[2]? = some (.vec (encL out))) => app_Served M 2 24 out (givenP x) h (fits24 (by omega))
          simp only [givenP] at happ
          refine VW.run good [] ?_; simp (implicitDefEqProofs := false) [enc_list, w2, hgt, spliceV, happ, AExit.leave]
          refine VW.run good [] ?_; simp (implicitDefEqProofs := false) [enc_list, w1]
          have el : (out ++ [givenP x]).length = out.length + 1 := by simp
          exact ⟨_, _, (hI _ _ _).2 ⟨a, out ++ [givenP x], rfl, rfl, ha, hav, by omega, hs⟩, ⟨3, [], by simp [enc_list, givenP], by simp, by simp, by simp (implicitDefEqProofs := false) [enc_list, el], by simp (implicitDefEqProofs := false) [enc_list]; exact und_Int 3 a⟩⟩
        · rw [if_neg hgt] at hs
          refine VW.run good [] ?_; simp (implicitDefEqProofs := false) [enc_list, w2, hgt]
          refine VW.loop_to 2 [(1, .ptr 0 8 0), (3, .ptr 1 20 0), (4, sl3 2 out), (6, .ptr 3 4 0), (7, .int .i64 J), (11, enc h.calls), (12, .int .i64 h.calls.length), (13, .int .i64 k)] [hrc h, .cells (encL a), .vec (encL out), .cells (El.cells x)] (findP a J h.channels.toNat 0 = none) ?_ (fun hp f m hc => ?_)
          · have hO := hI
            clear hI hi
            obtain ⟨Inv, hI⟩ : ∃ Inv : Nat → List (Nat × PV) → VM → Prop, ∀ i f m, Inv i f m ↔ (f = [(1, .ptr 0 8 0), (3, .ptr 1 20 0), (4, sl3 2 out), (6, .ptr 3 4 0), (7, .int .i64 J), (11, enc h.calls), (12, .int .i64 h.calls.length), (13, .int .i64 k), (45, .int .i64 h.channels), (46, .int .i64 i)] ∧ m = [hrc h, .cells (encL a), .vec (encL out), .cells (El.cells x)] ∧ findP a J h.channels.toNat 0 = findP a J (h.channels.toNat - i) i) := ⟨_, fun _ _ _ => Iff.rfl⟩
            refine VW.loop_cut Inv h.channels.toNat ?_ ?_ ?_
            · exact ⟨_, _, (hI _ _ _).2 ⟨rfl, rfl, rfl⟩, ⟨4, [], by simp [enc_list], by simp, by simp, by simp (implicitDefEqProofs := false) [enc_list], by simp (implicitDefEqProofs := false) [enc_list]; exact und_Int 4 a⟩⟩
            · intro i f m hil hi
              obtain ⟨rfl, rfl, hf⟩ := (hI _ _ _).1 hi
              have ic : (i : Int) < h.channels := by omega
              have ia : i < a.length := by omega
              have i20 : (i : Int) < 20 := by omega
              have i20' : i < 20 := by omega
              have w3 : IntKind.i64.wrap ((i : Int) + 1) = i + 1 := wrap64 (by omega) (by omega)
              have c2 : h.channels.toNat - i = h.channels.toNat - (i + 1) + 1 := by omega
              rw [c2, findP, List.getD_eq_getElem?_getD, List.getElem?_eq_getElem ia, Option.getD_some] at hf
              by_cases hle : a[i] ≤ J
              · rw [if_pos hle] at hf
                rw [hf] at hs
                obtain ⟨u1, u2, _⟩ := up_rng (each := h.book.Each) (t := J) ho.e1 ho.e2 (by omega) (by omega)
                have cu : 1 ≤ h.book.Each ∧ h.book.Each ≤ 60 ∧ 0 ≤ J ∧ J ≤ 7199 ∧ 1 ≤ x.Hear ∧ x.Hear ≤ 5 := ⟨ho.e1, ho.e2, by omega, by omega, x5, x6⟩
                have happ := fun (M : VM) (h' : M[2]? = some (.vec (encL out))) => app_Served M 2 24 out ⟨J, untilP h.book.Each x.Hear J, i⟩ h' (fits24 (by omega))
                have i19 : i ≤ 19 := by omega
                have hsp : ∀ v : Int, List.take i (encL a) ++ PV.int .i64 v :: List.drop (i + 1) (encL a) = encL (a.set i v) := fun v => by
                  have := splice_Int a i v ia
                  simpa [spliceV] using this
                have hat : ∀ v : Int, (encL (a.set i v))[i]? = some (PV.int .i64 v) := fun v => by
                  rw [at_Int _ i (by simpa using ia)]; simp
                refine VW.run good [] ?_; simp (implicitDefEqProofs := false) [enc_list, ic, i20, i20', ha, hle, cu, w3, at_Int a i ia, hsp, hat, i19, spliceV, happ, AExit.leave]
                refine VW.run good [] ?_; simp (implicitDefEqProofs := false) [enc_list, w1]
                have el : ∀ y : Served, (out ++ [y]).length = out.length + 1 := fun y => by simp
                refine ⟨_, _, (hO _ _ _).2 ⟨a.set i (untilP h.book.Each x.Hear J), out ++ [⟨J, untilP h.book.Each x.Hear J, i⟩], rfl, rfl, by simpa using ha, ?_, by rw [el]; omega, hs⟩, ⟨3, [], by simp [enc_list], by simp, by simp, by simp (implicitDefEqProofs := false) [enc_list, el], by simp (implicitDefEqProofs := false) [enc_list]; exact und_Int 3 _⟩⟩
                intro v hv
                rcases List.mem_or_eq_of_mem_set hv with hv | rfl
                · exact hav v hv
                · have : x.Hear * h.book.Each ≤ 5 * 60 := Int.mul_le_mul (by omega) ho.e2 (by have := ho.e1; omega) (by omega)
                  have : 0 ≤ x.Hear * h.book.Each := Int.mul_nonneg (by omega) (by have := ho.e1; omega)
                  have := ho.e2
                  unfold untilP
                  omega
              · rw [if_neg hle] at hf
                refine VW.run good [] ?_; simp (implicitDefEqProofs := false) [enc_list, ic, i20, i20', ha, hle, w3, at_Int a i ia]
                exact ⟨_, _, (hI _ _ _).2 ⟨rfl, rfl, hf⟩, ⟨4, [], by simp [enc_list], by simp, by simp, by simp (implicitDefEqProofs := false) [enc_list], by simp (implicitDefEqProofs := false) [enc_list]; exact und_Int 4 a⟩⟩
            · intro f m hi
              obtain ⟨rfl, rfl, hf⟩ := (hI _ _ _).1 hi
              have ic : ¬ max h.channels 0 < h.channels := by omega
              rw [Nat.sub_self, findP] at hf
              refine VW.run good [] ?_; simp (implicitDefEqProofs := false) [enc_list, ic]
              exact ⟨hf, 4, [], by simp [enc_list], by simp, by simp, by simp (implicitDefEqProofs := false) [enc_list], by simp (implicitDefEqProofs := false) [enc_list]; exact und_Int 4 a⟩
          · rw [hp] at hs
            simp (implicitDefEqProofs := false); refine .ofCut hc (VW.run good [] ?_); simp (implicitDefEqProofs := false) [enc_list, w1]
            exact ⟨_, _, (hI _ _ _).2 ⟨a, out, rfl, rfl, ha, hav, by omega, hs⟩, ⟨3, [], by simp [enc_list], by simp, by simp, by simp (implicitDefEqProofs := false) [enc_list], by simp (implicitDefEqProofs := false) [enc_list]; exact und_Int 3 a⟩⟩
      · intro f m hi
        obtain ⟨a, out, rfl, rfl, ha, hav, hol, hs⟩ := (hI _ _ _).1 hi
        rw [List.drop_length, serveP] at hs
        refine VW.run good [] ?_; simp (implicitDefEqProofs := false) [enc_list]
        exact ⟨3, [0, 1], by simp [enc_list, hs], by simp, by simp, by simp (implicitDefEqProofs := false) [enc_list, hs], by simp (implicitDefEqProofs := false) [enc_list, hs]⟩
    · simp (implicitDefEqProofs := false); refine .ofCut hc (VW.run good [] ?_); simp (implicitDefEqProofs := false) [enc_list]
  · cases hr
end Go.RS.CC

/- Walks: the program (4): an hour that is asked about, and how it is served. -/
namespace Go.RS.CC
open Go Go.RS
open Go.RS.Enc (enc dec)
variable {E : VEnv}
theorem w_given (hE : E.env.fn = G) : Ok E 76 (s1 fun x : Call => if callRng x then some (givenP x) else none) := by
  refine ok1 fun x r hr => ?_
  split at hr
  · rename_i hx
    cases hr
    obtain ⟨x1, x2, x3, x4, x5, x6⟩ := hx
    have w2 : IntKind.i64.wrap (x.At + x.Wait) = x.At + x.Wait := wrap64 (by omega) (by omega)
    refine VP.run (A := F76) (goodV_nil) [] (by rw [hE]; rfl) (by simp [F76]) ?_; unfold F76; simp (implicitDefEqProofs := false) [enc_list, w2, givenP, spliceV]
  · cases hr
def noHour : Hour := ⟨⟨0, 0, 0, 0, [], []⟩, [], 0⟩
def askedP (b : Book) (h c : Int) : Hour × Int := if askedR b h c = 0 then (⟨b, hourOf b h, c⟩, 0) else (noHour, askedR b h c)
theorem asked_ok {b : Book} {h c : Int} (ha : askedR b h c = 0) (hb : b.Hours.length < 9223372036854775808) : BookOk b ∧ 0 ≤ h ∧ h < b.Hours.length ∧ 1 ≤ c ∧ c ≤ 20 ∧ h.toNat < b.Hours.length := by
  have ho : okR b = true := by
    by_cases ho : okR b = true
    · exact ho
    · simp [askedR, ho] at ha
  have bo := okR_ok ho
  have hw : wi h 0 (lenm b.Hours.length) = true ∧ wi c 1 20 = true := by
    by_cases hx : wi h 0 (lenm b.Hours.length) = true ∧ wi c 1 20 = true
    · exact hx
    · simp [askedR, ho] at ha; exact ha
  have hm : lenm b.Hours.length = (b.Hours.length : Int) - 1 := wrap64 (by omega) (by omega)
  rw [hm, wi_iff, wi_iff] at hw
  exact ⟨bo, by omega, by omega, by omega, by omega, by omega⟩
theorem w_askedP (hE : E.env.fn = G) : Ok E 50 (s3 fun b h c => some (askedP b h c)) := by
  refine ok3 fun b h c r hr => ?_
  cases hr
  refine VP.bound fun hb => ?_
  simp [enc_list] at hb
  have good := goodV_cons (w_within hE) (goodV_cons (w_CheckP hE) goodV_nil)
  have hl : b.Hours.length < 9223372036854775808 := by omega
  refine VP.run (A := F50) (good) [] (by rw [hE]; rfl) (by simp [F50]) ?_; unfold F50; simp (implicitDefEqProofs := false) [enc_list, spliceV]
  by_cases ho : okR b = true
  · by_cases ha : askedR b h c = 0
    · obtain ⟨bo, h1, h2, h3, h4, h5⟩ := asked_ok ha hl
      have hm : IntKind.i64.wrap ((b.Hours.length : Int) - 1) = (b.Hours.length : Int) - 1 := wrap64 (by omega) (by omega)
      have v1 : wi h 0 ((b.Hours.length : Int) - 1) = true := (wi_iff _ _ _).2 ⟨h1, by omega⟩
      have v2 : wi c 1 20 = true := (wi_iff _ _ _).2 ⟨h3, h4⟩
      have hd : hourOf b h = b.Hours[h.toNat] := by simp [hourOf, h5]
      simp (implicitDefEqProofs := false) [enc_list, checkR, ho, ha, askedP, hm, v1, v2, h1, h2, get_List b.Hours h.toNat h5, hd, spliceV]
    · have hx : askedR b h c = 91 := by
        unfold askedR at ha ⊢
        rw [if_pos ho] at ha ⊢
        split at ha <;> simp_all
      have hm : IntKind.i64.wrap ((b.Hours.length : Int) - 1) = (b.Hours.length : Int) - 1 := wrap64 (by omega) (by omega)
      by_cases g1 : wi h 0 ((b.Hours.length : Int) - 1) = true
      · by_cases g2 : wi c 1 20 = true
        · exact absurd (show askedR b h c = 0 by unfold askedR lenm; rw [if_pos ho, hm, g1, g2]; rfl) ha
        · simp (implicitDefEqProofs := false) [enc_list, checkR, ho, hm, g1, g2, spliceV, askedP, hx, noHour]
      · simp (implicitDefEqProofs := false) [enc_list, checkR, ho, hm, g1, spliceV, askedP, hx, noHour]
  · have hx : askedR b h c = 90 := by simp [askedR, ho]
    simp (implicitDefEqProofs := false) [enc_list, checkR, ho, askedP, hx, noHour, spliceV]
end Go.RS.CC

/- Plain laws (1): the program serves an hour as the reference does. -/
namespace Go.RS.CC
open Go Go.RS
open Go.RS.Enc (enc dec)
theorem minL_le (t : Int) : ∀ (l : List Int) (x : Int), minL x l ≤ t ↔ x ≤ t ∨ ∃ v ∈ l, v ≤ t
  | [], x => by simp [minL]
  | y :: l, x => by
    rw [minL, minL_le t l]
    simp only [List.mem_cons, exists_eq_or_imp]
    split
    · constructor
      · rintro (h | h)
        · exact .inr (.inl h)
        · exact .inr (.inr h)
      · rintro (h | h | h)
        · exact .inl (by omega)
        · exact .inl h
        · exact .inr h
    · constructor
      · rintro (h | h)
        · exact .inl h
        · exact .inr (.inr h)
      · rintro (h | h | h)
        · exact .inl h
        · exact .inl (by omega)
        · exact .inr h
theorem minP_le (t : Int) (l : List Int) (hl : l ≠ []) : minP l ≤ t ↔ ∃ v ∈ l, v ≤ t := by
  cases l with
  | nil => exact absurd rfl hl
  | cons x l => simp [minP, minL_le]
theorem findP_none (a : List Int) (t : Int) : ∀ (n k : Nat), findP a t n k = none ↔ ∀ c, k ≤ c → c < k + n → ¬ a.getD c 0 ≤ t
  | 0, k => by simp [findP]; intro c h1 h2; omega
  | n + 1, k => by
    rw [findP]
    by_cases h : a.getD k 0 ≤ t
    · rw [if_pos h]; simp only [reduceCtorEq, false_iff]; intro hx; exact hx k (by omega) (by omega) h
    · rw [if_neg h, findP_none a t n (k + 1)]
      constructor
      · intro g c h1 h2
        by_cases hc : c = k
        · subst hc; exact h
        · exact g c (by omega) (by omega)
      · intro g c h1 h2; exact g c (by omega) (by omega)
theorem findP_some (a : List Int) (t : Int) : ∀ (n k j : Nat), findP a t n k = some j → k ≤ j ∧ j < k + n ∧ a.getD j 0 ≤ t
  | 0, k, j, h => by cases h
  | n + 1, k, j, h => by
    rw [findP] at h
    split at h
    · rename_i g; cases h; exact ⟨by omega, by omega, g⟩
    · obtain ⟨h1, h2, h3⟩ := findP_some a t n (k + 1) j h; exact ⟨by omega, by omega, h3⟩
structure Fit (ch : Nat) (a : List Int) (out : List Served) : Prop where
  len : a.length = 20
  pos : ∀ v ∈ a, 0 ≤ v
  free : ∀ (c : Nat) (t : Int), c < ch → 0 ≤ t → isFree out c t = decide (a.getD c 0 ≤ t)
theorem freeL_find {out : List Served} {a : List Int} {t : Int} : ∀ (n k : Nat), (∀ c : Nat, k ≤ c → c < k + n → isFree out c t = decide (a.getD c 0 ≤ t)) → freeL out t n k = match findP a t n k with | some c => (c : Int) | none => -1
  | 0, k, h => rfl
  | n + 1, k, h => by
    rw [freeL, findP, h k (by omega) (by omega)]
    by_cases g : a.getD k 0 ≤ t
    · rw [if_pos (by simpa using g), if_pos g]
    · rw [if_neg (by simpa using g), if_neg g]
      exact freeL_find n (k + 1) fun c h1 h2 => h c (by omega) (by omega)
theorem Fit.freeR {ch : Int} {a : List Int} {out : List Served} (f : Fit ch.toNat a out) {t : Int} (ht : 0 ≤ t) : freeR out ch t = match findP a t ch.toNat 0 with | some c => (c : Int) | none => -1 := by
  have := freeL_find (out := out) (a := a) (t := t) ch.toNat 0 fun c h1 h2 => f.free c t (by omega) ht
  exact this
theorem Fit.free_iff {ch : Int} {a : List Int} {out : List Served} (f : Fit ch.toNat a out) (h1 : 1 ≤ ch) (h2 : ch ≤ 20) {t : Int} (ht : 0 ≤ t) : 0 ≤ Go.RS.CC.freeR out ch t ↔ minP (a.take ch.toNat) ≤ t := by
  have hne : a.take ch.toNat ≠ [] := by
    intro h
    have := congrArg List.length h
    simp [f.len] at this
    omega
  rw [f.freeR ht, minP_le t _ hne]
  cases hf : findP a t ch.toNat 0 with
  | none =>
    rw [findP_none] at hf
    constructor
    · intro h; simp at h
    · rintro ⟨v, hv, hvt⟩
      obtain ⟨i, hi, rfl⟩ := List.getElem_of_mem hv
      simp at hi
      have hia : i < a.length := by omega
      refine absurd ?_ (hf i (by omega) (by omega))
      rw [List.getD_eq_getElem?_getD, List.getElem?_eq_getElem hia, Option.getD_some]
      simpa using hvt
  | some c =>
    obtain ⟨g1, g2, g3⟩ := findP_some a t _ _ _ hf
    have hca : c < a.length := by rw [f.len]; omega
    rw [List.getD_eq_getElem?_getD, List.getElem?_eq_getElem hca, Option.getD_some] at g3
    refine ⟨fun _ => ⟨a[c], ?_, g3⟩, fun _ => by simp⟩
    rw [List.mem_take_iff_getElem]
    exact ⟨c, by omega, rfl⟩
theorem seekR_max {out : List Served} {ch m : Int} : ∀ (n : Nat) (t : Int), 0 ≤ t → (∀ u, t ≤ u → (0 ≤ freeR out ch u ↔ m ≤ u)) → seekR out ch n t = if max t m < t + n then some (max t m) else none
  | 0, t, h0, h => by rw [seekR, if_neg (by omega)]
  | n + 1, t, h0, h => by
    rw [seekR]
    by_cases g : m ≤ t
    · rw [if_pos ((h t (by omega)).2 g), if_pos (by omega)]
      congr 1
      omega
    · rw [if_neg (fun x => g ((h t (by omega)).1 x)), seekR_max n (t + 1) (by omega) fun u hu => h u (by omega)]
      have e1 : max (t + 1) m = max t m := by omega
      rw [e1]
      by_cases q : max t m < t + 1 + n
      · rw [if_pos q, if_pos (by omega)]
      · rw [if_neg q, if_neg (by omega)]
theorem end_until {each hear t : Int} (he : 1 ≤ each) : endR each hear t = untilP each hear t := by
  have h1 := Int.mul_ediv_add_emod (t + each - 1) each
  have h2 := Int.emod_nonneg (t + each - 1) (show each ≠ 0 by omega)
  have h3 := Int.emod_lt_of_pos (t + each - 1) (show 0 < each by omega)
  have h4 : (-t) / each = -((t + each - 1) / each) := by
    refine ((Int.ediv_emod_unique (r := each - 1 - (t + each - 1) % each) (show 0 < each by omega)).2 ⟨?_, by omega, by omega⟩).1
    rw [Int.mul_neg]
    omega
  unfold endR untilP upP
  rw [h4, Int.neg_neg, Int.add_mul]
theorem Fit.step {each ch : Int} {a : List Int} {out : List Served} (f : Fit ch.toNat a out) (h1 : 1 ≤ ch) (h2 : ch ≤ 20) (he : 1 ≤ each) (he2 : each ≤ 60) {x : Call} (hx : callRng x) :
    (stepP each ch.toNat a out x).2 = out ++ [oneR each out ch x] ∧ Fit ch.toNat (stepP each ch.toNat a out x).1 (out ++ [oneR each out ch x]) := by
  obtain ⟨x1, x2, x3, x4, x5, x6⟩ := hx
  have hne : a.take ch.toNat ≠ [] := by
    intro h
    have := congrArg List.length h
    simp [f.len] at this
    omega
  have hm : ∀ u, x.At ≤ u → (0 ≤ Go.RS.CC.freeR out ch u ↔ minP (a.take ch.toNat) ≤ u) := fun u hu => f.free_iff h1 h2 (by omega)
  have hs := seekR_max (m := minP (a.take ch.toNat)) (x.Wait + 1).toNat x.At x1 hm
  have hj : joinP a ch.toNat x = max x.At (minP (a.take ch.toNat)) := by
    unfold joinP
    split
    · rename_i hz
      have : minP (a.take ch.toNat) ≤ 0 := (minP_le 0 _ hne).2 ⟨0, by rw [hz, List.take_replicate]; exact List.mem_replicate.2 ⟨by omega, rfl⟩, by omega⟩
      omega
    · split <;> omega
  rw [← hj] at hs
  unfold stepP oneR
  rw [hs]
  generalize hJ : joinP a ch.toNat x = J at *
  by_cases hg : x.At + x.Wait < J
  · rw [if_pos hg, if_neg (by omega)]
    refine ⟨rfl, f.len, f.pos, fun c t hc ht => ?_⟩
    rw [isFree, List.all_append, ← isFree, f.free c t hc ht]
    have : (-1 : Int) ≠ (c : Int) := by omega
    simp [pickR, this]
  · rw [if_neg hg, if_pos (by omega)]
    have hJ0 : 0 ≤ J := by omega
    have hfree : 0 ≤ Go.RS.CC.freeR out ch J := (hm J (by omega)).2 (by omega)
    rw [f.freeR hJ0] at hfree
    cases hf : findP a J ch.toNat 0 with
    | none => rw [hf] at hfree; simp at hfree
    | some k =>
      obtain ⟨g1, g2, g3⟩ := findP_some a J _ _ _ hf
      have hu : J ≤ untilP each x.Hear J := by
        unfold untilP
        have q1 := Int.mul_ediv_add_emod (J + each - 1) each
        have q2 := Int.emod_lt_of_pos (J + each - 1) (show 0 < each by omega)
        have q3 : upP each J = each * ((J + each - 1) / each) := Int.mul_comm _ _
        have q4 : 0 ≤ x.Hear * each := Int.mul_nonneg (by omega) (by omega)
        omega
      have hk : k < a.length := by rw [f.len]; omega
      refine ⟨?_, by simpa using f.len, ?_, fun c t hc ht => ?_⟩
      · simp [pickR, f.freeR hJ0, hf, end_until he]
      · intro v hv
        rcases List.mem_or_eq_of_mem_set hv with hv | rfl
        · exact f.pos v hv
        · omega
      · rw [isFree, List.all_append, ← isFree, f.free c t hc ht]
        simp only [pickR, f.freeR hJ0, hf, end_until he, List.all_cons, List.all_nil, Bool.and_true]
        by_cases hck : k = c
        · subst hck
          have e1 : (a.set k (untilP each x.Hear J)).getD k 0 = untilP each x.Hear J := by
            rw [List.getD_eq_getElem?_getD, List.getElem?_set_self hk, Option.getD_some]
          rw [e1]
          simp only [decide_true, Bool.not_true, Bool.false_or]
          rw [Bool.eq_iff_iff]
          simp only [Bool.and_eq_true, decide_eq_true_eq]
          omega
        · have e1 : (a.set k (untilP each x.Hear J)).getD c 0 = a.getD c 0 := by
            rw [List.getD_eq_getElem?_getD, List.getElem?_set_ne hck, ← List.getD_eq_getElem?_getD]
          rw [e1]
          have : ¬ (k : Int) = c := by omega
          simp [this]
theorem serveP_R {each ch : Int} (h1 : 1 ≤ ch) (h2 : ch ≤ 20) (he : 1 ≤ each) (he2 : each ≤ 60) : ∀ {l : List Call} {a : List Int} {out : List Served}, (∀ x ∈ l, callRng x) → Fit ch.toNat a out → serveP each ch.toNat a out l = serveR each ch out l
  | [], a, out, hl, f => rfl
  | x :: l, a, out, hl, f => by
    obtain ⟨e, f'⟩ := f.step h1 h2 he he2 (hl x (by simp))
    rw [serveP, serveR, e]
    exact serveP_R h1 h2 he he2 (fun y hy => hl y (by simp [hy])) f'
theorem serve_same {h : Hour} (ho : HourOk h) : serveP h.book.Each h.channels.toNat (List.replicate 20 0) [] h.calls = serveR h.book.Each h.channels [] h.calls := by
  refine serveP_R ho.c1 ho.c2 ho.e1 ho.e2 ho.rg ⟨by simp, fun v hv => by simp at hv; omega, fun c t hc ht => ?_⟩
  have hc20 : c < 20 := by have := ho.c2; omega
  rw [List.getD_eq_getElem?_getD, List.getElem?_replicate, if_pos hc20, Option.getD_some]
  simp [isFree, ht]
end Go.RS.CC

/- Walks: the program (5): Serve. -/
namespace Go.RS.CC
open Go Go.RS
open Go.RS.Enc (enc dec)
variable {E : VEnv}
open Classical in
noncomputable def serveHF (h : Hour) : Option (List Served) := if HourOk h then some (serveR h.book.Each h.channels [] h.calls) else none
theorem serveHF_eq : serveHF = servePF := by
  funext h
  unfold serveHF servePF
  split
  · rename_i ho; rw [serve_same ho]
  · rfl
theorem w_serveH (hE : E.env.fn = G) : Ok E 51 (s1 serveHF) := by
  rw [serveHF_eq]; exact w_serveP hE
theorem hour_ok {b : Book} {h c : Int} (ha : askedR b h c = 0) : HourOk ⟨b, hourOf b h, c⟩ := by
  obtain ⟨ho, h1, h2, h3, h4⟩ := askedR_zero ha
  have bo := okR_ok ho
  obtain ⟨hm, _⟩ := hourOf_mem h1 h2
  exact ⟨bo.e1, bo.e2, fun x hx => (bo.hc _ hm x hx).1, h3, h4, by have := bo.hl _ hm; show (hourOf b h).length ≤ 1000; omega⟩
theorem serveHF_asked {b : Book} {h c : Int} (ha : askedR b h c = 0) : serveHF ⟨b, hourOf b h, c⟩ = some (serveR b.Each c [] (hourOf b h)) := if_pos (hour_ok ha)
theorem slV_all (n : Nat) : slV n none (some (PV.int .i64 n)) (some (PV.int .i64 n)) = some (0, n, some n) := by
  simp [slV, boundV, numV, mOk]
theorem take_Sv (S : List Served) : List.take (S.length * 3) (encL S) = encL S := List.take_of_length_le (by simp [El.sz])
theorem w_ServeP (hE : E.env.fn = G) : Ok E 16 (s3 fun b h c => some (ServeR b h c)) := by
  refine ok3 fun b h c r hr => ?_
  cases hr
  refine VP.bound fun hb => ?_
  simp [enc_list] at hb
  have good := goodV_cons (w_askedP hE) (goodV_cons (w_serveH hE) goodV_nil)
  refine VP.run (A := F16) (good) [] (by rw [hE]; rfl) (by simp [F16]) ?_; unfold F16; simp (implicitDefEqProofs := false) [enc_list]
  by_cases ha : askedR b h c = 0
  · have hF := serveHF_asked ha
    have ho := hour_ok ha
    have hl : (serveR b.Each c [] (hourOf b h)).length ≤ 1000 := by
      have := ho.ln
      rw [serveR_len]; simpa using this
    generalize hS : serveR b.Each c [] (hourOf b h) = S at *
    have hR : ServeR b h c = (S, 0) := by rw [ServeR, if_pos ha, hS]
    simp (implicitDefEqProofs := false) [enc_list, askedP, ha, hF, hR, spliceV, slV_all, take_Sv]
  · have hR : ServeR b h c = ([], askedR b h c) := by rw [ServeR, if_neg ha]
    simp (implicitDefEqProofs := false) [enc_list, askedP, ha, hR, noHour]
end Go.RS.CC

/- Walks: the program (6): the calls that are joined, one by one. -/
namespace Go.RS.CC
open Go Go.RS
open Go.RS.Enc (enc dec)
variable {E : VEnv}
theorem serveR_pre {each ch : Int} : ∀ (l : List Call) (out : List Served), ∃ t, serveR each ch out l = out ++ t
  | [], out => ⟨[], by simp [serveR]⟩
  | x :: l, out => by
    obtain ⟨t, h⟩ := serveR_pre (each := each) (ch := ch) l (out ++ [oneR each out ch x])
    exact ⟨_, by rw [serveR, h, List.append_assoc]⟩
theorem serveR_at {each ch : Int} : ∀ (l : List Call) (out : List Served) (i : Nat) (hi : i < l.length), ∃ o, (serveR each ch out l)[out.length + i]? = some (oneR each o ch l[i])
  | x :: l, out, 0, hi => by
    obtain ⟨t, h⟩ := serveR_pre (each := each) (ch := ch) l (out ++ [oneR each out ch x])
    exact ⟨out, by rw [serveR, h]; simp⟩
  | x :: l, out, i + 1, hi => by
    obtain ⟨o, h⟩ := serveR_at (each := each) (ch := ch) l (out ++ [oneR each out ch x]) i (by simpa using hi)
    refine ⟨o, ?_⟩
    rw [serveR]
    have e : (out ++ [oneR each out ch x]).length + i = out.length + (i + 1) := by simp; omega
    rw [← e, h]; rfl
theorem oneR_given {each ch : Int} {o : List Served} {x : Call} (hx : callRng x) : oneR each o ch x = givenP x ∨ 0 ≤ (oneR each o ch x).Joined := by
  unfold oneR
  cases hs : seekR o ch (x.Wait + 1).toNat x.At with
  | none => exact .inl rfl
  | some a => obtain ⟨g1, _⟩ := seekR_rng hs; obtain ⟨x1, _⟩ := hx; exact .inr (by simp [pickR]; omega)
theorem served_at {h : Hour} (ho : HourOk h) {S : List Served} (hS : serveR h.book.Each h.channels [] h.calls = S) {i : Nat} (hi : i < S.length) (hc : i < h.calls.length) : S[i] = givenP h.calls[i] ∧ S[i].Joined = -1 ∨ 0 ≤ S[i].Joined := by
  obtain ⟨o, g⟩ := serveR_at (each := h.book.Each) (ch := h.channels) h.calls [] i hc
  rw [hS] at g
  simp only [List.length_nil, Nat.zero_add] at g
  rw [List.getElem?_eq_getElem hi] at g
  have := Option.some.inj g
  rw [this]
  rcases oneR_given (each := h.book.Each) (ch := h.channels) (o := o) (ho.rg _ (List.getElem_mem hc)) with h1 | h1
  · exact .inl ⟨h1, by rw [h1]; rfl⟩
  · exact .inr h1
theorem get_pre {α : Type} {pre : List α} {n : Nat} (h : pre.length = n) (l : List α) (i : Nat) : (pre ++ l)[n + i]? = l[i]? := by
  subst h; rw [List.getElem?_append_right (by omega)]; congr 1; omega
theorem get_pre0 {α : Type} {pre : List α} {n : Nat} (h : pre.length = n) (l : List α) : (pre ++ l)[n]? = l[0]? := get_pre h l 0
theorem set_pre {α : Type} {pre : List α} {n : Nat} (h : pre.length = n) (l : List α) (i : Nat) (x : α) : (pre ++ l).set (n + i) x = pre ++ l.set i x := by
  subst h; rw [List.set_append_right _ _ (by omega)]; congr 2; omega
theorem set_pre0 {α : Type} {pre : List α} {n : Nat} (h : pre.length = n) (l : List α) (x : α) : (pre ++ l).set n x = pre ++ l.set 0 x := set_pre h l 0 x
theorem get_hr {α : Type} {pre : List α} {b : Nat} {x : α} (h : pre[b]? = some x) (l : List α) : (pre ++ l)[b]? = some x := by
  rw [List.getElem?_append_left (List.getElem?_eq_some_iff.1 h).1, h]
theorem vc_joined (hE : E.env.fn = G) {g : Bool} {M : VM} {h : Hour} {K : PV → VM → Prop} (hg : g = false) (hk : K (.func 75 [] [.ptr M.length 8 0]) (M ++ [hrc h])) : VC E g (.func 62 [] []) [.agg (El.cells h)] M K := by
  subst hg
  refine VC.func (A := F62) (by rw [hE]; rfl) (by simp [F62]) ?_
  unfold F62
  refine VW.run goodV_nil [] ?_
  simp (implicitDefEqProofs := false) [enc_list]
  exact hk
theorem spc_yield (sp : Spec) (M : VM) (t : Nat) (args : List PV) : spc sp M (.yield t) args = none := rfl
theorem pend_jump (e : AExit) : pendExit e.jump = e := by cases e <;> rfl
theorem cut_pre {f : VFr} {l : List (Nat × PV)} {pre : VM} {L0 : VObj} {ext : VM} {n0 : Nat} (hl : pre.length = n0) (hu : ∀ o ∈ pre, o.und (n0 + 1)) (h0 : L0.und (n0 + 1)) (hs : ∀ p ∈ l, (f p.1).le p.2 ∧ p.2.und (n0 + 1) = true) : Cut (n0 + 1) f (pre ++ L0 :: ext) l (pre ++ [L0]) := by
  subst hl
  have e : pre ++ [L0] = (forgetL [] (pre ++ L0 :: ext)).take (pre.length + 1) := by
    rw [forgetL_nil, List.take_append, List.take_of_length_le (by omega)]; simp
  refine ⟨pre.length + 1, [], e, Nat.le_refl _, by simp, hs, ?_⟩
  rw [← e]
  intro o ho
  rcases List.mem_append.1 ho with ho | ho
  · exact hu o ho
  · simp at ho; exact ho ▸ h0
theorem VW.rangeJ (hE : E.env.fn = G) {f : Opd} {ps : List Nat} {assign body : ACode} {b n0 k : Nat} {h : Hour} {fr : VFr} {M : VM} {Q : AExit → VFr → VM → Prop} {S : List Served} (J : Nat → VM → Prop) (D : AExit → VM → Prop)
    (hf : f.evV E fr = .func 75 [] [.ptr b 8 0]) (ho : HourOk h) (hS : serveR h.book.Each h.channels [] h.calls = S) (hps : ps.length = 2) (hfr : ∀ i, (fr i).und (n0 + 1) = true) (hM : M.length = n0) (h0 : J 0 M)
    (hJ : ∀ i pre, J i pre → pre.length = n0 ∧ pre[b]? = some (hrc h) ∧ ∀ o ∈ pre, o.und (n0 + 1))
    (skip : ∀ i pre (hi : i < S.length), J i pre → S[i].Joined < 0 → J (i + 1) pre)
    (step : ∀ i pre (hi : i < S.length) (hc : i < h.calls.length), J i pre → 0 ≤ S[i].Joined → ∀ (c3 c7 : List PV) (Lr Lb : VObj), (∀ n, (∀ i, (fr i).und n = true) → Lb.und n) →
      VW E (n0 + 3) assign (setParamsV fr ps [.int .i64 i, .agg (El.cells (JCall.mk h.calls[i] S[i]))]) (pre ++ [Lr, .cells c3, .cells c7]) fun e fr1 M1 => e = .normal ∧ ∃ ext, M1 = pre ++ ([Lr, .cells c3, .cells c7] ++ ext) ∧
        VW E (n0 + 3) body fr1 (pre ++ ([Lb, .cells c3, .cells c7] ++ ext)) fun e fr2 M2 => ∃ pre2 ext2, M2 = pre2 ++ Lb :: ext2 ∧ pre2.length = n0 ∧ ((e = .normal ∧ J (i + 1) pre2) ∨ (e ≠ .normal ∧ D e pre2)))
    (fin : ∀ pre L ext, J S.length pre → Q .normal fr (pre ++ .loop L :: ext))
    (out : ∀ e pre L ext, D e pre → pre.length = n0 → e ≠ .normal → Q e fr (pre ++ .loop L :: ext)) : VW E k (.rangeFunc f ps assign body) fr M Q := by
  have hSl : S.length = h.calls.length := by rw [← hS, serveR_len]; simp
  have hln := ho.ln
  have hF : serveHF h = some S := by rw [← hS]; exact if_pos ho
  have good := goodV_cons (w_serveH hE) (goodV_cons (w_given hE) goodV_nil)
  refine VW.rangeFunc hf (VC.func (A := F75) (by rw [hE]; rfl) (by simp [F75]) ?_)
  obtain ⟨hl0, hb0, hu0⟩ := hJ 0 M h0
  have hlen : (M ++ [VObj.loop ⟨fr, ps, assign, body, .ready, none⟩]).length = n0 + 1 := by simp [hM]
  rw [hlen, hM]
  generalize hL0 : VObj.loop ⟨fr, ps, assign, body, .ready, none⟩ = L0 at *
  have hu : L0.und (n0 + 1) := by rw [← hL0]; exact hfr
  unfold F75
  refine VW.run good [] ?_
  simp (implicitDefEqProofs := false) [enc_list, get_hr hb0, hF]
  obtain ⟨Inv, hI⟩ : ∃ Inv : Nat → List (Nat × PV) → VM → Prop, ∀ i l m, Inv i l m ↔ (∃ pre, J i pre ∧ l = [(0, .yield n0), (1, .ptr b 8 0), (7, enc S), (8, .int .i64 S.length), (9, .int .i64 i)] ∧ m = pre ++ [L0]) := ⟨_, fun _ _ _ => Iff.rfl⟩
  refine VW.loop_cut Inv S.length ?_ ?_ ?_
  · have hb1 : b < n0 + 1 := by have := (List.getElem?_eq_some_iff.1 hb0).1; omega
    exact ⟨_, _, (hI _ _ _).2 ⟨M, h0, rfl, rfl⟩, cut_pre hM hu0 hu (by simp (implicitDefEqProofs := false) [enc_list, hb1])⟩
  · intro i l m hi hv
    obtain ⟨pre, hj, rfl, rfl⟩ := (hI _ _ _).1 hv
    have hc : i < h.calls.length := by omega
    obtain ⟨hl, hb, hup⟩ := hJ i pre hj
    have hbn : b < n0 + 1 := by have := (List.getElem?_eq_some_iff.1 hb).1; omega
    have w1 : IntKind.i64.wrap ((i : Int) + 1) = i + 1 := wrap64 (by omega) (by omega)
    have hx := ho.rg _ (List.getElem_mem hc)
    have hsv := served_at ho hS hi hc
    have hst := step i pre hi hc hj
    have hsk := skip i pre hi hj
    generalize hs : S[i] = s at *
    generalize hcx : h.calls[i] = x at *
    by_cases hneg : s.Joined < 0
    · have hg : s = givenP x := by
        rcases hsv with ⟨h1, _⟩ | h1
        · exact h1
        · omega
      refine VW.run good [] ?_; simp (implicitDefEqProofs := false) [enc_list, hi, hc, get_hr hb, get_pre hl, get_pre0 hl, set_pre hl, get_Served S i hi, hs, get_Call h.calls i hc, hcx, hx, spliceV, w1, hg, givenP]
      exact ⟨_, _, (hI _ _ _).2 ⟨pre, hsk hneg, rfl, rfl⟩, cut_pre hl hup hu (by simp (implicitDefEqProofs := false) [enc_list, hbn])⟩
    · have hg : (s.Joined == -1) = false := by simp; omega
      refine VW.run good [] ?_; simp (implicitDefEqProofs := false) [enc_list, hi, hc, get_hr hb, get_pre hl, get_pre0 hl, set_pre hl, get_Served S i hi, hs, get_Call h.calls i hc, hcx, hx, spliceV, w1, hg, givenP, spc_yield]
      refine VC.yield (L := ⟨fr, ps, assign, body, .ready, none⟩) (by rw [get_pre0 hl]; simp [hL0]) (by simp [hps]) ?_
      have hM3 : ∀ a c : VObj, (pre ++ [L0, a, c]).length = n0 + 3 := fun a c => by simp [hl]
      rw [hM3]
      refine (hst (by omega) _ _ L0 (.loop ⟨fr, ps, assign, body, .busy, none⟩) (fun n hn => hn)).mono ?_
      rintro e fr1 M1 ⟨rfl, ext, rfl, hbody⟩
      refine ⟨rfl, ⟨fr, ps, assign, body, .ready, none⟩, by rw [get_pre0 hl]; simp [hL0], rfl, ?_⟩
      rw [set_pre0 hl]
      refine hbody.mono ?_
      rintro e fr2 M2 ⟨pre2, ext2, rfl, hl2, hres⟩
      refine ⟨⟨fr, ps, assign, body, .busy, none⟩, by rw [get_pre0 hl2]; rfl, ?_⟩
      rw [set_pre0 hl2]
      rcases hres with ⟨rfl, hj2⟩ | ⟨hne, hd⟩
      · simp (implicitDefEqProofs := false) [enc_list, AExit.goesOn, AExit.stateAfter, AExit.jump, hL0, w1]
        obtain ⟨_, _, hu2⟩ := hJ _ _ hj2
        exact ⟨_, _, (hI _ _ _).2 ⟨pre2, hj2, rfl, rfl⟩, cut_pre hl2 hu2 hu (by simp (implicitDefEqProofs := false) [enc_list, hbn])⟩
      · have hgo : e.goesOn = false := by cases e <;> simp_all [AExit.goesOn]
        have hstt : ¬ e.stateAfter = LoopState.busy := by cases e <;> simp [AExit.stateAfter]
        simp (implicitDefEqProofs := false) [enc_list, hgo, get_pre0 hl2, set_pre0 hl2, pend_jump, hstt]
        exact out e pre2 _ _ hd hl2 hne
  · intro l m hv
    obtain ⟨pre, hj, rfl, rfl⟩ := (hI _ _ _).1 hv
    obtain ⟨hl, hb, hup⟩ := hJ _ pre hj
    have hfin := fin pre
    refine VW.run good [] ?_; simp (implicitDefEqProofs := false) [enc_list, get_pre0 hl, set_pre0 hl]
    exact ⟨_, hL0.symm, by simp, hfin _ [] hj⟩
end Go.RS.CC

/- Walks: the program (7): the calls that are given up. -/
namespace Go.RS.CC
open Go Go.RS
open Go.RS.Enc (enc dec)
variable {E : VEnv}
theorem mkF_und {l : List (Nat × PV)} {j : Nat} (h : ∀ p ∈ l, p.2.und j = true) (i : Nat) : (mkF l i).und j = true := by
  rcases mkF_mem (l := l) (i := i) with h1 | h1
  · rw [h1]; rfl
  · exact h _ h1
def joinedAt (S : List Served) (n : Nat) : Bool := decide (0 ≤ (S.getD n ⟨-1, 0, 0⟩).Joined)
def seen (S : List Served) : Nat → List (PV × PV × Nat)
  | 0 => []
  | n + 1 => if joinedAt S n then seen S n ++ [(.int .i64 n, .bool true, (seen S n).length)] else seen S n
theorem find_append (s : KS) (k : PV) (e : PV × PV × Nat) : ∀ (es : List (PV × PV × Nat)) (j : Nat), findKV s k (es ++ [e]) j = match findKV s k es j with | some none => findKV s k [e] (j + es.length) | x => x
  | [], j => by simp [findKV]
  | x :: es, j => by
    simp only [List.cons_append, findKV]
    cases keyEqV s k x.1 with
    | none => rfl
    | some b =>
      cases b with
      | true => rfl
      | false =>
        rw [find_append s k e es (j + 1)]
        simp only [List.length_cons]
        rw [show j + 1 + es.length = j + (es.length + 1) by omega]
        rfl
theorem key_int (a b : Nat) : keyEqV (.one .int) (.int .i64 (a : Int)) (.int .i64 (b : Int)) = some (decide (a = b)) := by
  simp [keyEqV, atomEqV]
  rw [Bool.eq_iff_iff]; simp
theorem find_new {S : List Served} {n : Nat} : ∀ (i j : Nat), i ≤ n ∨ joinedAt S n = false → findKV (.one .int) (.int .i64 n) (seen S i) j = some none
  | 0, j, h => rfl
  | i + 1, j, h => by
    rw [seen]
    split
    · rename_i hj
      rw [find_append, find_new i j (by rcases h with h | h; exact .inl (by omega); exact .inr h)]
      simp only [findKV, key_int]
      have : n ≠ i := by
        rintro rfl
        rcases h with h | h
        · omega
        · rw [h] at hj; cases hj
      simp [this]
    · exact find_new i j (by rcases h with h | h; exact .inl (by omega); exact .inr h)
theorem find_old {S : List Served} {n : Nat} (hj : joinedAt S n = true) : ∀ (i j : Nat), n < i → ∃ p, findKV (.one .int) (.int .i64 n) (seen S i) j = some (some (p, .bool true))
  | i + 1, j, h => by
    rw [seen]
    by_cases hni : n = i
    · subst hni
      rw [if_pos hj, find_append, find_new n j (.inl (Nat.le_refl _))]
      simp [findKV, key_int]
    · obtain ⟨p, hp⟩ := find_old hj i j (by omega)
      split
      · rw [find_append, hp]; exact ⟨p, rfl⟩
      · exact ⟨p, hp⟩
theorem seen_und {S : List Served} (j : Nat) : ∀ (i : Nat), ∀ e ∈ seen S i, e.1.und j = true ∧ e.2.1.und j = true
  | 0, e, he => by cases he
  | i + 1, e, he => by
    rw [seen] at he
    split at he
    · rcases List.mem_append.1 he with he | he
      · exact seen_und j i e he
      · simp at he; subst he; exact ⟨rfl, rfl⟩
    · exact seen_und j i e he
theorem keyOk_int (a : Int) : keyOkV (.one .int) (.int .i64 a) = true := by simp [keyOkV, keyEqV, atomEqV]
open Classical in
noncomputable def lostHF (h : Hour) : Option (List Int) := if HourOk h then some (lostL 0 (serveR h.book.Each h.channels [] h.calls)) else none
theorem w_lostP (hE : E.env.fn = G) : Ok E 57 (s1 lostHF) := by
  refine ok1 fun h r hr => ?_
  unfold lostHF at hr
  split at hr
  · rename_i ho
    cases hr
    generalize hS : serveR h.book.Each h.channels [] h.calls = S
    have hSl : S.length = h.calls.length := by rw [← hS, serveR_len]; simp
    have hln := ho.ln
    refine VP.run (A := F57) (goodV_nil) [] (by rw [hE]; rfl) (by simp [F57]) ?_; unfold F57; simp (implicitDefEqProofs := false) [enc_list, spliceV]
    unfold VCo
    refine vc_joined (h := h) hE rfl ?_
    simp (implicitDefEqProofs := false) [enc_list]
    refine .ofCut (l := [(1, .ptr 0 8 0), (2, .nilS), (3, .ptr 2 1 0), (9, .func 75 [] [.ptr 3 8 0])]) (M := [hrc h, .map [] 0, .cells [.map 1], hrc h]) ⟨4, [], by simp [enc_list], by simp, by simp, by simp (implicitDefEqProofs := false) [enc_list], by simp (implicitDefEqProofs := false) [enc_list]⟩ ?_
    refine VW.rangeJ (b := 3) (n0 := 4) (h := h) hE (fun i pre => pre = [hrc h, .map (seen S i) (seen S i).length, .cells [.map 1], hrc h]) (fun _ _ => False) (by simp) ho hS rfl (mkF_und (by simp)) rfl rfl ?_ ?_ ?_ ?_ ?_
    · rintro i pre rfl
      exact ⟨rfl, rfl, by simp [enc_list]; exact fun a b c he => seen_und 5 i (a, b, c) he⟩
    · rintro i pre hi rfl hj
      have : joinedAt S i = false := by unfold joinedAt; rw [List.getD_eq_getElem?_getD, List.getElem?_eq_getElem hi]; simp; omega
      rw [seen, this]; rfl
    · rintro i pre hi hc rfl hj c3 c7 Lr Lb hLb
      have : joinedAt S i = true := by unfold joinedAt; rw [List.getD_eq_getElem?_getD, List.getElem?_eq_getElem hi]; simpa using hj
      refine VW.run goodV_nil [] ?_; simp (implicitDefEqProofs := false) [enc_list, setParamsV]
      refine VW.run goodV_nil [] ?_; simp (implicitDefEqProofs := false) [enc_list, keyOk_int, find_new i 0 (.inl (Nat.le_refl i)), updMapV]
      simp [seen, this]
    · rintro pre L ext rfl
      simp (implicitDefEqProofs := false) [enc_list]
      refine .ofCut (l := [(1, .ptr 0 8 0), (2, .nilS), (3, .ptr 2 1 0)]) (M := [hrc h, .map (seen S S.length) (seen S S.length).length, .cells [.map 1]]) ⟨3, [], by simp [enc_list], by simp, by simp, by simp (implicitDefEqProofs := false) [enc_list], by simp (implicitDefEqProofs := false) [enc_list]; exact fun a b c he => seen_und 3 _ (a, b, c) he⟩ ?_
      refine VW.seq (VW.run goodV_nil [] ?_); simp (implicitDefEqProofs := false) [enc_list]
      refine VW.declare 5 1 (by simp) ?_
      refine VW.run goodV_nil [] ?_; simp (implicitDefEqProofs := false) [enc_list]
      refine VW.loop_to 2 [(5, sl1 3 (lostL 0 S))] [hrc h, .map (seen S S.length) (seen S S.length).length, .cells [.map 1], .vec (encL (lostL 0 S))] (True) ?_ (fun hp f m hc => ?_)
      · obtain ⟨Inv, hI⟩ : ∃ Inv : Nat → List (Nat × PV) → VM → Prop, ∀ k f m, Inv k f m ↔ (∃ out : List Int, f = [(3, .ptr 2 1 0), (5, sl1 3 out), (16, .int .i64 S.length), (17, .int .i64 k)] ∧ m = [hrc h, .map (seen S S.length) (seen S S.length).length, .cells [.map 1], .vec (encL out)] ∧ out.length ≤ k ∧ lostL 0 S = out ++ lostL k (S.drop k)) := ⟨_, fun _ _ _ => Iff.rfl⟩
        refine VW.loop_cut Inv S.length ?_ ?_ ?_
        · exact ⟨_, _, (hI _ _ _).2 ⟨[], rfl, rfl, by simp, rfl⟩, ⟨4, [], by simp [enc_list], by simp, by simp, by simp (implicitDefEqProofs := false) [enc_list, hSl], by simp (implicitDefEqProofs := false) [enc_list]; exact fun a b c he => seen_und 4 _ (a, b, c) he⟩⟩
        · intro k f m hk hi
          obtain ⟨out, rfl, rfl, hol, hs⟩ := (hI _ _ _).1 hi
          have w1 : IntKind.i64.wrap ((k : Int) + 1) = k + 1 := wrap64 (by omega) (by omega)
          rw [List.drop_eq_getElem_cons hk, lostL] at hs
          have hf : fits (out.length + 1) 8 = true := fits8 (by omega)
          have hja : joinedAt S k = decide (0 ≤ S[k].Joined) := by unfold joinedAt; rw [List.getD_eq_getElem?_getD, List.getElem?_eq_getElem hk]; rfl
          by_cases hj : S[k].Joined < 0
          · rw [if_pos hj] at hs
            have hn := find_new (S := S) (n := k) S.length 0 (.inr (by rw [hja]; simp; omega))
            refine VW.run goodV_nil [] ?_; simp (implicitDefEqProofs := false) [enc_list, hk, hf, w1, spliceV, keyOk_int, hn, mapEsV, lookResV, PV.ofV]
            have e1 : (out ++ [(k : Int)]).length = out.length + 1 := by simp
            exact ⟨_, _, (hI _ _ _).2 ⟨out ++ [(k : Int)], rfl, rfl, by rw [e1]; omega, by rw [hs]; simp⟩, ⟨4, [], by simp [enc_list], by simp, by simp, by simp (implicitDefEqProofs := false) [enc_list, hSl, e1], by simp (implicitDefEqProofs := false) [enc_list]; exact fun a b c he => seen_und 4 _ (a, b, c) he⟩⟩
          · rw [if_neg hj] at hs
            obtain ⟨p, hp⟩ := find_old (S := S) (n := k) (by rw [hja]; simp; omega) S.length 0 hk
            refine VW.run goodV_nil [] ?_; simp (implicitDefEqProofs := false) [enc_list, hk, hf, w1, spliceV, keyOk_int, hp, mapEsV, lookResV]
            exact ⟨_, _, (hI _ _ _).2 ⟨out, rfl, rfl, by omega, hs⟩, ⟨4, [], by simp [enc_list], by simp, by simp, by simp (implicitDefEqProofs := false) [enc_list, hSl], by simp (implicitDefEqProofs := false) [enc_list]; exact fun a b c he => seen_und 4 _ (a, b, c) he⟩⟩
        · intro f m hi
          obtain ⟨out, rfl, rfl, hol, hs⟩ := (hI _ _ _).1 hi
          rw [List.drop_length, lostL, List.append_nil] at hs
          refine VW.run goodV_nil [] ?_; simp (implicitDefEqProofs := false) [enc_list]
          exact ⟨4, [], by simp [enc_list, hs], by simp, by simp, by simp (implicitDefEqProofs := false) [enc_list, hs], by simp (implicitDefEqProofs := false) [enc_list]; exact fun a b c he => seen_und 4 _ (a, b, c) he⟩
      · simp (implicitDefEqProofs := false); refine .ofCut hc (VW.run goodV_nil [] ?_); simp (implicitDefEqProofs := false) [enc_list]
    · intro e pre L ext hf; exact hf.elim
  · cases hr
theorem lostHF_asked {b : Book} {h c : Int} (ha : askedR b h c = 0) : lostHF ⟨b, hourOf b h, c⟩ = some (lostL 0 (serveR b.Each c [] (hourOf b h))) := if_pos (hour_ok ha)
theorem take_In (S : List Int) : List.take S.length (encL S) = encL S := List.take_of_length_le (by simp [El.sz])
theorem w_LostP (hE : E.env.fn = G) : Ok E 21 (s3 fun b h c => some (LostR b h c)) := by
  refine ok3 fun b h c r hr => ?_
  cases hr
  have good := goodV_cons (w_askedP hE) (goodV_cons (w_lostP hE) goodV_nil)
  refine VP.run (A := F21) (good) [] (by rw [hE]; rfl) (by simp [F21]) ?_; unfold F21; simp (implicitDefEqProofs := false) [enc_list]
  by_cases ha : askedR b h c = 0
  · have hF := lostHF_asked ha
    have hR : LostR b h c = (lostL 0 (serveR b.Each c [] (hourOf b h)), 0) := by simp [LostR, ServeR, ha]
    generalize hS : lostL 0 (serveR b.Each c [] (hourOf b h)) = S at *
    simp (implicitDefEqProofs := false) [enc_list, askedP, ha, hF, hR, spliceV, slV_all, take_In]
  · have hR : LostR b h c = ([], askedR b h c) := by simp [LostR, ServeR, ha]
    simp (implicitDefEqProofs := false) [enc_list, askedP, ha, hR, noHour]
end Go.RS.CC

/- Walks: the program (8): what a caller hears. -/
namespace Go.RS.CC
open Go Go.RS
open Go.RS.Enc (enc dec)
variable {E : VEnv}
theorem served_ok {h : Hour} (ho : HourOk h) {S : List Served} (hS : serveR h.book.Each h.channels [] h.calls = S) {i : Nat} (hi : i < S.length) (hc : i < h.calls.length) :
    SvOk S[i] ∧ (0 ≤ S[i].Joined → S[i].Left = untilP h.book.Each h.calls[i].Hear S[i].Joined) := by
  obtain ⟨o, g⟩ := serveR_at (each := h.book.Each) (ch := h.channels) h.calls [] i hc
  rw [hS] at g
  simp only [List.length_nil, Nat.zero_add] at g
  rw [List.getElem?_eq_getElem hi] at g
  have e := Option.some.inj g
  rw [e]
  have hx := ho.rg _ (List.getElem_mem hc)
  refine ⟨oneR_ok ho.e1 ho.e2 hx, ?_⟩
  unfold oneR
  cases hs : seekR o h.channels (h.calls[i].Wait + 1).toNat h.calls[i].At with
  | none => intro hj; simp [pickR] at hj
  | some a => intro _; simp [pickR, end_until ho.e1]
theorem w_HeardP (hE : E.env.fn = G) : Ok E 29 (s4 fun b h c k => some (HeardR b h c k)) := by
  refine ok4 fun b h c k r hr => ?_
  cases hr
  refine VP.bound fun hb => ?_
  simp [enc_list] at hb
  have good := goodV_cons (w_askedP hE) (goodV_cons (w_within hE) (goodV_cons (w_up hE) goodV_nil))
  refine VP.run (A := F29) (good) [] (by rw [hE]; rfl) (by simp [F29]) ?_; unfold F29; simp (implicitDefEqProofs := false) [enc_list, spliceV]
  by_cases ha : askedR b h c = 0
  · have ho := hour_ok ha
    generalize hq : hourOf b h = q at *
    generalize hS : serveR b.Each c [] q = S
    have hR : ServeR b h c = (S, 0) := by rw [ServeR, if_pos ha, hq, hS]
    have hSl : S.length = q.length := by rw [← hS, serveR_len]; simp
    have hln : q.length ≤ 1000 := ho.ln
    have hlm : lenm S.length = (q.length : Int) - 1 := by rw [hSl]; exact wrap64 (by omega) (by omega)
    have hlm' : IntKind.i64.wrap ((q.length : Int) - 1) = (q.length : Int) - 1 := wrap64 (by omega) (by omega)
    have hH : HeardR b h c k = (if wi k 0 ((q.length : Int) - 1) then
      (if (S.getD k.toNat ⟨0, 0, 0⟩).Joined < 0 then (⟨0, 0⟩, 4)
       else (⟨(S.getD k.toNat ⟨0, 0, 0⟩).Left - (q.getD k.toNat ⟨0, 0, 0, 0⟩).Hear * b.Each, (S.getD k.toNat ⟨0, 0, 0⟩).Left - b.Each⟩, 0))
     else (⟨0, 0⟩, 91)) := by unfold HeardR; rw [hR, hlm, hq]; rfl
    rw [hH]
    simp (implicitDefEqProofs := false) [enc_list, askedP, ha, hq, hlm', spliceV]
    by_cases hk : wi k 0 ((q.length : Int) - 1) = true
    · have hk' := (wi_iff _ _ _).1 hk
      have hks : k.toNat < S.length := by omega
      have hkq : k.toNat < q.length := by omega
      have gs : S[k.toNat]? = some S[k.toNat] := List.getElem?_eq_getElem hks
      have gq : q[k.toNat]? = some q[k.toNat] := List.getElem?_eq_getElem hkq
      obtain ⟨sok, sleft⟩ := served_ok ho hS hks hkq
      simp (implicitDefEqProofs := false) [enc_list, hk, gs, gq, spliceV]
      unfold VCo
      refine vc_joined (h := ⟨b, q, c⟩) hE rfl ?_
      simp (implicitDefEqProofs := false) [enc_list]
      obtain ⟨M0, hM0⟩ : ∃ M0 : VM, M0 = [bkc b, .cells [.int .i64 k], .cells [.int .i64 0, .int .i64 0], .cells [.int .i64 0], hrc ⟨b, q, c⟩, hrc ⟨b, q, c⟩] := ⟨_, rfl⟩
      obtain ⟨M1, hM1⟩ : ∃ M1 : VM, M1 = [bkc b, .cells [.int .i64 k], .cells [.int .i64 (upP b.Each S[k.toNat].Joined), .int .i64 (S[k.toNat].Left - b.Each)], .cells [.int .i64 0], hrc ⟨b, q, c⟩, hrc ⟨b, q, c⟩] := ⟨_, rfl⟩
      refine .ofCut (l := [(4, .ptr 0 6 0), (7, .ptr 1 1 0), (8, .ptr 2 2 0), (9, .ptr 3 1 0), (10, .ptr 4 8 0), (34, .func 75 [] [.ptr 5 8 0])]) (M := M0) (by subst hM0; exact ⟨6, [], by simp [enc_list], by simp, by simp, by simp (implicitDefEqProofs := false) [enc_list], by simp (implicitDefEqProofs := false) [enc_list]⟩) ?_
      refine VW.rangeJ (b := 5) (n0 := 6) (h := ⟨b, q, c⟩) hE (fun i pre => pre = M0 ∧ (i ≤ k.toNat ∨ S[k.toNat].Joined < 0)) (fun e pre => e = .ret ∧ 0 ≤ S[k.toNat].Joined ∧ pre = M1) (by simp) ho hS rfl (mkF_und (by simp)) (by rw [hM0]; rfl) ⟨rfl, .inl (Nat.zero_le _)⟩ ?_ ?_ ?_ ?_ ?_
      · rintro i pre ⟨rfl, _⟩
        subst hM0
        exact ⟨rfl, rfl, by simp [enc_list]⟩
      · rintro i pre hi ⟨rfl, hor⟩ hj
        refine ⟨rfl, ?_⟩
        rcases hor with h1 | h1
        · by_cases hik : i = k.toNat
          · subst hik; exact .inr hj
          · exact .inl (by omega)
        · exact .inr h1
      · rintro i pre hi hc ⟨rfl, hor⟩ hj c3 c7 Lr Lb hLb
        subst hM0
        refine VW.run good [] ?_; simp (implicitDefEqProofs := false) [enc_list, setParamsV]
        by_cases hik : i = k.toNat
        · subst hik
          have hk1 : (k.toNat : Int) = k := by omega
          obtain ⟨so1, so2, so3, so4, so5⟩ := sok
          have e1 := ho.e1
          have e2 := ho.e2
          simp only at e1 e2
          have w3 : IntKind.i64.wrap (S[k.toNat].Left - b.Each) = S[k.toNat].Left - b.Each := wrap64 (by omega) (by omega)
          have hcu : 1 ≤ b.Each ∧ b.Each ≤ 60 ∧ 0 ≤ S[k.toNat].Joined ∧ S[k.toNat].Joined ≤ 7199 := ⟨e1, e2, hj, so2⟩
          refine VW.run good [] ?_; simp (implicitDefEqProofs := false) [enc_list, hk1, hcu, w3, spliceV]
          subst hM1
          exact ⟨⟨_, rfl⟩, rfl⟩
        · have hk1 : ¬ (i : Int) = k := by omega
          refine VW.run good [] ?_; simp (implicitDefEqProofs := false) [enc_list, hk1]
          refine ⟨[bkc b, .cells [.int .i64 k], .cells [.int .i64 0, .int .i64 0], .cells [.int .i64 0], hrc ⟨b, q, c⟩, hrc ⟨b, q, c⟩], ⟨_, rfl⟩, rfl, rfl, ?_⟩
          rcases hor with h1 | h1
          · exact .inl (by omega)
          · exact .inr h1
      · rintro pre L ext ⟨rfl, hor⟩
        subst hM0
        have hj : S[k.toNat].Joined < 0 := by rcases hor with h1 | h1; omega; exact h1
        rw [if_pos hj]
        simp (implicitDefEqProofs := false) [enc_list]
        refine VW.run good [] ?_; simp (implicitDefEqProofs := false) [enc_list, spliceV]
      · rintro e pre L ext ⟨rfl, hj, rfl⟩ hl hne
        subst hM1
        have hl2 := sleft hj
        have hlow : upP b.Each S[k.toNat].Joined = S[k.toNat].Left - q[k.toNat].Hear * b.Each := by rw [hl2]; show _ = untilP b.Each q[k.toNat].Hear _ - _; unfold untilP; omega
        rw [if_neg (by omega), ← hlow]
        simp (implicitDefEqProofs := false) [enc_list]
    · simp (implicitDefEqProofs := false) [enc_list, hk, spliceV]
  · have hR : HeardR b h c k = (⟨0, 0⟩, askedR b h c) := by simp [HeardR, ServeR, ha]
    simp (implicitDefEqProofs := false) [enc_list, askedP, ha, hR, noHour, spliceV]
end Go.RS.CC

/- Walks: the program (9): when most calls are joined. -/
namespace Go.RS.CC
open Go Go.RS
open Go.RS.Enc (enc dec)
variable {E : VEnv}
def inAt (a : Int) (s : Served) : Bool := decide (0 ≤ s.Joined) && decide (s.Joined ≤ a) && decide (a < s.Left)
theorem joinedR_eq (S : List Served) (a : Int) : joinedR S a = S.countP (inAt a) := rfl
/-- The first time at which most are joined, in the calls' order. -/
def busyP (S : List Served) : List Served → Int × Int → Int × Int
  | [], r => r
  | s :: l, r => busyP S l (if 0 ≤ s.Joined ∧ r.1 < joinedR S s.Joined then (joinedR S s.Joined, s.Joined) else r)
theorem count_take {S : List Served} {p : Served → Bool} {j : Nat} (hj : j < S.length) : (S.take (j + 1)).countP p = (S.take j).countP p + (if p S[j] = true then 1 else 0) := by
  rw [List.take_succ_eq_append_getElem hj, List.countP_append, List.countP_singleton]
def BusyPR (b : Book) (h c : Int) : T3 Int Int Int :=
  if askedR b h c = 0 then (if (busyP (ServeR b h c).1 (ServeR b h c).1 (0, 0)).1 = 0 then ⟨0, 0, 4⟩ else ⟨(busyP (ServeR b h c).1 (ServeR b h c).1 (0, 0)).1, (busyP (ServeR b h c).1 (ServeR b h c).1 (0, 0)).2, 0⟩) else ⟨0, 0, askedR b h c⟩
theorem w_BusyP (hE : E.env.fn = G) : Ok E 27 (s3 fun b h c => some (BusyPR b h c)) := by
  refine ok3 fun b h c r hr => ?_
  cases hr
  refine VP.bound fun hb => ?_
  simp [enc_list] at hb
  have good := goodV_cons (w_askedP hE) goodV_nil
  refine VP.run (A := F27) (good) [] (by rw [hE]; rfl) (by simp [F27]) ?_; unfold F27; simp (implicitDefEqProofs := false) [enc_list, spliceV]
  by_cases ha : askedR b h c = 0
  · have ho := hour_ok ha
    generalize hq : hourOf b h = q at *
    generalize hS : serveR b.Each c [] q = S
    have hR : ServeR b h c = (S, 0) := by rw [ServeR, if_pos ha, hq, hS]
    have hSl : S.length = q.length := by rw [← hS, serveR_len]; simp
    have hln : q.length ≤ 1000 := ho.ln
    have hB : BusyPR b h c = (if (busyP S S (0, 0)).1 = 0 then ⟨0, 0, 4⟩ else ⟨(busyP S S (0, 0)).1, (busyP S S (0, 0)).2, 0⟩) := by unfold BusyPR; rw [if_pos ha, hR]
    rw [hB]
    generalize hT : busyP S S (0, 0) = T
    simp (implicitDefEqProofs := false) [enc_list, askedP, ha, hq, spliceV]
    unfold VCo
    refine vc_joined (h := ⟨b, q, c⟩) hE rfl ?_
    simp (implicitDefEqProofs := false) [enc_list]
    refine .ofCut (l := [(6, .ptr 1 1 0), (7, .ptr 2 1 0), (8, .int .i64 0), (9, .ptr 3 8 0), (26, .func 75 [] [.ptr 4 8 0])]) (M := [bkc b, .cells [.int .i64 0], .cells [.int .i64 0], hrc ⟨b, q, c⟩, hrc ⟨b, q, c⟩]) ⟨5, [], by simp [enc_list], by simp, by simp, by simp (implicitDefEqProofs := false) [enc_list], by simp (implicitDefEqProofs := false) [enc_list]⟩ ?_
    refine VW.rangeJ (b := 4) (n0 := 5) (h := ⟨b, q, c⟩) hE (fun i pre => ∃ r : Int × Int, pre = [bkc b, .cells [.int .i64 r.1], .cells [.int .i64 r.2], hrc ⟨b, q, c⟩, hrc ⟨b, q, c⟩] ∧ T = busyP S (S.drop i) r) (fun e pre => False) (by simp) ho hS rfl (mkF_und (by simp)) rfl ⟨(0, 0), rfl, hT.symm⟩ ?_ ?_ ?_ ?_ ?_
    · rintro i pre ⟨r, rfl, _⟩
      exact ⟨rfl, rfl, by simp [enc_list]⟩
    · rintro i pre hi ⟨r, rfl, hs⟩ hj
      rw [List.drop_eq_getElem_cons hi, busyP, if_neg (by omega)] at hs
      exact ⟨r, rfl, hs⟩
    · rintro i pre hi hc ⟨⟨r1, r2⟩, rfl, hs⟩ hj c3 c7 Lr Lb hLb
      rw [List.drop_eq_getElem_cons hi, busyP] at hs
      refine VW.run good [] ?_; simp (implicitDefEqProofs := false) [enc_list, setParamsV]
      refine VW.run good [] ?_; simp (implicitDefEqProofs := false) [enc_list, spliceV]
      unfold VCo
      refine vc_joined (h := ⟨b, q, c⟩) hE rfl ?_
      simp (implicitDefEqProofs := false) [enc_list]
      generalize hx : S[i] = x at *
      generalize hy : q[i] = y at *
      refine .ofCut (l := [(6, .ptr 1 1 0), (7, .ptr 2 1 0), (11, .ptr 8 7 0), (12, .ptr 9 1 0), (30, .func 75 [] [.ptr 10 8 0])]) (M := [bkc b, .cells [.int .i64 r1], .cells [.int .i64 r2], hrc ⟨b, q, c⟩, hrc ⟨b, q, c⟩, Lb, .gone, .gone, .cells (El.cells (JCall.mk y x)), .cells [.int .i64 0], hrc ⟨b, q, c⟩])
        ⟨11, [6, 7], by simp [enc_list], by simp, by simp, by simp (implicitDefEqProofs := false) [enc_list], by have hu := hLb 11 (mkF_und (by simp)); simpa (implicitDefEqProofs := false) [enc_list] using hu⟩ ?_
      have hbh : (⟨b, q, c⟩ : Hour).book.Each = b.Each := rfl
      refine VW.rangeJ (b := 10) (n0 := 11) (h := ⟨b, q, c⟩) hE (fun j pre => pre = [bkc b, .cells [.int .i64 r1], .cells [.int .i64 r2], hrc ⟨b, q, c⟩, hrc ⟨b, q, c⟩, Lb, .gone, .gone, .cells (El.cells (JCall.mk y x)), .cells [.int .i64 ((S.take j).countP (inAt x.Joined) : Nat)], hrc ⟨b, q, c⟩]) (fun e pre => False) (by simp) ho hS rfl (mkF_und (by simp)) rfl (by simp) ?_ ?_ ?_ ?_ ?_
      · rintro j pre rfl
        exact ⟨rfl, rfl, by have hu := hLb 12 (mkF_und (by simp)); simpa (implicitDefEqProofs := false) [enc_list] using hu⟩
      · rintro j pre hj' rfl hjn
        have : inAt x.Joined S[j] = false := by simp [inAt]; omega
        rw [count_take hj', this]; simp
      · rintro j pre hj' hcj rfl hjn c3' c7' Lr' Lb' hLb'
        have hct : (S.take (j + 1)).countP (inAt x.Joined) = (S.take j).countP (inAt x.Joined) + (if inAt x.Joined S[j] = true then 1 else 0) := count_take hj'
        have hcl : (S.take j).countP (inAt x.Joined) ≤ 1000 := by
          have := List.countP_le_length (p := inAt x.Joined) (l := S.take j)
          simp at this; omega
        have w1 : IntKind.i64.wrap (((S.take j).countP (inAt x.Joined) : Nat) + 1 : Int) = ((S.take j).countP (inAt x.Joined) : Nat) + 1 := wrap64 (by omega) (by omega)
        generalize hz : S[j] = z at *
        refine VW.run good [] ?_; simp (implicitDefEqProofs := false) [enc_list, setParamsV]
        by_cases h1 : z.Joined ≤ x.Joined
        · by_cases h2 : x.Joined < z.Left
          · have hin : inAt x.Joined z = true := by simp [inAt, hjn, h1, h2]
            refine VW.run good [] ?_; simp (implicitDefEqProofs := false) [enc_list, h1, h2, w1, spliceV]
            rw [hct, hin]; simp
          · have hin : inAt x.Joined z = false := by simp [inAt, h2]
            refine VW.run good [] ?_; simp (implicitDefEqProofs := false) [enc_list, h1, h2, w1, spliceV]
            rw [hct, hin]; simp
        · have hin : inAt x.Joined z = false := by simp [inAt, h1]
          refine VW.run good [] ?_; simp (implicitDefEqProofs := false) [enc_list, h1, w1, spliceV]
          rw [hct, hin]; simp
      · rintro pre L ext rfl
        rw [List.take_length, ← joinedR_eq]
        simp (implicitDefEqProofs := false) [enc_list]
        by_cases hm : r1 < joinedR S x.Joined
        · rw [if_pos ⟨hj, hm⟩] at hs
          refine VW.run good [] ?_; simp (implicitDefEqProofs := false) [enc_list, hm, spliceV]
          exact ⟨[bkc b, .cells [.int .i64 (joinedR S x.Joined)], .cells [.int .i64 x.Joined], hrc ⟨b, q, c⟩, hrc ⟨b, q, c⟩], ⟨_, rfl⟩, rfl, _, _, rfl, hs⟩
        · rw [if_neg (fun hh => hm hh.2)] at hs
          refine VW.run good [] ?_; simp (implicitDefEqProofs := false) [enc_list, hm, spliceV]
          exact ⟨[bkc b, .cells [.int .i64 r1], .cells [.int .i64 r2], hrc ⟨b, q, c⟩, hrc ⟨b, q, c⟩], ⟨_, rfl⟩, rfl, _, _, rfl, hs⟩
      · intro e pre L ext hf; exact hf.elim
    · rintro pre L ext ⟨r, rfl, hs⟩
      rw [List.drop_length, busyP] at hs
      subst hs
      simp (implicitDefEqProofs := false) [enc_list]
      by_cases hz : T.1 = 0
      · rw [if_pos hz]
        refine VW.run good [] ?_; simp (implicitDefEqProofs := false) [enc_list, hz, spliceV]
      · rw [if_neg hz]
        refine VW.run good [] ?_; simp (implicitDefEqProofs := false) [enc_list, hz, spliceV]
    · intro e pre L ext hf; exact hf.elim
  · have hR : BusyPR b h c = ⟨0, 0, askedR b h c⟩ := by unfold BusyPR; rw [if_neg ha]
    rw [hR]
    simp (implicitDefEqProofs := false) [enc_list, askedP, ha, noHour, spliceV]
end Go.RS.CC

/- Walks: the program (10): the fewest channels. -/
namespace Go.RS.CC
open Go Go.RS
open Go.RS.Enc (enc dec)
variable {E : VEnv}
theorem spc_first (sp : Spec) (M : VM) (f : Nat) (a : PV) (as cap args : List PV) : spc sp M (.func f (a :: as) cap) args = none := rfl
theorem spc_cap (sp : Spec) (M : VM) (f : Nat) (a : PV) (as args : List PV) : spc sp M (.func f [] (a :: as)) args = none := rfl
theorem cut_preK {k : Nat} {f : VFr} {l : List (Nat × PV)} {pre : VM} {L0 : VObj} {ext : VM} {n0 : Nat} (hl : pre.length = n0) (hk : k ≤ n0 + 1) (hu : ∀ o ∈ pre, o.und (n0 + 1)) (h0 : L0.und (n0 + 1)) (hs : ∀ p ∈ l, (f p.1).le p.2 ∧ p.2.und (n0 + 1) = true) : Cut k f (pre ++ L0 :: ext) l (pre ++ [L0]) := by
  obtain ⟨j, g, e, h1, h2⟩ := cut_pre (f := f) (ext := ext) hl hu h0 hs
  exact ⟨j, g, e, by omega, h2⟩
theorem vc_enough (hE : E.env.fn = G) {g : Bool} {M : VM} {b : Book} {c : Int} {K : PV → VM → Prop} (hg : g = false) (ho : okR b = true) (c1 : 1 ≤ c) (c2 : c ≤ 20) (hu : ∀ o ∈ M, ∀ n, M.length ≤ n → o.und n)
    (hk : ∀ ext, (∀ o ∈ M ++ ext, ∀ n, (M ++ ext).length ≤ n → o.und n) → K (.bool (enoughR b c)) (M ++ ext)) : VC E g (.func 60 [.agg (El.cells b)] []) [.int .i64 c] M K := by
  subst hg
  have bo := okR_ok ho
  have h1 := bo.h1
  have h2 := bo.h2
  have good := goodV_cons (w_lostP hE) goodV_nil
  have hl0 : M.length = M.length := rfl
  refine VC.func (A := F60) (by rw [hE]; rfl) (by simp [F60]) ?_
  unfold F60
  generalize hn : M.length = n0 at *
  generalize hR : enoughR b c = R at *
  have hba : ∀ n, (bkc b).und n := fun n => by simp (implicitDefEqProofs := false) [enc_list]
  have hbu := hba (n0 + 1)
  have hk1 := hk [bkc b] (fun o ho n hle => by
    have e : (M ++ [bkc b]).length = n0 + 1 := by simp [hn]
    rw [e] at hle
    rcases List.mem_append.1 ho with ho | ho
    · exact hu o ho n (by omega)
    · simp only [List.mem_singleton] at ho; subst ho; exact hba n)
  have hu : ∀ o ∈ M, o.und (n0 + 1) := fun o ho => hu o ho _ (by omega)
  refine VW.run good [] ?_
  simp (implicitDefEqProofs := false) [enc_list, get_pre0 hn, spliceV]
  refine VW.loop_to 0 [] (M ++ [bkc b]) (R = true) ?_ (fun hp f m hc => ?_)
  · obtain ⟨Inv, hI⟩ : ∃ Inv : Nat → List (Nat × PV) → VM → Prop, ∀ k f m, Inv k f m ↔ (f = [(1, .int .i64 c), (2, .ptr n0 6 0), (9, enc b.Hours), (10, .int .i64 b.Hours.length), (11, .int .i64 k)] ∧ m = M ++ [bkc b] ∧ R = (b.Hours.drop k).all fun l => decide ((lostL 0 (serveR b.Each c [] l)).length = 0)) := ⟨_, fun _ _ _ => Iff.rfl⟩
    refine VW.loop_cut Inv b.Hours.length ?_ ?_ ?_
    · exact ⟨_, _, (hI _ _ _).2 ⟨rfl, rfl, hR.symm⟩, cut_preK (ext := []) hn (by omega) hu hbu (by simp (implicitDefEqProofs := false) [enc_list, hn])⟩
    · intro k f m hk2 hi
      obtain ⟨rfl, rfl, hs⟩ := (hI _ _ _).1 hi
      have w1 : IntKind.i64.wrap ((k : Int) + 1) = k + 1 := wrap64 (by omega) (by omega)
      rw [List.drop_eq_getElem_cons hk2, List.all_cons] at hs
      have hm := List.getElem_mem hk2
      generalize hl : b.Hours[k] = l at *
      have hln := bo.hl _ hm
      have hok : HourOk ⟨b, l, c⟩ := ⟨bo.e1, bo.e2, fun x hx => (bo.hc _ hm x hx).1, c1, c2, by show l.length ≤ 1000; omega⟩
      have hF : lostHF ⟨b, l, c⟩ = some (lostL 0 (serveR b.Each c [] l)) := if_pos hok
      generalize hT : lostL 0 (serveR b.Each c [] l) = T at *
      by_cases hz : T.length = 0
      · rw [hz] at hs
        simp only [decide_true, Bool.true_and] at hs
        refine VW.run good [] ?_; simp (implicitDefEqProofs := false) [enc_list, get_pre0 hn, hk2, get_List b.Hours k hk2, hl, hF, hz, w1, spliceV]
        exact ⟨_, _, (hI _ _ _).2 ⟨rfl, rfl, hs⟩, cut_preK (ext := []) hn (by omega) hu hbu (by simp (implicitDefEqProofs := false) [enc_list, hn])⟩
      · have hz' : 0 < T.length := by omega
        simp only [hz, decide_false, Bool.false_and] at hs
        refine VW.run good [] ?_; simp (implicitDefEqProofs := false) [enc_list, get_pre0 hn, hk2, get_List b.Hours k hk2, hl, hF, hz', w1, spliceV]
        rw [hs] at hk1
        exact hk1
    · intro f m hi
      obtain ⟨rfl, rfl, hs⟩ := (hI _ _ _).1 hi
      rw [List.drop_length, List.all_nil] at hs
      refine VW.run good [] ?_; simp (implicitDefEqProofs := false) [enc_list]
      exact ⟨hs, cut_preK (ext := []) hn (by omega) hu hbu (by simp)⟩
  · subst hp
    simp (implicitDefEqProofs := false); refine .ofCut hc (VW.run good [] ?_); simp (implicitDefEqProofs := false) [enc_list]
    exact hk1
def fewP (b : Book) : Nat → Int → Int
  | 0, c => c
  | n + 1, c => if c = 12 ∨ enoughR b c = true then c else fewP b n (c + 1)
abbrev fn60 (b : Book) : PV := .func 60 [.agg (El.cells b)] []
abbrev fn61 : PV := .func 61 [] [.ptr 1 1 0, .ptr 2 1 0]
theorem vc_few (hE : E.env.fn = G) {b : Book} (ho : okR b = true) : ∀ (n : Nat) (c : Int) {g : Bool} {ext : VM} {K : PV → VM → Prop}, g = false → 1 ≤ c → c + n = 12 →
    (∀ o ∈ [bkc b, VObj.cells [fn60 b], VObj.cells [fn61]] ++ ext, ∀ n, ([bkc b, VObj.cells [fn60 b], VObj.cells [fn61]] ++ ext).length ≤ n → o.und n) →
    (∀ ext', K (.int .i64 (fewP b (n + 1) c)) ([bkc b, VObj.cells [fn60 b], VObj.cells [fn61]] ++ ext')) → VC E g fn61 [.int .i64 c] ([bkc b, VObj.cells [fn60 b], VObj.cells [fn61]] ++ ext) K := by
  intro n
  induction n with
  | zero =>
    intro c g ext K hg h1 h2 hu hk
    subst hg
    have hc : c = 12 := by omega
    have hk2 := hk ext
    rw [fewP, if_pos (.inl hc)] at hk2
    refine VC.func (A := F61) (by rw [hE]; rfl) (by simp [F61]) ?_
    unfold F61
    refine VW.run goodV_nil [] ?_
    simp (implicitDefEqProofs := false) [enc_list, hc]
    rw [hc] at hk2
    simpa using hk2
  | succ n ih =>
    intro c g ext K hg h1 h2 hu hk
    subst hg
    have hc : ¬ c = 12 := by omega
    rw [fewP] at hk
    refine VC.func (A := F61) (by rw [hE]; rfl) (by simp [F61]) ?_
    unfold F61
    refine VW.run goodV_nil [] ?_
    simp (implicitDefEqProofs := false) [enc_list, hc, spc_first]
    unfold VCo
    refine vc_enough hE rfl ho h1 (by omega) (by simpa using hu) (fun ext2 hu2 => ?_)
    by_cases hen : enoughR b c = true
    · have hk2 := hk (ext ++ ext2)
      rw [if_pos (.inr hen)] at hk2
      simp (implicitDefEqProofs := false) [enc_list, hen]
      simpa using hk2
    · have w1 : IntKind.i64.wrap (c + 1) = c + 1 := wrap64 (by omega) (by omega)
      have hk2 := fun e => hk e
      simp only [hc, hen, or_self, if_false] at hk2
      simp (implicitDefEqProofs := false) [enc_list, hen, w1, spc_cap]
      unfold VCo
      have := ih (c + 1) (g := false) (ext := ext ++ ext2) (K := K) rfl (by omega) (by omega) (by simpa using hu2) hk2
      refine VC.mono (by simpa using this) fun r m hx => ?_
      simp (implicitDefEqProofs := false) [enc_list]
      exact hx
def FewestPR (b : Book) : Int × Int := if okR b then (fewP b 12 1, 0) else (0, 90)
theorem w_FewestP (hE : E.env.fn = G) : Ok E 25 (s1 fun b => some (FewestPR b)) := by
  refine ok1 fun b r hr => ?_
  cases hr
  have good := goodV_cons (w_CheckP hE) goodV_nil
  refine VP.run (A := F25) (good) [] (by rw [hE]; rfl) (by simp [F25]) ?_; unfold F25; simp (implicitDefEqProofs := false) [enc_list, spliceV]
  by_cases ho : okR b = true
  · have hR : FewestPR b = (fewP b 12 1, 0) := by simp [FewestPR, ho]
    simp (implicitDefEqProofs := false) [enc_list, checkR, ho, hR, spliceV, spc_cap]
    unfold VCo
    have := vc_few hE ho 11 1 (g := false) (ext := []) (K := fun r m => r = .int .i64 (fewP b 12 1)) rfl (by omega) (by omega) (fun o hm n hn => ?_) (fun ext => rfl)
    · refine VC.mono (show VC E false fn61 [.int .i64 1] ([bkc b, .cells [fn60 b], .cells [fn61]] ++ []) _ from this) fun r m hx => ?_
      subst hx
      simp (implicitDefEqProofs := false) [enc_list]
    · rw [List.append_nil] at hm hn
      simp only [List.length_cons, List.length_nil] at hn
      have hn1 : 1 < n := by omega
      have hn2 : 2 < n := by omega
      rcases List.mem_cons.1 hm with rfl | hm
      · simp (implicitDefEqProofs := false) [enc_list]
      · rcases List.mem_cons.1 hm with rfl | hm
        · simp (implicitDefEqProofs := false) [enc_list]
        · rw [List.mem_singleton] at hm
          subst hm
          simp (implicitDefEqProofs := false) [hn1, hn2]
  · have hR : FewestPR b = (0, 90) := by simp [FewestPR, ho]
    simp (implicitDefEqProofs := false) [enc_list, checkR, ho, hR, spliceV]
end Go.RS.CC

/- Plain laws (2): the fewest channels. -/
namespace Go.RS.CC
open Go Go.RS
open Go.RS.Enc (enc dec)
theorem chan_len : ∀ (n : Nat) (out : List Served), (∀ c : Nat, c < n → ∃ s ∈ out, s.Channel = c) → n ≤ out.length
  | 0, out, h => Nat.zero_le _
  | n + 1, out, h => by
    obtain ⟨s, hs, hc⟩ := h n (by omega)
    have h1 := chan_len n (out.filter fun s => decide (s.Channel ≠ (n : Int))) fun c hcn => by
      obtain ⟨s, hs, hc⟩ := h c (by omega)
      exact ⟨s, List.mem_filter.2 ⟨hs, by simp; omega⟩, hc⟩
    have h2 : (out.filter fun s => decide (s.Channel ≠ (n : Int))).length < out.length := by
      refine List.length_filter_lt_length_iff_exists.2 ⟨s, hs, by simp [hc]⟩
    omega
theorem freeL_neg {out : List Served} {t : Int} : ∀ (n k : Nat), freeL out t n k < 0 → ∀ c : Nat, k ≤ c → c < k + n → isFree out c t = false
  | 0, k, h, c, h1, h2 => by omega
  | n + 1, k, h, c, h1, h2 => by
    rw [freeL] at h
    by_cases hf : isFree out k t = true
    · rw [if_pos hf] at h; omega
    · rw [if_neg hf] at h
      by_cases hck : c = k
      · subst hck; simpa using hf
      · exact freeL_neg n (k + 1) h c (by omega) (by omega)
theorem free_room {out : List Served} {ch t : Int} (h : out.length < ch.toNat) : 0 ≤ freeR out ch t := by
  by_cases hn : 0 ≤ freeR out ch t
  · exact hn
  · have := chan_len ch.toNat out fun c hc => by
      have hf := freeL_neg (out := out) (t := t) ch.toNat 0 (show freeL out t ch.toNat ((0 : Nat) : Int) < 0 by unfold freeR at hn; simp; omega) c (by omega) (by omega)
      unfold isFree at hf
      rw [List.all_eq_false] at hf
      obtain ⟨s, hs, hx⟩ := hf
      refine ⟨s, hs, ?_⟩
      simp at hx
      exact hx.1
    omega
theorem serve_room {each ch : Int} : ∀ (l : List Call) (out : List Served), out.length + l.length ≤ ch.toNat → (∀ x ∈ l, callRng x) → (∀ s ∈ out, 0 ≤ s.Joined) → ∀ s ∈ serveR each ch out l, 0 ≤ s.Joined
  | [], out, _, _, ho => ho
  | x :: l, out, hl, hx, ho => by
    rw [serveR]
    simp only [List.length_cons] at hl
    refine serve_room l _ (by simp; omega) (fun y hy => hx y (by simp [hy])) fun s hs => ?_
    rcases List.mem_append.1 hs with hs | hs
    · exact ho s hs
    · simp only [List.mem_singleton] at hs
      subst hs
      obtain ⟨x1, x2, x3, x4, _⟩ := hx x (by simp)
      obtain ⟨n, hn⟩ : ∃ n, (x.Wait + 1).toNat = n + 1 := ⟨x.Wait.toNat, by omega⟩
      unfold oneR
      rw [hn, seekR, if_pos (free_room (by omega))]
      exact x1
theorem lostL_nil : ∀ (l : List Served) (i : Nat), (∀ s ∈ l, 0 ≤ s.Joined) → lostL i l = []
  | [], _, _ => rfl
  | s :: l, i, h => by
    rw [lostL, if_neg (by have := h s (by simp); omega)]
    exact lostL_nil l _ fun x hx => h x (by simp [hx])
theorem enough_12 {b : Book} (ho : okR b = true) : enoughR b 12 = true := by
  have bo := okR_ok ho
  unfold enoughR
  rw [List.all_eq_true]
  intro l hl
  have h12 := bo.hl l hl
  rw [lostL_nil _ _ (serve_room l [] (by simp; omega) (fun x hx => (bo.hc l hl x hx).1) (by simp))]
  rfl
theorem few_same {b : Book} (ho : okR b = true) : ∀ (n : Nat) (c : Int), c + n = 12 → fewP b (n + 1) c = fewL b (n + 9) c
  | 0, c, h => by
    obtain rfl : c = 12 := by omega
    rw [fewP, if_pos (.inl rfl), fewL, if_pos (by rw [enough_12 ho]; rfl)]
  | n + 1, c, h => by
    rw [fewP, show n + 1 + 9 = n + 9 + 1 by omega, fewL]
    have h1 : ¬ c = 12 := by omega
    have h2 : ¬ c = 20 := by omega
    by_cases he : enoughR b c = true
    · rw [if_pos (.inr he), if_pos (by simp [he])]
    · rw [if_neg (by simp [h1, he]), if_neg (by simp [h2, he])]
      exact few_same ho n (c + 1) (by omega)
theorem Fewest_same (b : Book) : FewestPR b = FewestR b := by
  unfold FewestPR FewestR
  by_cases ho : okR b = true
  · rw [if_pos ho, if_pos ho, few_same ho 11 1 rfl]
  · rw [if_neg ho, if_neg ho]
end Go.RS.CC

/- Plain laws (3): calls are joined in their order; when most are. -/
namespace Go.RS.CC
open Go Go.RS
open Go.RS.Enc (enc dec)
def inOrder (s t : Served) : Prop := 0 ≤ s.Joined → 0 ≤ t.Joined → s.Joined ≤ t.Joined
theorem minP_set {a : List Int} {ch k : Nat} {u : Int} (hne : a.take ch ≠ []) (hk : k < a.length) (hu : a[k] ≤ u) (hkc : k < ch) : minP (a.take ch) ≤ minP ((a.set k u).take ch) := by
  have hne' : (a.set k u).take ch ≠ [] := by
    intro h
    apply hne
    have := congrArg List.length h
    simp at this
    apply List.eq_nil_of_length_eq_zero
    simp; omega
  obtain ⟨v, hv, hvt⟩ := (minP_le _ _ hne').1 (Int.le_refl _)
  rw [minP_le _ _ hne]
  rw [List.mem_take_iff_getElem] at hv
  obtain ⟨i, hi, rfl⟩ := hv
  simp at hi
  by_cases hik : k = i
  · subst hik
    refine ⟨a[k], ?_, ?_⟩
    · rw [List.mem_take_iff_getElem]; exact ⟨k, by omega, rfl⟩
    · simp at hvt; omega
  · refine ⟨a[i], ?_, ?_⟩
    · rw [List.mem_take_iff_getElem]; exact ⟨i, by omega, rfl⟩
    · rw [List.getElem_set_ne hik] at hvt; exact hvt
theorem Fit.ne {ch : Int} {a : List Int} {out : List Served} (f : Fit ch.toNat a out) (h1 : 1 ≤ ch) : a.take ch.toNat ≠ [] := by
  intro h
  have := congrArg List.length h
  simp [f.len] at this
  omega
theorem Fit.mono {each ch : Int} {a : List Int} {out : List Served} (f : Fit ch.toNat a out) (h1 : 1 ≤ ch) (h2 : ch ≤ 20) (he : 1 ≤ each) (he2 : each ≤ 60) {x : Call} (hx : callRng x) :
    ((oneR each out ch x).Joined = -1 ∨ (oneR each out ch x).Joined = max x.At (minP (a.take ch.toNat))) ∧ minP (a.take ch.toNat) ≤ minP ((stepP each ch.toNat a out x).1.take ch.toNat) := by
  have hne := f.ne h1
  obtain ⟨x1, x2, x3, x4, x5, x6⟩ := hx
  have hm : ∀ u, x.At ≤ u → (0 ≤ Go.RS.CC.freeR out ch u ↔ minP (a.take ch.toNat) ≤ u) := fun u hu => f.free_iff h1 h2 (by omega)
  have hs := seekR_max (m := minP (a.take ch.toNat)) (x.Wait + 1).toNat x.At x1 hm
  constructor
  · unfold oneR
    rw [hs]
    split
    · exact .inr rfl
    · exact .inl rfl
  · unfold stepP
    split
    · exact Int.le_refl _
    · split
      · rename_i k hf
        obtain ⟨g1, g2, g3⟩ := findP_some a _ _ _ _ hf
        have hk : k < a.length := by rw [f.len]; omega
        rw [List.getD_eq_getElem?_getD, List.getElem?_eq_getElem hk, Option.getD_some] at g3
        generalize joinP a ch.toNat x = J at *
        have hu : J ≤ untilP each x.Hear J := by
          unfold untilP
          have q1 := Int.mul_ediv_add_emod (J + each - 1) each
          have q2 := Int.emod_lt_of_pos (J + each - 1) (show 0 < each by omega)
          have q3 : upP each J = each * ((J + each - 1) / each) := Int.mul_comm _ _
          have q4 : 0 ≤ x.Hear * each := Int.mul_nonneg (by omega) (by omega)
          omega
        exact minP_set hne hk (by omega) (by omega)
      · exact Int.le_refl _
/-- Each call begins no sooner than the one before. -/
def climbsAt : List Call → Int → Prop
  | [], _ => True
  | x :: l, last => last ≤ x.At ∧ climbsAt l x.At
theorem climbs_of (b : Book) : ∀ (l : List Call) (last : Int), callsLR b l last = true → climbsAt l last
  | [], _, _ => trivial
  | x :: l, last, h => by
    simp only [callsLR, Bool.and_eq_true, callOkR, wi_iff] at h
    exact ⟨h.1.1.1.1.1, climbs_of b l _ h.2⟩
theorem serve_order {each ch : Int} (h1 : 1 ≤ ch) (h2 : ch ≤ 20) (he : 1 ≤ each) (he2 : each ≤ 60) : ∀ (l : List Call) (a : List Int) (out : List Served) (last : Int), (∀ x ∈ l, callRng x) → climbsAt l last → Fit ch.toNat a out →
    (∀ s ∈ out, 0 ≤ s.Joined → s.Joined ≤ max last (minP (a.take ch.toNat))) → out.Pairwise inOrder → (serveR each ch out l).Pairwise inOrder
  | [], a, out, last, _, _, _, _, hp => hp
  | x :: l, a, out, last, hr, hc, f, ho, hp => by
    obtain ⟨e, f'⟩ := f.step h1 h2 he he2 (hr x (by simp))
    obtain ⟨m1, m2⟩ := f.mono h1 h2 he he2 (hr x (by simp))
    rw [serveR]
    refine serve_order h1 h2 he he2 l _ _ x.At (fun y hy => hr y (by simp [hy])) hc.2 f' (fun s hs hj => ?_) ?_
    · rcases List.mem_append.1 hs with hs | hs
      · have := ho s hs hj
        have := hc.1
        omega
      · simp only [List.mem_singleton] at hs
        subst hs
        rcases m1 with m1 | m1 <;> omega
    · rw [List.pairwise_append]
      refine ⟨hp, by simp, fun s hs t ht h3 h4 => ?_⟩
      simp only [List.mem_singleton] at ht
      subst ht
      have := ho s hs h3
      have := hc.1
      rcases m1 with m1 | m1 <;> omega
theorem served_order {b : Book} (ho : okR b = true) {l : List Call} (hl : l ∈ b.Hours) {ch : Int} (h1 : 1 ≤ ch) (h2 : ch ≤ 20) : (serveR b.Each ch [] l).Pairwise inOrder := by
  have bo := okR_ok ho
  have hcl : callsLR b l 0 = true := by
    simp only [okR, Bool.and_eq_true, List.all_eq_true] at ho
    have := ho.2 l hl
    simp only [callsR, Bool.and_eq_true] at this
    exact this.2
  refine serve_order h1 h2 bo.e1 bo.e2 l (List.replicate 20 0) [] 0 (fun x hx => (bo.hc l hl x hx).1) (climbs_of b l 0 hcl) ⟨by simp, fun v hv => by simp at hv; omega, fun c t hc ht => ?_⟩ (by simp) List.Pairwise.nil
  rw [List.getD_eq_getElem?_getD, List.getElem?_replicate, if_pos (by omega), Option.getD_some]
  simp [isFree, ht]
theorem busy_same (S : List Served) : ∀ (l : List Served) (m a : Int), (∀ s ∈ l, 0 ≤ s.Joined → a ≤ s.Joined) → l.Pairwise inOrder → busyP S l (m, a) = busyL S l m a
  | [], m, a, _, _ => rfl
  | x :: l, m, a, h, hp => by
    rw [List.pairwise_cons] at hp
    rw [busyP, busyL]
    by_cases hj : x.Joined < 0
    · rw [if_pos hj, if_neg (by omega)]
      exact busy_same S l m a (fun s hs => h s (by simp [hs])) hp.2
    · have ha := h x (by simp) (by omega)
      rw [if_neg hj]
      by_cases hm : m < joinedR S x.Joined
      · rw [if_pos ⟨by omega, hm⟩, if_pos (by simp [hm])]
        exact busy_same S l _ _ (fun s hs hsj => hp.1 s hs (by omega) hsj) hp.2
      · rw [if_neg (fun hh => hm hh.2), if_neg (by simp [hm]; omega)]
        exact busy_same S l m a (fun s hs => h s (by simp [hs])) hp.2
theorem Busy_same (b : Book) (h c : Int) : BusyPR b h c = BusyR b h c := by
  unfold BusyPR BusyR
  by_cases ha : askedR b h c = 0
  · have hR : ServeR b h c = (serveR b.Each c [] (hourOf b h), 0) := by rw [ServeR, if_pos ha]
    obtain ⟨ho, h1, h2, h3, h4⟩ := askedR_zero ha
    have hp := served_order ho (hourOf_mem h1 h2).1 h3 h4
    rw [if_pos ha, hR]
    simp only [if_true]
    rw [busy_same _ _ 0 0 (fun s _ hs => hs) hp]
  · have hR : ServeR b h c = ([], askedR b h c) := by rw [ServeR, if_neg ha]
    rw [if_neg ha, hR, if_neg ha]
end Go.RS.CC

