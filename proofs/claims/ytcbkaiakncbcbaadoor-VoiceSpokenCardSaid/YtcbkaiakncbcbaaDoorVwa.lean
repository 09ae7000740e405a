/- Walks: the program (1): books and words. -/
import Derived.Test.YtcbkaiakncbcbaaDoorVpa
import Derived.Test.YtcbkaiakncbcbaaDoorDxa
import Derived.Test.YtcbkaiakncbcbaaDoorPvc
set_option linter.all false
namespace Go.RS.DC
open Go Go.RS
open Go.RS.Enc (enc dec)
variable {E : VEnv}
theorem v_within (hE : E.env.fn = G) : Ok E 51 (s3 fun n a b => some (wi n a b)) := by
  refine ok3 fun n a b r hr => ?_
  cases hr
  refine VP.run (A := F51) (goodV_nil) [] (by rw [hE]; rfl) (by simp [F51]) ?_; unfold F51; simp (implicitDefEqProofs := false) [enc_list, wi]
  repeat' (first | (refine vstep_split (fun hb => ?_) (fun hb => ?_) <;> (try simp only [Bool.not_eq_eq_eq_not, Bool.not_true, Bool.not_false, decide_eq_true_eq, decide_eq_false_iff_not] at hb) <;> simp (implicitDefEqProofs := false) [hb, enc_list]) | (refine vcond_split (fun hb => ?_) (fun hb => ?_) <;> (try simp only [Bool.not_eq_eq_eq_not, Bool.not_true, Bool.not_false, decide_eq_true_eq, decide_eq_false_iff_not] at hb) <;> simp (implicitDefEqProofs := false) [hb, enc_list]))
theorem v_isSpan (hE : E.env.fn = G) : Ok E 54 (s3 fun (s : Span) a b => some (spanOk s a b)) := by
  refine ok3 fun s a b r hr => ?_
  cases hr
  refine VP.run (A := F54) (goodV_nil) [] (by rw [hE]; rfl) (by simp [F54]) ?_; unfold F54; simp (implicitDefEqProofs := false) [enc_list, spanOk]
  repeat' (first | (refine vstep_split (fun hb => ?_) (fun hb => ?_) <;> (try simp only [Bool.not_eq_eq_eq_not, Bool.not_true, Bool.not_false, decide_eq_true_eq, decide_eq_false_iff_not] at hb) <;> simp (implicitDefEqProofs := false) [hb, enc_list]) | (refine vcond_split (fun hb => ?_) (fun hb => ?_) <;> (try simp only [Bool.not_eq_eq_eq_not, Bool.not_true, Bool.not_false, decide_eq_true_eq, decide_eq_false_iff_not] at hb) <;> simp (implicitDefEqProofs := false) [hb, enc_list]))
theorem v_areWords1 (hE : E.env.fn = G) : Ok E 87 (s1 fun (n : Int) => some (!wi n 0 299)) := by
  refine ok1 fun n r hr => ?_
  cases hr
  refine VP.run (A := F87) ((goodV_cons (v_within hE) goodV_nil)) [] (by rw [hE]; rfl) (by simp [F87]) ?_; unfold F87; simp (implicitDefEqProofs := false) [enc_list]
/-- A list and a function that is known by name. -/
def sLf {R : Type} [Enc R] (g : Nat) (F : List Int → Option R) : List PV → Option PV
  | [a, .func f [] []] => if f = g then (dec a).bind fun a => (F a).map enc else none
  | _ => none
@[simp] theorem sLf_app {R : Type} [Enc R] (g f : Nat) (F : List Int → Option R) (a : PV) : sLf g F [a, .func f [] []] = if f = g then (dec a).bind fun a => (F a).map enc else none := rfl
theorem okLf {R : Type} [Enc R] {n g : Nat} {F : List Int → Option R} (h : ∀ l r, F l = some r → VP E n [enc l, .func g [] []] (enc r)) : Ok E n (sLf g F) := fun args r hr => by
  unfold sLf at hr
  split at hr
  · rename_i a f
    split at hr
    · rename_i hf
      subst hf
      simp only [Option.bind_eq_some_iff, Option.map_eq_some_iff] at hr
      obtain ⟨l, ha, x, h1, rfl⟩ := hr
      exact (h l x h1).args ⟨Enc.dec_le ha, by simp [PV.le, PV.leL]⟩
    · cases hr
  · cases hr
def strangeF : Nat → List Int → Int
  | _, [] => -1
  | k, n :: l => if wi n 0 299 then strangeF (k + 1) l else k
theorem strange_all : ∀ (l : List Int) (k : Nat), decide (0 ≤ strangeF k l) = !(l.all fun n => wi n 0 299)
  | [], k => by simp [strangeF]
  | n :: l, k => by
    rw [strangeF, List.all_cons]
    cases h : wi n 0 299
    · simp
    · rw [if_pos rfl, Bool.true_and]; exact strange_all l (k + 1)
theorem v_IndexFunc (hE : E.env.fn = G) : Ok E 106 (sLf 87 fun l => some (strangeF 0 l)) := by
  refine okLf fun l r hr => ?_
  cases hr
  refine VP.bound fun hb => ?_
  simp [enc_list] at hb
  have good := goodV_cons (v_areWords1 hE) goodV_nil
  generalize hT : strangeF 0 l = T
  refine VP.run (A := F106) (good) [] (by rw [hE]; rfl) (by simp [F106]) ?_; unfold F106; simp (implicitDefEqProofs := false) [enc_list]
  refine VW.loop_to 0 [] [] (T = -1) ?_ (fun hp f m hc => ?_)
  · obtain ⟨Inv, hI⟩ : ∃ Inv : Nat → List (Nat × PV) → VM → Prop, ∀ k f m, Inv k f m ↔ (f = [(0, enc l), (1, .func 87 [] []), (6, enc l), (7, .int .i64 l.length), (8, .int .i64 k)] ∧ m = [] ∧ T = strangeF k (l.drop k)) := ⟨_, fun _ _ _ => Iff.rfl⟩
    refine VW.loop_cut Inv l.length ?_ ?_ ?_
    · exact ⟨_, _, (hI _ _ _).2 ⟨rfl, rfl, hT.symm⟩, ⟨0, [], by simp [enc_list], by simp, by simp, by simp (implicitDefEqProofs := false) [enc_list], by simp (implicitDefEqProofs := false) [enc_list]⟩⟩
    · intro k f m hk hi
      obtain ⟨rfl, rfl, hs⟩ := (hI _ _ _).1 hi
      have w1 : IntKind.i64.wrap ((k : Int) + 1) = k + 1 := wrap64 (by omega) (by omega)
      rw [List.drop_eq_getElem_cons hk, strangeF] at hs
      cases hw : wi l[k] 0 299
      · rw [hw] at hs
        refine VW.run good [] ?_; simp (implicitDefEqProofs := false) [enc_list, hk, get_Int l k hk, w1, hw, hs]
      · rw [hw, if_pos rfl] at hs
        refine VW.run good [] ?_; simp (implicitDefEqProofs := false) [enc_list, hk, get_Int l k hk, w1, hw]
        exact ⟨_, _, (hI _ _ _).2 ⟨rfl, rfl, hs⟩, ⟨0, [], by simp [enc_list], by simp, by simp, by simp (implicitDefEqProofs := false) [enc_list], by simp (implicitDefEqProofs := false) [enc_list]⟩⟩
    · intro f m hi
      obtain ⟨rfl, rfl, hs⟩ := (hI _ _ _).1 hi
      rw [List.drop_length, strangeF] at hs
      refine VW.run good [] ?_; simp (implicitDefEqProofs := false) [enc_list]
      exact ⟨hs, ⟨0, [], by simp [enc_list], by simp, by simp, by simp (implicitDefEqProofs := false) [enc_list], by simp (implicitDefEqProofs := false) [enc_list]⟩⟩
  · simp (implicitDefEqProofs := false); refine .ofCut hc (VW.run good [] ?_); simp (implicitDefEqProofs := false) [enc_list, hp]
theorem v_ContainsFunc (hE : E.env.fn = G) : Ok E 86 (sLf 87 fun l => some (!(l.all fun n => wi n 0 299))) := by
  refine okLf fun l r hr => ?_
  cases hr
  rw [← strange_all l 0]
  refine VP.run (A := F86) ((goodV_cons (v_IndexFunc hE) goodV_nil)) [] (by rw [hE]; rfl) (by simp [F86]) ?_; unfold F86; simp (implicitDefEqProofs := false) [enc_list]
theorem v_areWords (hE : E.env.fn = G) : Ok E 55 (s2 fun l many => some (wordsOk l many)) := by
  refine ok2 fun l many r hr => ?_
  cases hr
  refine VP.run (A := F55) ((goodV_cons (v_within hE) (goodV_cons (v_ContainsFunc hE) goodV_nil))) [] (by rw [hE]; rfl) (by simp [F55]) ?_; unfold F55; simp (implicitDefEqProofs := false) [enc_list, wordsOk]
  repeat' (first | (refine vstep_split (fun hb => ?_) (fun hb => ?_) <;> (try simp only [Bool.not_eq_eq_eq_not, Bool.not_true, Bool.not_false, decide_eq_true_eq, decide_eq_false_iff_not] at hb) <;> simp (implicitDefEqProofs := false) [hb, enc_list]) | (refine vcond_split (fun hb => ?_) (fun hb => ?_) <;> (try simp only [Bool.not_eq_eq_eq_not, Bool.not_true, Bool.not_false, decide_eq_true_eq, decide_eq_false_iff_not] at hb) <;> simp (implicitDefEqProofs := false) [hb, enc_list]))
abbrev bcl (b : Book) : VObj := .cells [enc b.Discs, enc b.Pieces, enc b.Pause.Low, enc b.Pause.High, enc b.Rest.Low, enc b.Rest.High]
theorem v_Check (hE : E.env.fn = G) : Ok E 17 (s1 fun b => some (checkB b)) := by
  refine ok1 fun b r hr => ?_
  cases hr
  refine VP.bound fun hb => ?_
  simp [enc_list] at hb
  have good := goodV_cons (v_within hE) (goodV_cons (v_isSpan hE) (goodV_cons (v_areWords hE) goodV_nil))
  have hck : checkB b = if okB b = true then 0 else 50 := rfl
  have hok : okB b = (headB b && b.Discs.all (fun n => wi n 1 500) && b.Pieces.all (pieceOk b)) := rfl
  generalize hT : okB b = T at hck hok
  rw [hck]
  refine VP.func (A := F17) (by rw [hE]; rfl) (by simp [F17]) ?_; unfold F17
  refine VW.seq (VW.run good [] ?_); simp (implicitDefEqProofs := false) [enc_list]
  refine VW.seq_cut [(1, .ptr 0 6 0), (3, .bool (headB b))] [bcl b] (VW.run good [] ?_) ?_; simp (implicitDefEqProofs := false) [enc_list]
  · repeat' (first | (refine vstep_split (fun hb => ?_) (fun hb => ?_) <;> (try simp only [Bool.not_eq_eq_eq_not, Bool.not_true, Bool.not_false, decide_eq_true_eq, decide_eq_false_iff_not] at hb) <;> simp (implicitDefEqProofs := false) [hb, enc_list]) | (refine vcond_split (fun hb => ?_) (fun hb => ?_) <;> (try simp only [Bool.not_eq_eq_eq_not, Bool.not_true, Bool.not_false, decide_eq_true_eq, decide_eq_false_iff_not] at hb) <;> simp (implicitDefEqProofs := false) [hb, enc_list]))
    all_goals exact ⟨1, [], by simp [enc_list,  headB, *], by simp, by simp, by simp (implicitDefEqProofs := false) [enc_list,  headB, *], by simp (implicitDefEqProofs := false) [enc_list,  headB, *]⟩
  refine VW.run good [] ?_; simp (implicitDefEqProofs := false) [enc_list]
  refine VW.loop_to 0 [(1, .ptr 0 6 0), (3, .bool (headB b && b.Discs.all (fun n => wi n 1 500)))] [bcl b] (True) ?_ (fun hp f m hc => ?_)
  · generalize hD : (headB b && b.Discs.all (fun n => wi n 1 500)) = D
    obtain ⟨Inv, hI⟩ : ∃ Inv : Nat → List (Nat × PV) → VM → Prop, ∀ k f m, Inv k f m ↔ (∃ s : Bool, f = [(1, .ptr 0 6 0), (3, .bool s), (29, enc b.Discs), (30, .int .i64 b.Discs.length), (31, .int .i64 k)] ∧ m = [bcl b] ∧ D = (s && (b.Discs.drop k).all (fun n => wi n 1 500))) := ⟨_, fun _ _ _ => Iff.rfl⟩
    refine VW.loop_cut Inv b.Discs.length ?_ ?_ ?_
    · exact ⟨_, _, (hI _ _ _).2 ⟨headB b, rfl, rfl, by rw [List.drop_zero]; exact hD.symm⟩, ⟨1, [], by simp [enc_list], by simp, by simp, by simp (implicitDefEqProofs := false) [enc_list], by simp (implicitDefEqProofs := false) [enc_list]⟩⟩
    · intro k f m hk hi
      obtain ⟨s, rfl, rfl, hs⟩ := (hI _ _ _).1 hi
      have w1 : IntKind.i64.wrap ((k : Int) + 1) = k + 1 := wrap64 (by omega) (by omega)
      rw [List.drop_eq_getElem_cons hk, List.all_cons] at hs
      cases s
      · refine VW.run good [] ?_; simp (implicitDefEqProofs := false) [enc_list, hk, get_Int b.Discs k hk, w1]
        exact ⟨_, _, (hI _ _ _).2 ⟨false, rfl, rfl, by rw [hs]; rfl⟩, ⟨1, [], by simp [enc_list], by simp, by simp, by simp (implicitDefEqProofs := false) [enc_list], by simp (implicitDefEqProofs := false) [enc_list]⟩⟩
      · refine VW.run good [] ?_; simp (implicitDefEqProofs := false) [enc_list, hk, get_Int b.Discs k hk, w1]
        exact ⟨_, _, (hI _ _ _).2 ⟨_, rfl, rfl, by rw [hs]; rfl⟩, ⟨1, [], by simp [enc_list], by simp, by simp, by simp (implicitDefEqProofs := false) [enc_list], by simp (implicitDefEqProofs := false) [enc_list]⟩⟩
    · intro f m hi
      obtain ⟨s, rfl, rfl, hs⟩ := (hI _ _ _).1 hi
      rw [List.drop_length, List.all_nil, Bool.and_true] at hs
      subst hs
      refine VW.run good [] ?_; simp (implicitDefEqProofs := false) [enc_list]
      exact ⟨1, [], by simp [enc_list], by simp, by simp, by simp (implicitDefEqProofs := false) [enc_list], by simp (implicitDefEqProofs := false) [enc_list]⟩
  · simp (implicitDefEqProofs := false); refine .ofCut hc (VW.run good [] ?_); simp (implicitDefEqProofs := false) [enc_list]
    refine VW.loop_to 2 [(3, .bool T)] [] (True) ?_ (fun hp f m hc => ?_)
    · obtain ⟨Inv, hI⟩ : ∃ Inv : Nat → List (Nat × PV) → VM → Prop, ∀ k f m, Inv k f m ↔ (∃ s : Bool, f = [(1, .ptr 0 6 0), (3, .bool s), (42, enc b.Pieces), (43, .int .i64 b.Pieces.length), (44, .int .i64 k)] ∧ m = [bcl b] ∧ T = (s && (b.Pieces.drop k).all (pieceOk b)) ∧ (s = true → (headB b && b.Discs.all (fun n => wi n 1 500)) = true)) := ⟨_, fun _ _ _ => Iff.rfl⟩
      refine VW.loop_cut Inv b.Pieces.length ?_ ?_ ?_
      · exact ⟨_, _, (hI _ _ _).2 ⟨(headB b && b.Discs.all (fun n => wi n 1 500)), rfl, rfl, by rw [List.drop_zero]; exact hok, fun h => h⟩, ⟨1, [], by simp [enc_list], by simp, by simp, by simp (implicitDefEqProofs := false) [enc_list], by simp (implicitDefEqProofs := false) [enc_list]⟩⟩
      · intro k f m hk hi
        obtain ⟨s, rfl, rfl, hs, hh⟩ := (hI _ _ _).1 hi
        have w1 : IntKind.i64.wrap ((k : Int) + 1) = k + 1 := wrap64 (by omega) (by omega)
        rw [List.drop_eq_getElem_cons hk, List.all_cons] at hs
        have hg := get_Piece b.Pieces k hk
        generalize b.Pieces[k] = x at *
        cases s
        · refine VW.run good [] ?_; simp (implicitDefEqProofs := false) [enc_list, hk, hg, w1, spliceV]
          exact ⟨_, _, (hI _ _ _).2 ⟨false, rfl, rfl, by rw [hs]; rfl, fun h => by cases h⟩, ⟨1, [], by simp [enc_list], by simp, by simp, by simp (implicitDefEqProofs := false) [enc_list], by simp (implicitDefEqProofs := false) [enc_list]⟩⟩
        · have hh0 := hh
          have hh := hh rfl
          simp only [headB, Bool.and_eq_true, wi_iff, List.all_eq_true] at hh
          have w2 : IntKind.i64.wrap ((b.Discs.length : Int) - 1) = b.Discs.length - 1 := wrap64 (by omega) (by omega)
          rw [Bool.true_and] at hs
          cases h1 : wordsOk x.Words 4
          · have hp : pieceOk b x = false := by unfold pieceOk; rw [h1]; rfl
            rw [hp, Bool.false_and] at hs
            refine VW.run good [] ?_; simp (implicitDefEqProofs := false) [enc_list, hk, hg, w1, w2, h1, spliceV]
            exact ⟨_, _, (hI _ _ _).2 ⟨false, rfl, rfl, by rw [hs]; rfl, fun h => by cases h⟩, ⟨1, [], by simp [enc_list], by simp, by simp, by simp (implicitDefEqProofs := false) [enc_list], by simp (implicitDefEqProofs := false) [enc_list]⟩⟩
          · cases h2 : wi x.Disc 0 ((b.Discs.length : Int) - 1)
            · have hp : pieceOk b x = false := by unfold pieceOk; rw [h1, h2]; rfl
              rw [hp, Bool.false_and] at hs
              refine VW.run good [] ?_; simp (implicitDefEqProofs := false) [enc_list, hk, hg, w1, w2, h1, h2, spliceV]
              exact ⟨_, _, (hI _ _ _).2 ⟨false, rfl, rfl, by rw [hs]; rfl, fun h => by cases h⟩, ⟨1, [], by simp [enc_list], by simp, by simp, by simp (implicitDefEqProofs := false) [enc_list], by simp (implicitDefEqProofs := false) [enc_list]⟩⟩
            · obtain ⟨d0, d1⟩ := (wi_iff _ _ _).1 h2
              obtain ⟨d, hd⟩ : ∃ d : Nat, x.Disc = d := ⟨x.Disc.toNat, by omega⟩
              have hdl : d < b.Discs.length := by omega
              have hdisc : discOf b x = b.Discs[d] := by
                unfold discOf
                rw [hd, Int.toNat_natCast, List.getD_eq_getElem?_getD, List.getElem?_eq_getElem hdl]; rfl
              have hrg := hh.2 _ (List.getElem_mem hdl)
              have w3 : IntKind.i64.wrap (b.Discs[d] - 1) = b.Discs[d] - 1 := wrap64 (by omega) (by omega)
              have hp : pieceOk b x = (wi x.Begin 0 (b.Discs[d] - 1) && wi x.Long 1 b.Discs[d]) := by
                unfold pieceOk
                rw [h1, h2, hdisc, Bool.true_and, Bool.true_and]
              have hgd := get_Int b.Discs d hdl
              rw [hp] at hs
              generalize b.Discs[d] = t at *
              rw [hd] at h2
              cases h3 : wi x.Begin 0 (t - 1)
              · rw [h3, Bool.false_and, Bool.false_and] at hs
                refine VW.run good [] ?_; simp (implicitDefEqProofs := false) [enc_list, hk, hg, w1, w2, w3, h1, h2, h3, hd, hdl, hgd, spliceV]
                exact ⟨_, _, (hI _ _ _).2 ⟨false, rfl, rfl, by rw [hs]; rfl, fun h => by cases h⟩, ⟨1, [], by simp [enc_list], by simp, by simp, by simp (implicitDefEqProofs := false) [enc_list], by simp (implicitDefEqProofs := false) [enc_list]⟩⟩
              · rw [h3, Bool.true_and] at hs
                refine VW.run good [] ?_; simp (implicitDefEqProofs := false) [enc_list, hk, hg, w1, w2, w3, h1, h2, h3, hd, hdl, hgd, spliceV]
                exact ⟨_, _, (hI _ _ _).2 ⟨_, rfl, rfl, hs, fun _ => hh0 rfl⟩, ⟨1, [], by simp [enc_list], by simp, by simp, by simp (implicitDefEqProofs := false) [enc_list], by simp (implicitDefEqProofs := false) [enc_list]⟩⟩
      · intro f m hi
        obtain ⟨s, rfl, rfl, hs, _⟩ := (hI _ _ _).1 hi
        rw [List.drop_length, List.all_nil, Bool.and_true] at hs
        subst hs
        refine VW.run good [] ?_; simp (implicitDefEqProofs := false) [enc_list]
        exact ⟨0, [], by simp [enc_list], by simp, by simp, by simp (implicitDefEqProofs := false) [enc_list], by simp (implicitDefEqProofs := false) [enc_list]⟩
    · simp (implicitDefEqProofs := false); refine .ofCut hc (VW.run good [] ?_); simp (implicitDefEqProofs := false) [enc_list]
      cases T <;> simp (implicitDefEqProofs := false) [enc_list]
end Go.RS.DC

/- Walks: the program (2): words, the greatest of several, lists that are compared. -/
namespace Go.RS.DC
open Go Go.RS
open Go.RS.Enc (enc dec)
variable {E : VEnv}
theorem slV_al (n : Nat) : slV n none (some (PV.int .i64 n)) (some (PV.int .i64 n)) = some (0, n, some n) := by
  simp [slV, boundV, numV, mOk]
theorem take_al (l : List Int) : List.take l.length (encL l) = encL l := List.take_of_length_le (by rw [encL_length]; exact Nat.le_of_eq (Nat.mul_one _))
theorem v_hour (hE : E.env.fn = G) : Ok E 137 (s1 fun (r : Reading) => some r.Hour) := by
  refine ok1 fun r x hr => ?_
  cases hr
  refine VP.run (A := F137) (goodV_nil) [] (by rw [hE]; rfl) (by simp [F137]) ?_; unfold F137; simp (implicitDefEqProofs := false) [enc_list]
theorem v_minute (hE : E.env.fn = G) : Ok E 139 (s1 fun (r : Reading) => some (IntKind.i64.wrap (r.Minute + 100))) := by
  refine ok1 fun r x hr => ?_
  cases hr
  refine VP.run (A := F139) (goodV_nil) [] (by rw [hE]; rfl) (by simp [F139]) ?_; unfold F139; simp (implicitDefEqProofs := false) [enc_list]
theorem v_second (hE : E.env.fn = G) : Ok E 140 (s1 fun (r : Reading) => some (IntKind.i64.wrap (r.Second + 200))) := by
  refine ok1 fun r x hr => ?_
  cases hr
  refine VP.run (A := F140) (goodV_nil) [] (by rw [hE]; rfl) (by simp [F140]) ?_; unfold F140; simp (implicitDefEqProofs := false) [enc_list]
def vhour : Value := .func (.func 137) #[] #[]
def vminute : Value := .func (.func 139) #[] #[]
def vsecond : Value := .func (.func 140) #[] #[]
abbrev vparts : List Value := [vhour, vminute, vsecond]
abbrev rdl (r : Reading) : VObj := .cells [enc r.Day, enc r.Hour, enc r.Minute, enc r.Second]
theorem v_Words (hE : E.env.fn = G) (hgl : E.gl 0 = some vparts) : Ok E 14 (s1 fun r => some (WordsR r)) := by
  refine ok1 fun r x hr => ?_
  cases hr
  have good := goodV_cons (v_within hE) (goodV_cons (v_hour hE) (goodV_cons (v_minute hE) (goodV_cons (v_second hE) goodV_nil)))
  cases h1 : wi r.Hour 0 99
  · refine VP.run (A := F14) (good) [] (by rw [hE]; rfl) (by simp [F14]) ?_; unfold F14; simp (implicitDefEqProofs := false) [enc_list, WordsR, h1]
  · cases h2 : wi r.Minute 0 99
    · refine VP.run (A := F14) (good) [] (by rw [hE]; rfl) (by simp [F14]) ?_; unfold F14; simp (implicitDefEqProofs := false) [enc_list, WordsR, h1, h2]
    · cases h3 : wi r.Second 0 99
      · refine VP.run (A := F14) (good) [] (by rw [hE]; rfl) (by simp [F14]) ?_; unfold F14; simp (implicitDefEqProofs := false) [enc_list, WordsR, h1, h2, h3]
      · obtain ⟨m0, m1⟩ := (wi_iff _ _ _).1 h2
        obtain ⟨s0, s1⟩ := (wi_iff _ _ _).1 h3
        have w1 : IntKind.i64.wrap (r.Minute + 100) = r.Minute + 100 := wrap64 (by omega) (by omega)
        have w2 : IntKind.i64.wrap (r.Second + 200) = r.Second + 200 := wrap64 (by omega) (by omega)
        have hpr : ∀ fr, (Opd.c (Value.pointer (some { block := 0, off := 0 }))).evV E fr = .lptr [.func 137 [] [], .func 139 [] [], .func 140 [] []] := fun fr => by simp [Opd.evV, PV.ofV, hgl, PV.ofS, vhour, vminute, vsecond]
        refine VP.run (A := F14) (good) [] (by rw [hE]; rfl) (by simp [F14]) ?_; unfold F14; simp (implicitDefEqProofs := false) [enc_list, h1, h2, h3, hpr]
        refine VW.declare 4 1 (by simp) ?_
        have v0 : IntKind.i64.wrap (0 + 1) = 1 := by decide
        have v1 : IntKind.i64.wrap 1 = 1 := by decide
        have v2 : IntKind.i64.wrap 2 = 2 := by decide
        have v3 : IntKind.i64.wrap 3 = 3 := by decide
        obtain ⟨W, hW⟩ : ∃ W, [r.Hour, r.Minute + 100, r.Second + 200] = W := ⟨_, rfl⟩
        have hWl : W.length = 3 := by rw [← hW]; rfl
        have hV : WordsR r = (W, 0) := by unfold WordsR; rw [h1, h2, h3, ← hW]; rfl
        rw [hV]
        have hk : ∀ k : Nat, k < 3 → k = 0 ∨ k = 1 ∨ k = 2 := fun k hk => by omega
        refine VW.loop_to 0 [(4, sl1 1 W)] [rdl r, .vec (encL W)] (True) ?_ (fun hp f m hc => ?_)
        · obtain ⟨Inv, hI⟩ : ∃ Inv : Nat → List (Nat × PV) → VM → Prop, ∀ k f m, Inv k f m ↔ (∃ out : List Int, f = [(1, .ptr 0 4 0), (4, sl1 1 out), (23, .agg [.func 137 [] [], .func 139 [] [], .func 140 [] []]), (24, .int .i64 k)] ∧ m = [rdl r, .vec (encL out)] ∧ out = W.take k ∧ out.length = k) := ⟨_, fun _ _ _ => Iff.rfl⟩
          refine VW.loop_cut Inv 3 ?_ ?_ ?_
          · exact ⟨_, _, (hI _ _ _).2 ⟨[], rfl, rfl, rfl, rfl⟩, ⟨2, [], by simp [enc_list], by simp, by simp, by simp (implicitDefEqProofs := false) [enc_list], by simp (implicitDefEqProofs := false) [enc_list]⟩⟩
          · intro k f m hk3 hi
            obtain ⟨out, rfl, rfl, ho, hl⟩ := (hI _ _ _).1 hi
            have w3 : IntKind.i64.wrap ((k : Int) + 1) = k + 1 := wrap64 (by omega) (by omega)
            have hk4 : (k : Int) < 3 := by omega
            have hf : fits (out.length + 1) 8 = true := fits8L (by omega)
            rcases hk k hk3 with h | h | h
            · have hc : ∀ h', [PV.func 137 [] [], .func 139 [] [], .func 140 [] []][k]'h' = .func 137 [] [] := fun h' => by subst h; rfl
              refine VW.run good [] ?_; simp (implicitDefEqProofs := false) [enc_list, spliceV, w3, hc, hk3, hk4, hf]
              exact ⟨_, _, (hI _ _ _).2 ⟨out ++ [r.Hour], rfl, rfl, by rw [ho, ← hW]; subst h; rfl, by simp [hl]⟩, ⟨2, [], by simp [enc_list], by simp, by simp, by simp (implicitDefEqProofs := false) [enc_list], by simp (implicitDefEqProofs := false) [enc_list]⟩⟩
            · have hc : ∀ h', [PV.func 137 [] [], .func 139 [] [], .func 140 [] []][k]'h' = .func 139 [] [] := fun h' => by subst h; rfl
              refine VW.run good [] ?_; simp (implicitDefEqProofs := false) [enc_list, spliceV, w1, w3, hc, hk3, hk4, hf]
              exact ⟨_, _, (hI _ _ _).2 ⟨out ++ [(r.Minute + 100)], rfl, rfl, by rw [ho, ← hW]; subst h; rfl, by simp [hl]⟩, ⟨2, [], by simp [enc_list], by simp, by simp, by simp (implicitDefEqProofs := false) [enc_list], by simp (implicitDefEqProofs := false) [enc_list]⟩⟩
            · have hc : ∀ h', [PV.func 137 [] [], .func 139 [] [], .func 140 [] []][k]'h' = .func 140 [] [] := fun h' => by subst h; rfl
              refine VW.run good [] ?_; simp (implicitDefEqProofs := false) [enc_list, spliceV, w2, w3, hc, hk3, hk4, hf]
              exact ⟨_, _, (hI _ _ _).2 ⟨out ++ [(r.Second + 200)], rfl, rfl, by rw [ho, ← hW]; subst h; rfl, by simp [hl]⟩, ⟨2, [], by simp [enc_list], by simp, by simp, by simp (implicitDefEqProofs := false) [enc_list], by simp (implicitDefEqProofs := false) [enc_list]⟩⟩
          · intro f m hi
            obtain ⟨out, rfl, rfl, ho, hl⟩ := (hI _ _ _).1 hi
            rw [List.take_of_length_le (by omega)] at ho
            subst ho
            refine VW.run good [] ?_; simp (implicitDefEqProofs := false) [enc_list]
            exact ⟨2, [], by simp [enc_list], by simp, by simp, by simp (implicitDefEqProofs := false) [enc_list], by simp (implicitDefEqProofs := false) [enc_list]⟩
        · refine .ofCut hc (VW.freeze (t := 1) (len := W.length) (o := 0) (q := W.length) (cap := openCap + 1) (e := 1) 4 (by simp) (.ofCut (l := [(4, .lst false W.length 1 (encL W))]) (M := []) ⟨0, [], by simp [enc_list], by simp, by simp, by simp (implicitDefEqProofs := false) [enc_list], by simp (implicitDefEqProofs := false) [enc_list]⟩ ?_))
          refine VW.run good [] ?_; simp (implicitDefEqProofs := false) [enc_list, slV_al, take_al]
theorem v_greatest (hE : E.env.fn = G) : Ok E 94 (s2 fun (n : Int) (l : List Int) => some (l.foldl max n)) := by
  refine ok2 fun n l r hr => ?_
  cases hr
  refine VP.bound fun hb => ?_
  simp [enc_list] at hb
  generalize hT : l.foldl max n = T
  refine VP.run (A := F94) (goodV_nil) [] (by rw [hE]; rfl) (by simp [F94]) ?_; unfold F94; simp (implicitDefEqProofs := false) [enc_list]
  refine VW.loop_to 0 [(0, .int .i64 T)] [] (True) ?_ (fun hp f m hc => ?_)
  · obtain ⟨Inv, hI⟩ : ∃ Inv : Nat → List (Nat × PV) → VM → Prop, ∀ k f m, Inv k f m ↔ (∃ a : Int, f = [(0, .int .i64 a), (7, enc l), (8, .int .i64 l.length), (9, .int .i64 k)] ∧ m = [] ∧ T = (l.drop k).foldl max a) := ⟨_, fun _ _ _ => Iff.rfl⟩
    refine VW.loop_cut Inv l.length ?_ ?_ ?_
    · exact ⟨_, _, (hI _ _ _).2 ⟨n, rfl, rfl, hT.symm⟩, ⟨0, [], by simp [enc_list], by simp, by simp, by simp (implicitDefEqProofs := false) [enc_list], by simp (implicitDefEqProofs := false) [enc_list]⟩⟩
    · intro k f m hk hi
      obtain ⟨a, rfl, rfl, hs⟩ := (hI _ _ _).1 hi
      have w1 : IntKind.i64.wrap ((k : Int) + 1) = k + 1 := wrap64 (by omega) (by omega)
      rw [List.drop_eq_getElem_cons hk, List.foldl_cons] at hs
      have hm : (if a < l[k] then l[k] else a) = max a l[k] := by rw [Int.max_def]; split <;> split <;> omega
      refine VW.run goodV_nil [] ?_; simp (implicitDefEqProofs := false) [enc_list, hk, get_Int l k hk, w1, minmaxV, hm]
      exact ⟨_, _, (hI _ _ _).2 ⟨_, rfl, rfl, hs⟩, ⟨0, [], by simp [enc_list], by simp, by simp, by simp (implicitDefEqProofs := false) [enc_list], by simp (implicitDefEqProofs := false) [enc_list]⟩⟩
    · intro f m hi
      obtain ⟨a, rfl, rfl, hs⟩ := (hI _ _ _).1 hi
      rw [List.drop_length, List.foldl_nil] at hs
      subst hs
      refine VW.run goodV_nil [] ?_; simp (implicitDefEqProofs := false) [enc_list]
      exact ⟨0, [], by simp [enc_list], by simp, by simp, by simp (implicitDefEqProofs := false) [enc_list], by simp (implicitDefEqProofs := false) [enc_list]⟩
  · simp (implicitDefEqProofs := false); refine .ofCut hc (VW.run goodV_nil [] ?_); simp (implicitDefEqProofs := false) [enc_list]
def leastF (a b : Int) : Option Int := if -9223372036854775808 < a ∧ a < 9223372036854775808 ∧ -9223372036854775808 < b ∧ b < 9223372036854775808 then some (min a b) else none
theorem v_least (hE : E.env.fn = G) : Ok E 112 (s2 leastF) := by
  refine ok2 fun a b r hr => ?_
  unfold leastF at hr
  split at hr
  · rename_i h
    cases hr
    have w1 : IntKind.i64.wrap (-a) = -a := wrap64 (by omega) (by omega)
    have w2 : IntKind.i64.wrap (-b) = -b := wrap64 (by omega) (by omega)
    have w4 : IntKind.i64.wrap (min a b) = min a b := wrap64 (by rw [Int.min_def]; split <;> omega) (by rw [Int.min_def]; split <;> omega)
    have w3 : IntKind.i64.wrap (-max (-a) (-b)) = min a b := by
      have : max (-a) (-b) = - min a b := by rw [Int.max_def, Int.min_def]; split <;> split <;> omega
      have hmin : -9223372036854775808 < min a b ∧ min a b < 9223372036854775808 := by rw [Int.min_def]; split <;> omega
      rw [this, wrap64 (by omega) (by omega)]; omega
    have hd : (dec (PV.lst true 1 1 [PV.int .i64 (-b)]) : Option (List Int)) = some [-b] := dec_lst true [-b]
    refine VP.run (A := F112) ((goodV_cons (v_greatest hE) goodV_nil)) [] (by rw [hE]; rfl) (by simp [F112]) ?_; unfold F112; simp (implicitDefEqProofs := false) [enc_list, w1, w2, hd, w3, w4, spliceV]
  · cases hr
end Go.RS.DC

/- Walks: the program (3): lists that are compared; a book with some of its pieces. -/
namespace Go.RS.DC
open Go Go.RS
open Go.RS.Enc (enc dec)
variable {E : VEnv}
theorem v_Equal (hE : E.env.fn = G) : Ok E 110 (s2 fun (a b : List Int) => some (decide (a = b))) := by
  refine ok2 fun a b r hr => ?_
  cases hr
  refine VP.bound fun hb => ?_
  simp [enc_list] at hb
  by_cases hl : a.length = b.length
  · have hl' : (a.length : Int) = (b.length : Int) := by omega
    generalize hT : decide (a = b) = T
    refine VP.run (A := F110) (goodV_nil) [] (by rw [hE]; rfl) (by simp [F110]) ?_; unfold F110; simp (implicitDefEqProofs := false) [enc_list, hl']
    refine VW.loop_to 0 [] [] (T = true) ?_ (fun hp f m hc => ?_)
    · obtain ⟨Inv, hI⟩ : ∃ Inv : Nat → List (Nat × PV) → VM → Prop, ∀ k f m, Inv k f m ↔ (f = [(0, enc a), (1, enc b), (11, enc a), (12, .int .i64 b.length), (13, .int .i64 k)] ∧ m = [] ∧ T = decide (a.drop k = b.drop k)) := ⟨_, fun _ _ _ => Iff.rfl⟩
      refine VW.loop_cut Inv b.length ?_ ?_ ?_
      · exact ⟨_, _, (hI _ _ _).2 ⟨rfl, rfl, hT.symm⟩, ⟨0, [], by simp [enc_list,  hl'], by simp, by simp, by simp (implicitDefEqProofs := false) [enc_list,  hl'], by simp (implicitDefEqProofs := false) [enc_list,  hl']⟩⟩
      · intro k f m hk hi
        obtain ⟨rfl, rfl, hs⟩ := (hI _ _ _).1 hi
        have w1 : IntKind.i64.wrap ((k : Int) + 1) = k + 1 := wrap64 (by omega) (by omega)
        have hka : k < a.length := by omega
        rw [List.drop_eq_getElem_cons hka, List.drop_eq_getElem_cons hk] at hs
        by_cases hw : a[k] = b[k]
        · rw [hw] at hs
          refine VW.run goodV_nil [] ?_; simp (implicitDefEqProofs := false) [enc_list, hk, hka, get_Int a k hka, get_Int b k hk, w1, hw]
          exact ⟨_, _, (hI _ _ _).2 ⟨rfl, rfl, by rw [hs]; simp only [List.cons.injEq, true_and]⟩, ⟨0, [], by simp [enc_list], by simp, by simp, by simp (implicitDefEqProofs := false) [enc_list], by simp (implicitDefEqProofs := false) [enc_list]⟩⟩
        · have hs : T = false := by rw [hs]; simp only [List.cons.injEq, hw, false_and, decide_false]
          refine VW.run goodV_nil [] ?_; simp (implicitDefEqProofs := false) [enc_list, hk, hka, get_Int a k hka, get_Int b k hk, w1, hw, hs]
      · intro f m hi
        obtain ⟨rfl, rfl, hs⟩ := (hI _ _ _).1 hi
        rw [List.drop_length, ← hl, List.drop_length] at hs
        refine VW.run goodV_nil [] ?_; simp (implicitDefEqProofs := false) [enc_list]
        exact ⟨by rw [hs]; rfl, ⟨0, [], by simp [enc_list], by simp, by simp, by simp (implicitDefEqProofs := false) [enc_list], by simp (implicitDefEqProofs := false) [enc_list]⟩⟩
    · simp (implicitDefEqProofs := false); refine .ofCut hc (VW.run goodV_nil [] ?_); simp (implicitDefEqProofs := false) [enc_list, hp]
  · have hl' : ¬ (a.length : Int) = (b.length : Int) := by omega
    have hne : decide (a = b) = false := by rw [decide_eq_false_iff_not]; intro h; exact hl (by rw [h])
    refine VP.run (A := F110) (goodV_nil) [] (by rw [hE]; rfl) (by simp [F110]) ?_; unfold F110; simp (implicitDefEqProofs := false) [enc_list, hl', hne]
theorem v_isNaN (hE : E.env.fn = G) : Ok E 120 (s1 fun (n : Int) => some false) := by
  refine ok1 fun n r hr => ?_
  cases hr
  refine VP.run (A := F120) (goodV_nil) [] (by rw [hE]; rfl) (by simp [F120]) ?_; unfold F120; simp (implicitDefEqProofs := false) [enc_list]
def cmpI (a b : Int) : Int := if a < b then -1 else if b < a then 1 else 0
theorem v_cmp (hE : E.env.fn = G) : Ok E 118 (s2 fun (a b : Int) => some (cmpI a b)) := by
  refine ok2 fun a b r hr => ?_
  cases hr
  have good := goodV_cons (v_isNaN hE) goodV_nil
  by_cases h1 : a < b
  · refine VP.run (A := F118) (good) [] (by rw [hE]; rfl) (by simp [F118]) ?_; unfold F118; simp (implicitDefEqProofs := false) [enc_list, cmpI, h1]
  · by_cases h2 : b < a
    · refine VP.run (A := F118) (good) [] (by rw [hE]; rfl) (by simp [F118]) ?_; unfold F118; simp (implicitDefEqProofs := false) [enc_list, cmpI, h1, h2]
    · refine VP.run (A := F118) (good) [] (by rw [hE]; rfl) (by simp [F118]) ?_; unfold F118; simp (implicitDefEqProofs := false) [enc_list, cmpI, h1, h2]
def cmpL : List Int → List Int → Int
  | [], [] => 0
  | [], _ :: _ => -1
  | _ :: _, [] => 1
  | x :: a, y :: b => if cmpI x y = 0 then cmpL a b else cmpI x y
theorem v_Compare (hE : E.env.fn = G) : Ok E 108 (s2 fun (a b : List Int) => some (cmpL a b)) := by
  refine ok2 fun a b r hr => ?_
  cases hr
  refine VP.bound fun hb => ?_
  simp [enc_list] at hb
  have good := goodV_cons (v_cmp hE) goodV_nil
  generalize hT : cmpL a b = T
  refine VP.run (A := F108) (good) [] (by rw [hE]; rfl) (by simp [F108]) ?_; unfold F108; simp (implicitDefEqProofs := false) [enc_list]
  refine VW.loop_to 0 [(0, enc a), (1, enc b)] [] (a.length ≤ b.length ∧ T = if a.length < b.length then -1 else 0) ?_ (fun hp f m hc => ?_)
  · obtain ⟨Inv, hI⟩ : ∃ Inv : Nat → List (Nat × PV) → VM → Prop, ∀ k f m, Inv k f m ↔ (f = [(0, enc a), (1, enc b), (9, enc a), (10, .int .i64 a.length), (11, .int .i64 k)] ∧ m = [] ∧ T = cmpL (a.drop k) (b.drop k) ∧ (b.length < a.length → k ≤ b.length)) := ⟨_, fun _ _ _ => Iff.rfl⟩
    refine VW.loop_cut Inv a.length ?_ ?_ ?_
    · exact ⟨_, _, (hI _ _ _).2 ⟨rfl, rfl, hT.symm, fun _ => Nat.zero_le _⟩, ⟨0, [], by simp [enc_list], by simp, by simp, by simp (implicitDefEqProofs := false) [enc_list], by simp (implicitDefEqProofs := false) [enc_list]⟩⟩
    · intro k f m hk hi
      obtain ⟨rfl, rfl, hs, hkb⟩ := (hI _ _ _).1 hi
      have w1 : IntKind.i64.wrap ((k : Int) + 1) = k + 1 := wrap64 (by omega) (by omega)
      rw [List.drop_eq_getElem_cons hk] at hs
      by_cases hlt : k < b.length
      · have hn : ¬ (b.length : Int) ≤ (k : Int) := by omega
        have hn' : ¬ b.length ≤ k := by omega
        rw [List.drop_eq_getElem_cons hlt, cmpL] at hs
        by_cases hc : cmpI a[k] b[k] = 0
        · rw [if_pos hc] at hs
          refine VW.run good [] ?_; simp (implicitDefEqProofs := false) [enc_list, hk, hlt, hn, hn', get_Int a k hk, get_Int b k hlt, w1, hc]
          exact ⟨_, _, (hI _ _ _).2 ⟨rfl, rfl, hs, fun h => by omega⟩, ⟨0, [], by simp [enc_list], by simp, by simp, by simp (implicitDefEqProofs := false) [enc_list], by simp (implicitDefEqProofs := false) [enc_list]⟩⟩
        · rw [if_neg hc] at hs
          refine VW.run good [] ?_; simp (implicitDefEqProofs := false) [enc_list, hk, hlt, hn, hn', get_Int a k hk, get_Int b k hlt, w1, hc, hs]
      · have hn : (b.length : Int) ≤ (k : Int) := by omega
        have hn' : b.length ≤ k := by omega
        rw [List.drop_eq_nil_of_le hn', cmpL] at hs
        refine VW.run good [] ?_; simp (implicitDefEqProofs := false) [enc_list, hk, hlt, hn, hn', get_Int a k hk, w1, hs]
    · intro f m hi
      obtain ⟨rfl, rfl, hs, hkb⟩ := (hI _ _ _).1 hi
      rw [List.drop_length] at hs
      refine VW.run good [] ?_; simp (implicitDefEqProofs := false) [enc_list]
      have hle : a.length ≤ b.length := by
        by_cases h : b.length < a.length
        · have := hkb h; omega
        · omega
      refine ⟨⟨hle, ?_⟩, ⟨0, [], by simp [enc_list], by simp, by simp, by simp (implicitDefEqProofs := false) [enc_list], by simp (implicitDefEqProofs := false) [enc_list]⟩⟩
      rw [hs]
      by_cases h : a.length < b.length
      · rw [if_pos h, List.drop_eq_getElem_cons h, cmpL]
      · rw [if_neg h, List.drop_eq_nil_of_le (by omega), cmpL]
  · obtain ⟨h1, h2⟩ := hp
    by_cases h : a.length < b.length
    · have h' : (a.length : Int) < (b.length : Int) := by omega
      rw [if_pos h] at h2
      simp (implicitDefEqProofs := false); refine .ofCut hc (VW.run good [] ?_); simp (implicitDefEqProofs := false) [enc_list, h, h', h2]
    · have h' : ¬ (a.length : Int) < (b.length : Int) := by omega
      rw [if_neg h] at h2
      simp (implicitDefEqProofs := false); refine .ofCut hc (VW.run good [] ?_); simp (implicitDefEqProofs := false) [enc_list, h, h', h2]
def betterL (a b : List Int) : Bool := decide (a.length < b.length) || (decide (a.length = b.length) && decide (cmpL a b < 0))
theorem v_better (hE : E.env.fn = G) : Ok E 107 (s2 fun (a b : List Int) => some (betterL a b)) := by
  refine ok2 fun a b r hr => ?_
  cases hr
  have good := goodV_cons (v_Compare hE) goodV_nil
  by_cases h1 : a.length < b.length
  · have h1' : (a.length : Int) < (b.length : Int) := by omega
    refine VP.run (A := F107) (good) [] (by rw [hE]; rfl) (by simp [F107]) ?_; unfold F107; simp (implicitDefEqProofs := false) [enc_list, betterL, h1, h1']
  · have h1' : ¬ (a.length : Int) < (b.length : Int) := by omega
    by_cases h2 : a.length = b.length
    · have h2' : (a.length : Int) = (b.length : Int) := by omega
      refine VP.run (A := F107) (good) [] (by rw [hE]; rfl) (by simp [F107]) ?_; unfold F107; simp (implicitDefEqProofs := false) [enc_list, betterL, h1, h1', h2, h2']
    · have h2' : ¬ (a.length : Int) = (b.length : Int) := by omega
      refine VP.run (A := F107) (good) [] (by rw [hE]; rfl) (by simp [F107]) ?_; unfold F107; simp (implicitDefEqProofs := false) [enc_list, betterL, h1, h1', h2, h2']
/-- A book, and which of its pieces can be used. -/
abbrev BookC := Cat Book (Arr 10 Bool)
def canA (l : List Int) : Arr 10 Bool := ⟨(List.range 10).map fun (i : Nat) => l.contains (i : Int), by simp⟩
theorem canA_set (l : List Int) (k : Nat) : (canA (l ++ [(k : Int)])).l = (canA l).l.set k true := by
  apply List.ext_getElem
  · simp [canA]
  · intro i h1 h2
    simp only [canA, List.getElem_map, List.getElem_range, List.getElem_set]
    by_cases h : k = i
    · subst h; simp
    · rw [if_neg h]
      have : ¬ (i : Int) = (k : Int) := fun e => h (by omega)
      simp [this]
theorem canA_nil : (canA []).l = List.replicate 10 false := by decide
theorem canA_get (l : List Int) (i : Nat) (h : i < 10) : (canA l).l[i]'(by rw [(canA l).h]; exact h) = l.contains (i : Int) := by simp [canA]
theorem take_bools (b : Arr 10 Bool) : List.take 10 (encL b.l) = encL b.l := List.take_of_length_le (by rw [encL_length, b.h]; exact Nat.le_refl _)
theorem fzL_bools (M : VM) : ∀ l : List Bool, PV.fzL M (encL l) = encL l
  | [] => rfl
  | x :: l => by
    have e : encL (x :: l) = .bool x :: encL l := rfl
    rw [e, PV.fzL, fzL_bools M l]
    simp
def openF (b : Book) (l : List Int) : Option BookC := if ∀ k ∈ l, 0 ≤ k ∧ k < 10 then some ⟨b, canA l⟩ else none
theorem splice_can (p : List PV) (l : List Bool) (d : Nat) (v : Bool) (hp : p.length = 6) (h : d < l.length) : spliceV (p ++ encL l) (6 + d) [.bool v] = p ++ encL (l.set d v) := by
  unfold spliceV
  have e : l.set d v = l.take d ++ v :: l.drop (d + 1) := by rw [List.set_eq_take_append_cons_drop, if_pos h]
  have e1 := encL_take l d
  have e2 := encL_drop l (d + 1)
  rw [show El.sz Bool = 1 from rfl, Nat.mul_one] at e1 e2
  rw [e, ← encL_append, List.take_append, List.drop_append, hp, List.take_of_length_le (by omega), List.drop_eq_nil_of_le (by simp; omega)]
  rw [show 6 + d - 6 = d by omega, e1, show 6 + d + [PV.bool v].length - 6 = d + 1 by simp; omega, e2]
  simp [encL_cons]
theorem scal_bools (l : List Bool) : (encL l).all PV.scal = true := by
  induction l with
  | nil => rfl
  | cons x l ih =>
    have e : encL (x :: l) = .bool x :: encL l := rfl
    rw [e, List.all_cons, ih]; rfl
@[simp] theorem und_bools (j : Nat) (l : List Bool) : (∀ a ∈ encL l, PV.und j a = true) ↔ True := by
  simp only [iff_true]
  intro a ha
  obtain ⟨x, _, hx⟩ := List.mem_flatMap.1 ha
  simp [El.cells] at hx
  subst hx; rfl
theorem scal_bool (x : Bool) : PV.scal (.bool x) = true := rfl
/-- The cells of an opened book. -/
abbrev kbl (b : Book) (l : List Bool) : VObj := .cells (enc b.Discs :: enc b.Pieces :: enc b.Pause.Low :: enc b.Pause.High :: enc b.Rest.Low :: enc b.Rest.High :: encL l)
theorem enc_BookC (b : Book) (a : Arr 10 Bool) : enc (Cat.mk b a : BookC) = .agg (enc b.Discs :: enc b.Pieces :: enc b.Pause.Low :: enc b.Pause.High :: enc b.Rest.Low :: enc b.Rest.High :: encL a.l) := rfl
theorem dec_BookC (b : Book) (a : Arr 10 Bool) : (dec (PV.agg (.lst false b.Discs.length 1 (encL b.Discs) :: .lst false b.Pieces.length 4 (encL b.Pieces) :: .int .i64 b.Pause.Low :: .int .i64 b.Pause.High :: .int .i64 b.Rest.Low :: .int .i64 b.Rest.High :: encL a.l)) : Option BookC) = some ⟨b, a⟩ := dec_Cat b a
abbrev z16 : List PV := [.nilS, .nilS, .int .i64 0, .int .i64 0, .int .i64 0, .int .i64 0, .bool false, .bool false, .bool false, .bool false, .bool false, .bool false, .bool false, .bool false, .bool false, .bool false]
set_option maxHeartbeats 1600000 in
set_option maxRecDepth 20000 in
theorem v_opened (hE : E.env.fn = G) : Ok E 58 (s2 openF) := by
  refine ok2 fun b l r hr => ?_
  unfold openF at hr
  split at hr
  · rename_i hl
    cases hr
    refine VP.bound fun hb => ?_
    simp [enc_list] at hb
    have hce : encL (canA []).l = [.bool false, .bool false, .bool false, .bool false, .bool false, .bool false, .bool false, .bool false, .bool false, .bool false] := by rw [canA_nil]; rfl
    have h10 : ∀ l, (canA l).l.length = 10 := fun l => (canA l).h
    have hd16 : ∀ (l : List Int) (a b c d e f : PV), List.drop 16 (a :: b :: c :: d :: e :: f :: encL (canA l).l) = [] := fun l a b c d e f => List.drop_eq_nil_of_le (by simp [h10])
    refine VP.run (A := F58) (goodV_nil) [] (by rw [hE]; rfl) (by simp [F58]) ?_; unfold F58; simp (implicitDefEqProofs := false) [enc_list, spliceV]
    refine VW.loop_to 0 [(4, .ptr 1 16 0), (5, .ptr 2 16 0)] [bcl b, .cells z16, kbl b (canA l).l] (True) ?_ (fun hp f m hc => ?_)
    · obtain ⟨Inv, hI⟩ : ∃ Inv : Nat → List (Nat × PV) → VM → Prop, ∀ k f m, Inv k f m ↔ (f = [(4, .ptr 1 16 0), (5, .ptr 2 16 0), (10, enc l), (11, .int .i64 l.length), (12, .int .i64 k)] ∧ m = [bcl b, .cells z16, kbl b (canA (l.take k)).l]) := ⟨_, fun _ _ _ => Iff.rfl⟩
      refine VW.loop_cut Inv l.length ?_ ?_ ?_
      · exact ⟨_, _, (hI _ _ _).2 ⟨rfl, rfl⟩, ⟨3, [], by simp [enc_list,  hce], by simp, by simp, by simp (implicitDefEqProofs := false) [enc_list,  hce], by simp (implicitDefEqProofs := false) [enc_list,  hce]⟩⟩
      · intro k f m hk hi
        obtain ⟨rfl, rfl⟩ := (hI _ _ _).1 hi
        have w1 : IntKind.i64.wrap ((k : Int) + 1) = k + 1 := wrap64 (by omega) (by omega)
        have hx := hl _ (List.getElem_mem hk)
        have hg := get_Int l k hk
        have ht := List.take_succ_eq_append_getElem hk
        generalize l[k] = x at *
        obtain ⟨d, rfl⟩ : ∃ d : Nat, x = d := ⟨x.toNat, by omega⟩
        have hd : d < 10 := by omega
        have hd1 : (d : Int) < 10 := by omega
        have hd2 : 6 + d + 1 ≤ 16 := by omega
        have hset := canA_set (l.take k) d
        rw [← ht] at hset
        have hsp : ∀ (a b c d' e g : PV), spliceV (a :: b :: c :: d' :: e :: g :: encL (canA (l.take k)).l) (6 + d) [.bool true] = a :: b :: c :: d' :: e :: g :: encL (canA (l.take (k + 1))).l := fun a b c d' e g => by rw [hset]; exact splice_can [a, b, c, d', e, g] _ d true rfl (by rw [h10]; exact hd)
        refine VW.run goodV_nil [] ?_; simp (implicitDefEqProofs := false) [enc_list, hk, hg, w1, h10, hd, hd1, hd2, hsp]
        exact ⟨_, _, (hI _ _ _).2 ⟨rfl, rfl⟩, ⟨3, [], by simp [enc_list], by simp, by simp, by simp (implicitDefEqProofs := false) [enc_list], by simp (implicitDefEqProofs := false) [enc_list]⟩⟩
      · intro f m hi
        obtain ⟨rfl, rfl⟩ := (hI _ _ _).1 hi
        refine VW.run goodV_nil [] ?_; simp (implicitDefEqProofs := false) [enc_list]
        exact ⟨3, [], by simp [enc_list], by simp, by simp, by simp (implicitDefEqProofs := false) [enc_list], by simp (implicitDefEqProofs := false) [enc_list]⟩
    · simp (implicitDefEqProofs := false); refine .ofCut hc (VW.run goodV_nil [] ?_); simp (implicitDefEqProofs := false) [enc_list, h10, hd16, take_bools, spliceV, fzL_bools, enc_BookC, scal_bools, scal_int, scal_bool, scal_lst, -PV.scal, -List.all_eq_true]
  · cases hr
end Go.RS.DC

/- Walks: the program (4): the numbers of all pieces; the pieces that go on with a text, one by one. -/
namespace Go.RS.DC
open Go Go.RS
open Go.RS.Enc (enc dec)
variable {E : VEnv}
def allL (n : Nat) : List Int := (List.range n).map fun (i : Nat) => (i : Int)
theorem allL_succ (n : Nat) : allL (n + 1) = allL n ++ [(n : Int)] := by simp [allL, List.range_succ]
theorem mem_allL {n : Nat} {k : Int} : k ∈ allL n ↔ 0 ≤ k ∧ k < n := by
  unfold allL
  rw [List.mem_map]
  constructor
  · rintro ⟨i, hi, rfl⟩; rw [List.mem_range] at hi; omega
  · rintro ⟨h0, h1⟩; exact ⟨k.toNat, by rw [List.mem_range]; omega, by omega⟩
def allF (b : Book) : Option (List Int) := if b.Pieces.length ≤ 10 then some (allL b.Pieces.length) else none
theorem v_all (hE : E.env.fn = G) : Ok E 59 (s1 allF) := by
  refine ok1 fun b r hr => ?_
  unfold allF at hr
  split at hr
  · rename_i hl
    cases hr
    refine VP.run (A := F59) (goodV_nil) [] (by rw [hE]; rfl) (by simp [F59]) ?_; unfold F59; simp (implicitDefEqProofs := false) [enc_list]
    refine VW.declare 3 1 (by simp) ?_
    obtain ⟨W, hW⟩ : ∃ W, allL b.Pieces.length = W := ⟨_, rfl⟩
    rw [hW]
    refine VW.loop_to 0 [(3, sl1 1 W)] [bcl b, .vec (encL W)] (True) ?_ (fun hp f m hc => ?_)
    · obtain ⟨Inv, hI⟩ : ∃ Inv : Nat → List (Nat × PV) → VM → Prop, ∀ k f m, Inv k f m ↔ (∃ out : List Int, f = [(3, sl1 1 out), (7, .int .i64 b.Pieces.length), (8, .int .i64 k)] ∧ m = [bcl b, .vec (encL out)] ∧ out = allL k ∧ out.length = k) := ⟨_, fun _ _ _ => Iff.rfl⟩
      refine VW.loop_cut Inv b.Pieces.length ?_ ?_ ?_
      · exact ⟨_, _, (hI _ _ _).2 ⟨[], rfl, rfl, rfl, rfl⟩, ⟨2, [], by simp [enc_list], by simp, by simp, by simp (implicitDefEqProofs := false) [enc_list], by simp (implicitDefEqProofs := false) [enc_list]⟩⟩
      · intro k f m hk hi
        obtain ⟨out, rfl, rfl, ho, hlo⟩ := (hI _ _ _).1 hi
        have w1 : IntKind.i64.wrap ((k : Int) + 1) = k + 1 := wrap64 (by omega) (by omega)
        have hf : fits (out.length + 1) 8 = true := fits8L (by omega)
        refine VW.run goodV_nil [] ?_; simp (implicitDefEqProofs := false) [enc_list, hk, w1, hf, spliceV]
        exact ⟨_, _, (hI _ _ _).2 ⟨out ++ [(k : Int)], rfl, rfl, by rw [ho, allL_succ], by simp [hlo]⟩, ⟨2, [], by simp [enc_list], by simp, by simp, by simp (implicitDefEqProofs := false) [enc_list], by simp (implicitDefEqProofs := false) [enc_list]⟩⟩
      · intro f m hi
        obtain ⟨out, rfl, rfl, ho, hlo⟩ := (hI _ _ _).1 hi
        rw [hW] at ho
        subst ho
        refine VW.run goodV_nil [] ?_; simp (implicitDefEqProofs := false) [enc_list]
        exact ⟨2, [], by simp [enc_list], by simp, by simp, by simp (implicitDefEqProofs := false) [enc_list], by simp (implicitDefEqProofs := false) [enc_list]⟩
    · simp (implicitDefEqProofs := false); refine .ofCut hc (VW.run goodV_nil [] ?_); simp (implicitDefEqProofs := false) [enc_list]
  · cases hr
/-! ### The pieces that go on -/
def goOn (b : Book) (sel : Nat → Bool) (text : List Int) (p i : Nat) : Bool := sel i && fitsB (pieceN b i) text p
theorem slV_mid {n i j : Nat} (h : i ≤ j) (hj : j ≤ n) : slV n (some (PV.int .i64 i)) (some (PV.int .i64 j)) none = some (i, j, none) := by
  simp [slV, boundV, numV, mOk, h, hj]
theorem take_drop_In (l : List Int) (i j : Nat) : List.take j (List.drop i (encL l)) = encL ((l.drop i).take j) := by
  have h1 := encL_drop l i
  have h2 := encL_take (l.drop i) j
  rw [show El.sz Int = 1 from rfl, Nat.mul_one] at h1 h2
  rw [h1, h2]
theorem dec_mid (ex : Bool) (l : List Int) (n : Nat) (h : n = l.length) : (dec (PV.lst ex n 1 (encL l)) : Option (List Int)) = some l := by subst h; exact dec_lst ex l
theorem can_at (a : Arr 10 Bool) (i : Nat) (h : i < 10) : ∃ v, a.l.getD i false = v ∧ ∀ (p : List PV), p.length = 6 → (p ++ encL a.l)[6 + i]? = some (PV.bool v) := by
  refine ⟨_, rfl, fun p hp => ?_⟩
  rw [List.getElem?_append_right (by omega), hp, show 6 + i - 6 = i by omega]
  have hl : i < a.l.length := by rw [a.h]; exact h
  have e : ∀ (l : List Bool) (i : Nat) (h : i < l.length), (encL l)[i]? = some (PV.bool (l.getD i false)) := by
    intro l
    induction l with
    | nil => intro i h; simp at h
    | cons x l ih =>
      intro i h
      have e : encL (x :: l) = .bool x :: encL l := rfl
      rw [e]
      cases i with
      | zero => rfl
      | succ i => simpa using ih i (by simpa using h)
  exact e _ _ hl
theorem vc_next (hE : E.env.fn = G) {g : Bool} {M : VM} {b : Book} {a : Arr 10 Bool} {text : List Int} {p : Int} {K : PV → VM → Prop} (hg : g = false)
    (hk : K (.func 109 [] [.ptr M.length 16 0, .ptr (M.length + 2) 1 0, .ptr (M.length + 1) 1 0]) (M ++ [kbl b a.l, .cells [enc text], .cells [.int .i64 p]])) :
    VC E g (.func 90 [] []) [.agg (enc b.Discs :: enc b.Pieces :: enc b.Pause.Low :: enc b.Pause.High :: enc b.Rest.Low :: enc b.Rest.High :: encL a.l), enc text, .int .i64 p] M K := by
  subst hg
  refine VC.func (A := F90) (by rw [hE]; rfl) (by simp [F90]) ?_
  unfold F90
  refine VW.run goodV_nil [] ?_
  have h16 : (encL a.l).length = 10 := by rw [encL_length, a.h]; rfl
  simp (implicitDefEqProofs := false) [enc_list, h16]
  exact hk
set_option maxHeartbeats 1600000 in
set_option maxRecDepth 20000 in
theorem VW.rangeNext (hE : E.env.fn = G) {f : Opd} {ps : List Nat} {assign body : ACode} {bb ab tb n0 k p : Nat} {b : Book} {a : Arr 10 Bool} {text : List Int} {fr : VFr} {M : VM} {Q : AExit → VFr → VM → Prop} (J : Nat → VM → Prop) (D : AExit → VM → Prop)
    (hf : f.evV E fr = .func 109 [] [.ptr bb 16 0, .ptr ab 1 0, .ptr tb 1 0]) (o : BookOk b) (htl : text.length ≤ 100) (hp : p ≤ text.length) (hps : ps.length = 1) (hfr : ∀ i, (fr i).und (n0 + 1) = true) (hM : M.length = n0) (h0 : J 0 M)
    (hJ : ∀ i pre, J i pre → pre.length = n0 ∧ pre[bb]? = some (kbl b a.l) ∧ pre[ab]? = some (.cells [.int .i64 p]) ∧ pre[tb]? = some (.cells [enc text]) ∧ ∀ o ∈ pre, o.und (n0 + 1))
    (skip : ∀ i pre, i < b.Pieces.length → J i pre → goOn b (fun i => a.l.getD i false) text p i = false → J (i + 1) pre)
    (step : ∀ i pre, i < b.Pieces.length → J i pre → goOn b (fun i => a.l.getD i false) text p i = true → ∀ (c6 : List PV) (Lr Lb : VObj), (∀ n, (∀ i, (fr i).und n = true) → Lb.und n) → (∀ n, ∀ v ∈ c6, v.und n = true) →
      VW E (n0 + 2) assign (setParamsV fr ps [.int .i64 i]) (pre ++ [Lr, .cells c6]) fun e fr1 M1 => e = .normal ∧ ∃ ext, M1 = pre ++ ([Lr, .cells c6] ++ ext) ∧
        VW E (n0 + 2) body fr1 (pre ++ ([Lb, .cells c6] ++ ext)) fun e fr2 M2 => ∃ pre2 ext2, M2 = pre2 ++ Lb :: ext2 ∧ pre2.length = n0 ∧ ((e = .normal ∧ J (i + 1) pre2) ∨ (e ≠ .normal ∧ D e pre2)))
    (fin : ∀ pre L ext, J b.Pieces.length pre → Q .normal fr (pre ++ .loop L :: ext))
    (out : ∀ e pre L ext, D e pre → pre.length = n0 → e ≠ .normal → Q e fr (pre ++ .loop L :: ext)) : VW E k (.rangeFunc f ps assign body) fr M Q := by
  have p2 := o.p2
  have good := goodV_cons (v_Equal hE) goodV_nil
  refine VW.rangeFunc hf (VC.func (A := F109) (by rw [hE]; rfl) (by simp [F109]) ?_)
  obtain ⟨hl0, hb0, ha0, ht0, hu0⟩ := hJ 0 M h0
  have hlen : (M ++ [VObj.loop ⟨fr, ps, assign, body, .ready, none⟩]).length = n0 + 1 := by simp [hM]
  rw [hlen, hM]
  generalize hL0 : VObj.loop ⟨fr, ps, assign, body, .ready, none⟩ = L0 at *
  have hu : L0.und (n0 + 1) := by rw [← hL0]; exact hfr
  have h16 : (encL a.l).length = 10 := by rw [encL_length, a.h]; rfl
  unfold F109
  refine VW.run good [] ?_
  simp (implicitDefEqProofs := false) [enc_list, get_hr hb0, h16]
  obtain ⟨Inv, hI⟩ : ∃ Inv : Nat → List (Nat × PV) → VM → Prop, ∀ i l m, Inv i l m ↔ (∃ pre, J i pre ∧ l = [(0, .yield n0), (1, .ptr bb 16 0), (2, .ptr ab 1 0), (3, .ptr tb 1 0), (9, enc b.Pieces), (10, .int .i64 b.Pieces.length), (11, .int .i64 i)] ∧ m = pre ++ [L0]) := ⟨_, fun _ _ _ => Iff.rfl⟩
  refine VW.loop_cut Inv b.Pieces.length ?_ ?_ ?_
  · have hb1 : bb < n0 + 1 := by have := (List.getElem?_eq_some_iff.1 hb0).1; omega
    have hb2 : ab < n0 + 1 := by have := (List.getElem?_eq_some_iff.1 ha0).1; omega
    have hb3 : tb < n0 + 1 := by have := (List.getElem?_eq_some_iff.1 ht0).1; omega
    exact ⟨_, _, (hI _ _ _).2 ⟨M, h0, rfl, rfl⟩, cut_pre hM hu0 hu (by simp (implicitDefEqProofs := false) [enc_list, hb1, hb2, hb3])⟩
  · intro i l m hi hv
    obtain ⟨pre, hj, rfl, rfl⟩ := (hI _ _ _).1 hv
    obtain ⟨hl, hb, ha, ht, hup⟩ := hJ i pre hj
    have hb1 : bb < n0 + 1 := by have := (List.getElem?_eq_some_iff.1 hb0).1; omega
    have hb2 : ab < n0 + 1 := by have := (List.getElem?_eq_some_iff.1 ha0).1; omega
    have hb3 : tb < n0 + 1 := by have := (List.getElem?_eq_some_iff.1 ht0).1; omega
    have w1 : IntKind.i64.wrap ((i : Int) + 1) = i + 1 := wrap64 (by omega) (by omega)
    have po := pieceN_ok o hi
    have hpn : pieceN b i = b.Pieces[i] := by unfold pieceN; rw [List.getD_eq_getElem?_getD, List.getElem?_eq_getElem hi]; rfl
    have hst := step i pre hi hj
    have hsk := skip i pre hi hj
    have hgo : goOn b (fun i => a.l.getD i false) text p i = (a.l.getD i false && fitsB (pieceN b i) text p) := rfl
    rw [hgo] at hst hsk
    have hg := get_Piece b.Pieces i hi
    rw [hpn] at hst hsk po
    have pw1 := po.w1
    have pw2 := po.w2
    generalize b.Pieces[i] = x at *
    obtain ⟨can, hcan, hcell⟩ := can_at a i (by omega)
    rw [hcan] at hst hsk
    have hcell' : ∀ (c d e f g h : PV) (h' : 6 + i < (c :: d :: e :: f :: g :: h :: encL a.l).length), (c :: d :: e :: f :: g :: h :: encL a.l)[6 + i]'h' = PV.bool can := fun c d e f g h h' => Option.some.inj ((List.getElem?_eq_getElem h').symm.trans (hcell [c, d, e, f, g, h] rfl))
    have hi10 : (i : Int) < 10 := by omega
    have hi10' : i < 10 := by omega
    have hi16 : 6 + i < 16 := by omega
    cases can
    · refine VW.run good [] ?_; simp (implicitDefEqProofs := false) [enc_list, hi, hi10, hi10', hi16, hg, get_hr hb, get_hr ha, get_hr ht, h16, hcell', get_pre hl, get_pre0 hl, set_pre hl, spliceV, w1]
      exact ⟨_, _, (hI _ _ _).2 ⟨pre, hsk rfl, rfl, rfl⟩, cut_pre hl hup hu (by simp (implicitDefEqProofs := false) [enc_list, hb1, hb2, hb3])⟩
    · obtain ⟨q, hq⟩ : ∃ q, p + x.Words.length = q := ⟨_, rfl⟩
      have w2 : IntKind.i64.wrap ((p : Int) + x.Words.length) = (q : Int) := by rw [wrap64 (by omega) (by omega)]; omega
      by_cases hle : q ≤ text.length
      · have hle' : ¬ (text.length : Int) < (q : Int) := by omega
        have hle2 : ¬ text.length < q := by omega
        have hplt : p < text.length := by omega
        have hsub : q - p = x.Words.length := by omega
        have hdm := fun ex => dec_mid ex ((text.drop p).take x.Words.length) x.Words.length (by rw [List.length_take, List.length_drop]; omega)
        have hsl := slV_mid (n := text.length) (i := p) (j := q) (by omega) hle
        by_cases heq : x.Words = (text.drop p).take x.Words.length
        · have hfit : fitsB x text p = true := by
            unfold fitsB; rw [hq, decide_eq_true hle, decide_eq_true heq.symm]; rfl
          rw [← heq] at hdm
          rw [hfit] at hst
          refine VW.run good [] ?_; simp (implicitDefEqProofs := false) [enc_list, hi, hi10, hi10', hi16, hg, get_hr hb, get_hr ha, get_hr ht, h16, hcell', get_pre hl, get_pre0 hl, set_pre hl, spliceV, w1, w2, hle', hle2, hsl, hplt, hsub, take_drop_In, ← heq, hdm, spc_yield]
          refine VC.yield (L := ⟨fr, ps, assign, body, .ready, none⟩) (by rw [get_pre0 hl]; simp [hL0]) (by simp [hps]) ?_
          have hM3 : ∀ a : VObj, (pre ++ [L0, a]).length = n0 + 2 := fun a => by simp [hl]
          rw [hM3]
          refine (hst rfl _ L0 (.loop ⟨fr, ps, assign, body, .busy, none⟩) (fun n hn => hn) (fun n => by simp (implicitDefEqProofs := false))).mono ?_
          rintro e fr1 M1 ⟨rfl, ext, rfl, hbody⟩
          refine ⟨rfl, ⟨fr, ps, assign, body, .ready, none⟩, by rw [get_pre0 hl]; simp [hL0], rfl, ?_⟩
          rw [set_pre0 hl]
          refine hbody.mono ?_
          rintro e fr2 M2 ⟨pre2, ext2, rfl, hl2, hres⟩
          refine ⟨⟨fr, ps, assign, body, .busy, none⟩, by rw [get_pre0 hl2]; rfl, ?_⟩
          rw [set_pre0 hl2]
          rcases hres with ⟨rfl, hj2⟩ | ⟨hne, hd⟩
          · simp (implicitDefEqProofs := false) [enc_list, AExit.goesOn, AExit.stateAfter, AExit.jump, hL0, w1]
            obtain ⟨_, _, _, _, hu2⟩ := hJ _ _ hj2
            exact ⟨_, _, (hI _ _ _).2 ⟨pre2, hj2, rfl, rfl⟩, cut_pre hl2 hu2 hu (by simp (implicitDefEqProofs := false) [enc_list, hb1, hb2, hb3])⟩
          · have hgo : e.goesOn = false := by
              cases e
              · exact absurd rfl hne
              · rfl
              · rfl
            have hstt : ¬ e.stateAfter = LoopState.busy := by cases e <;> simp [AExit.stateAfter]
            simp (implicitDefEqProofs := false) [enc_list, hgo, get_pre0 hl2, set_pre0 hl2, pend_jump, hstt]
            exact out e pre2 _ _ hd hl2 hne
        · have hfit : fitsB x text p = false := by
            unfold fitsB; rw [hq, decide_eq_true hle, decide_eq_false (fun h => heq h.symm)]; rfl
          obtain ⟨Y, hY⟩ : ∃ Y, (text.drop p).take x.Words.length = Y := ⟨_, rfl⟩
          rw [hY] at hdm heq
          have hne : (x.Words = Y) = False := eq_false heq
          clear heq
          refine VW.run good [] ?_; simp (implicitDefEqProofs := false) [enc_list, hi, hi10, hi10', hi16, hg, get_hr hb, get_hr ha, get_hr ht, h16, hcell', get_pre hl, get_pre0 hl, set_pre hl, spliceV, w1, w2, hle', hle2, hsl, hplt, hsub, take_drop_In, hY, hdm, hne]
          exact ⟨_, _, (hI _ _ _).2 ⟨pre, hsk (by rw [hfit]; rfl), rfl, rfl⟩, cut_pre hl hup hu (by simp (implicitDefEqProofs := false) [enc_list, hb1, hb2, hb3])⟩
      · have hfit : fitsB x text p = false := by
          unfold fitsB; rw [hq, decide_eq_false hle]; rfl
        have hle' : (text.length : Int) < (q : Int) := by omega
        have hle2 : text.length < q := by omega
        refine VW.run good [] ?_; simp (implicitDefEqProofs := false) [enc_list, hi, hi10, hi10', hi16, hg, get_hr hb, get_hr ha, get_hr ht, h16, hcell', get_pre hl, get_pre0 hl, set_pre hl, spliceV, w1, w2, hle', hle2]
        exact ⟨_, _, (hI _ _ _).2 ⟨pre, hsk (by rw [hfit]; rfl), rfl, rfl⟩, cut_pre hl hup hu (by simp (implicitDefEqProofs := false) [enc_list, hb1, hb2, hb3])⟩
  · intro l m hv
    obtain ⟨pre, hj, rfl, rfl⟩ := (hI _ _ _).1 hv
    obtain ⟨hl, hb, ha, ht, hup⟩ := hJ _ pre hj
    have hfin := fin pre
    refine VW.run good [] ?_; simp (implicitDefEqProofs := false) [enc_list, get_pre0 hl, set_pre0 hl]
    exact ⟨_, hL0.symm, by simp, hfin _ [] hj⟩
end Go.RS.DC

/- Walks: the program (5): the fewest pieces that say a text. -/
namespace Go.RS.DC
open Go Go.RS
open Go.RS.Enc (enc dec)
variable {E : VEnv}
mutual
theorem und_mono {j j' : Nat} (h : j ≤ j') : ∀ {v : PV}, v.und j = true → v.und j' = true
  | .undef, _ => rfl
  | .int _ _, _ => rfl
  | .bool _, _ => rfl
  | .str _, _ => rfl
  | .nilP, _ => rfl
  | .lptr _, _ => rfl
  | .nilS, _ => rfl
  | .lst _ _ _ _, _ => rfl
  | .nilM, _ => rfl
  | .nilF, _ => rfl
  | .emp, _ => rfl
  | .ptr t _ _, hv => by simp only [PV.und, decide_eq_true_eq] at hv ⊢; omega
  | .sl t _ _ _ _ _, hv => by simp only [PV.und, decide_eq_true_eq] at hv ⊢; omega
  | .map t, hv => by simp only [PV.und, decide_eq_true_eq] at hv ⊢; omega
  | .yield t, hv => by simp only [PV.und, decide_eq_true_eq] at hv ⊢; omega
  | .func f a c, hv => by simp only [PV.und, Bool.and_eq_true] at hv ⊢; exact ⟨undL_mono h hv.1, undL_mono h hv.2⟩
  | .agg a, hv => by simp only [PV.und] at hv ⊢; exact undL_mono h hv
  | .tup a, hv => by simp only [PV.und] at hv ⊢; exact undL_mono h hv
theorem undL_mono {j j' : Nat} (h : j ≤ j') : ∀ {l : List PV}, PV.undL j l = true → PV.undL j' l = true
  | [], _ => rfl
  | v :: l, hv => by simp only [PV.undL, Bool.and_eq_true] at hv ⊢; exact ⟨und_mono h hv.1, undL_mono h hv.2⟩
end
theorem obj_mono {j j' : Nat} (h : j ≤ j') {o : VObj} (ho : o.und j) : o.und j' := by
  cases o with
  | cells c => exact fun v hv => und_mono h (ho v hv)
  | vec c => trivial
  | map es k => exact fun e he => ⟨und_mono h (ho e he).1, und_mono h (ho e he).2⟩
  | loop L => exact fun i => und_mono h (ho i)
  | gone => trivial
theorem set_hr {α : Type} {pre : List α} {b : Nat} (h : b < pre.length) (l : List α) (x : α) : (pre ++ l).set b x = pre.set b x ++ l := List.set_append_left _ _ h
/-! ### What is remembered -/
def SayV : Option (List Int) → PV → Prop
  | none, v => v = .nilS
  | some [], v => v = .emp
  | some (k :: l), v => ∃ ex, v = .lst ex (l.length + 1) 1 (encL (k :: l))
abbrev keyN (p : Nat) : PV := .int .i64 p
def SayE (b : Book) (sel : Nat → Bool) (text : List Int) (p : Nat) (v : PV) : Prop := p ≤ text.length ∧ SayV (sayF b sel text p) v
theorem SayV.und {m : Option (List Int)} {v : PV} (h : SayV m v) (j : Nat) : v.und j = true := by
  match m, h with
  | none, h => cases h; rfl
  | some [], h => cases h; rfl
  | some (k :: l), ⟨ex, h⟩ => cases h; rfl
theorem sayE_und {b : Book} {sel : Nat → Bool} {text : List Int} {es : List (PV × PV × Nat)} (h : MapOk keyN (SayE b sel text) es) (clock j : Nat) : (VObj.map es clock).und j := fun e he => by
  obtain ⟨a, ha, hv⟩ := h e he
  rw [ha]
  exact ⟨rfl, hv.2.und j⟩
def HasK {κ : Type} (kf : κ → PV) (x : κ) (es : List (PV × PV × Nat)) : Prop := ∃ e ∈ es, e.1 = kf x
/-- An answer is put into the map. -/
theorem upd_has {κ : Type} [DecidableEq κ] {s : KS} {kf : κ → PV} {R : κ → PV → Prop} (hk : ∀ a b, keyEqV s (kf a) (kf b) = some (decide (a = b))) {es : List (PV × PV × Nat)} (clock : Nat) (h : MapOk kf R es) (a : κ) {v : PV} (hv : R a v) :
    ∃ f es' clock', findKV s (kf a) es 0 = some f ∧ (∀ (M : VM) (t : Nat), updMapV M t es clock (kf a) v f = M.set t (.map es' clock')) ∧ MapOk kf R es' ∧ ∀ x, HasK kf x es → HasK kf x es' := by
  rcases find_good hk a es 0 h with ⟨h1, _⟩ | ⟨i, w, h1, _⟩
  · refine ⟨_, _, _, h1, fun _ _ => rfl, mapOk_add h a hv _, fun x hx => ?_⟩
    obtain ⟨e, he, hx⟩ := hx
    exact ⟨e, by simp [he], hx⟩
  · refine ⟨_, _, _, h1, fun _ _ => rfl, mapOk_mod h a hv _, fun x hx => ?_⟩
    refine mem_mod hx h1 fun e he hq => ?_
    obtain ⟨c, hc, _⟩ := h e he
    rw [hc, hk] at hq
    simp at hq
    subst hq; exact hc
structure SayB (b : Book) (a : Arr 10 Bool) (text : List Int) (bb tb yb kb fb mi : Nat) (M : VM) : Prop where
  hb : M[bb]? = some (kbl b a.l)
  ht : M[tb]? = some (.cells [enc text])
  hy : M[yb]? = some (.cells [.func 107 [] []])
  hk : M[kb]? = some (.cells [.map mi])
  hf : M[fb]? = some (.cells [.func 89 [] [.ptr kb 1 0, .ptr bb 16 0, .ptr tb 1 0, .ptr fb 1 0, .ptr yb 1 0]])
  hm : ∃ es clock, M[mi]? = some (.map es clock)
theorem set_other {M : VM} {mi i : Nat} {o : VObj} {c : List PV} (hm : ∃ es clock, M[mi]? = some (.map es clock)) (h : M[i]? = some (.cells c)) (ext : VM) : (M.set mi o ++ ext)[i]? = some (.cells c) := by
  obtain ⟨es, clock, hm⟩ := hm
  have hne : mi ≠ i := fun e => by subst e; rw [hm] at h; cases h
  have hi := (List.getElem?_eq_some_iff.1 h).1
  rw [List.getElem?_append_left (by simpa using hi), List.getElem?_set_ne hne, h]
theorem SayB.set {b : Book} {a : Arr 10 Bool} {text : List Int} {bb tb yb kb fb mi : Nat} {M : VM} (h : SayB b a text bb tb yb kb fb mi M) (es : List (PV × PV × Nat)) (clock : Nat) (ext : VM) : SayB b a text bb tb yb kb fb mi (M.set mi (.map es clock) ++ ext) := by
  refine ⟨set_other h.hm h.hb ext, set_other h.hm h.ht ext, set_other h.hm h.hy ext, set_other h.hm h.hk ext, set_other h.hm h.hf ext, es, clock, ?_⟩
  obtain ⟨es0, c0, hm⟩ := h.hm
  have hi := (List.getElem?_eq_some_iff.1 hm).1
  rw [List.getElem?_append_left (by simpa using hi), List.getElem?_set_self hi]
end Go.RS.DC

/- Walks: the program (6): the closure that finds the fewest pieces. -/
namespace Go.RS.DC
open Go Go.RS
open Go.RS.Enc (enc dec)
variable {E : VEnv}
theorem len_hr {α : Type} {pre : List α} {b : Nat} {x : α} (h : pre[b]? = some x) : b < pre.length := (List.getElem?_eq_some_iff.1 h).1
/-- What one piece lets be. -/
abbrev candF (b : Book) (sel : Nat → Bool) (text : List Int) (p i : Nat) : Option (List Int) := if (sel i && fitsB (b.Pieces.getD i ⟨[], 0, 0, 0⟩) text p) = true then sayF b sel text (p + (b.Pieces.getD i ⟨[], 0, 0, 0⟩).Words.length) else none
/-- The best so far. -/
def BestV : Option (List Int) → PV → Prop
  | none, v => v = .nilS
  | some [], _ => False
  | some (k :: l), v => ∃ ex, v = .lst ex (l.length + 1) 1 (encL (k :: l))
theorem bestV_say {b : Book} (o : BookOk b) (sel : Nat → Bool) {text : List Int} {p : Nat} (hp : p < text.length) {v : PV} (h : BestV (bestF (candF b sel text p) b.Pieces.length) v) : SayV (sayF b sel text p) v := by
  rw [sayF_step o sel text hp]
  cases hb : bestF (candF b sel text p) b.Pieces.length with
  | none => rw [hb] at h; exact h
  | some l =>
    rw [hb] at h
    cases l with
    | nil => exact h.elim
    | cons k l => exact h
theorem BestV.und {m : Option (List Int)} {v : PV} (h : BestV m v) (j : Nat) : v.und j = true := by
  match m, h with
  | none, h => cases h; rfl
  | some (k :: l), ⟨ex, h⟩ => cases h; rfl
theorem SayV.nil {m : Option (List Int)} {v : PV} (h : SayV m v) : isNilV .slice v = some (!m.isSome) := by
  match m, h with
  | none, h => cases h; rfl
  | some [], h => cases h; rfl
  | some (k :: l), ⟨ex, h⟩ => cases h; rfl
theorem SayV.cases {m : Option (List Int)} {v : PV} (h : SayV m v) : (m = none ∧ v = .nilS) ∨ (m = some [] ∧ v = .emp) ∨ ∃ k l ex, m = some (k :: l) ∧ v = .lst ex (l.length + 1) 1 (encL (k :: l)) := by
  match m, h with
  | none, h => exact .inl ⟨rfl, h⟩
  | some [], h => exact .inr (.inl ⟨rfl, h⟩)
  | some (k :: l), ⟨ex, h⟩ => exact .inr (.inr ⟨k, l, ex, rfl, h⟩)
theorem say_len {b : Book} (o : BookOk b) {sel : Nat → Bool} {text : List Int} (htl : text.length ≤ 8) {q : Nat} (hq : q ≤ text.length) {L : List Int} (h : sayF b sel text q = some L) : L.length ≤ 8 := by
  obtain ⟨_, h1, h2⟩ := (says_iff _ _ _ _ _).1 (sayF_says o sel text _ q rfl hq h)
  have h3 := words_len o (l := L) fun k hk => ⟨(h1 k hk).1, (h1 k hk).2.1, rfl⟩
  have h4 := congrArg List.length h2
  rw [List.length_drop] at h4
  omega
theorem app_emp (M : VM) (i : Int) : appendV M 1 8 (.lst true 1 1 [.int .i64 i]) .emp = some (.lst true 1 1 [.int .i64 i], M) := by simp [appendV, elemsV, okE]
theorem app_front (M : VM) (i : Int) (ex : Bool) (L : List Int) (hL : L ≠ []) (h8 : L.length ≤ 8) (n : Nat) (hn : n = L.length) : appendV M 1 8 (.lst true 1 1 [.int .i64 i]) (.lst ex n 1 (encL L)) = some (.sl M.length (i :: L).length 0 (i :: L).length (openCap + 1) 1, M ++ [.vec (encL (i :: L))]) := by
  subst hn
  have h0 : L.length ≠ 0 := fun h => hL (List.eq_nil_of_length_eq_zero h)
  have hf : fits (L.length + 1) 8 = true := fits8L (by omega)
  have he : encL (i :: L) = .int .i64 i :: encL L := rfl
  have hl : (encL L).length = L.length := by rw [encL_length]; exact Nat.mul_one _
  rw [he]
  simp [appendV, elemsV, okE, h0, hf, newVec, PV.isFL, PV.isF, encL_isF, hl, Nat.add_comm]
theorem better_gt {i j : Int} (h : j < i) (L l : List Int) : betterL (i :: L) (j :: l) = decide (L.length < l.length) := by
  have hc : cmpL (i :: L) (j :: l) = 1 := by
    rw [cmpL]
    have : cmpI i j = 1 := by unfold cmpI; rw [if_neg (by omega), if_pos h]
    rw [this]; rfl
  unfold betterL
  rw [hc]
  simp
theorem spc_capt (sp : Spec) (M : VM) (f : Nat) (c : PV) (cs args : List PV) : spc sp M (.func f [] (c :: cs)) args = none := rfl
section
variable {b : Book} {a : Arr 10 Bool} {text : List Int} {bb tb yb kb fb mi : Nat}
abbrev selA (a : Arr 10 Bool) (i : Nat) : Bool := a.l.getD i false
abbrev sayC (kb bb tb fb yb : Nat) : PV := .func 89 [] [.ptr kb 1 0, .ptr bb 16 0, .ptr tb 1 0, .ptr fb 1 0, .ptr yb 1 0]
set_option maxHeartbeats 3200000 in
set_option maxRecDepth 20000 in
theorem vc_from (hE : E.env.fn = G) (o : BookOk b) (htl : text.length ≤ 8) : ∀ (r p : Nat), text.length - p = r → p ≤ text.length → ∀ (M : VM) (K : PV → VM → Prop), SayB b a text bb tb yb kb fb mi M → (∀ o ∈ M, o.und M.length) →
    (∃ es clock, M[mi]? = some (.map es clock) ∧ MapOk keyN (SayE b (selA a) text) es ∧ HasK keyN text.length es) →
    (∀ v es clock ext, SayV (sayF b (selA a) text p) v → MapOk keyN (SayE b (selA a) text) es → HasK keyN text.length es → K (.tup [v, .bool (sayF b (selA a) text p).isSome]) (M.set mi (.map es clock) ++ ext)) →
    VC E false (sayC kb bb tb fb yb) [.int .i64 p] M K := by
  intro r
  induction r using Nat.strongRecOn with
  | _ r ih =>
    intro p hr hp M K hB hu ⟨es, clock, hm, hes, hend⟩ hK
    refine VC.func (A := F89) (by rw [hE]; rfl) (by simp [F89]) ?_
    have lb := len_hr hB.hb
    have lt := len_hr hB.ht
    have ly := len_hr hB.hy
    have lk := len_hr hB.hk
    have lf := len_hr hB.hf
    have lm := len_hr hm
    have h16 : (encL a.l).length = 10 := by rw [encL_length, a.h]; rfl
    have good := goodV_cons (v_better hE) goodV_nil
    have hkey : ∀ (x y : Nat), keyEqV (.one .int) (keyN x) (keyN y) = some (decide (x = y)) := key_int'
    have hk0 : keyOkV (.one .int) (.int .i64 (p : Int)) = true := by unfold keyOkV; rw [hkey p p]; simp
    have hMs : M.set mi (.map es clock) = M := set_get_same hm
    unfold F89
    rcases find_good hkey p es 0 hes with ⟨hf0, hno⟩ | ⟨i, v, hf0, hv1, hv2⟩
    · have hpl : p < text.length := by
        by_cases h : p = text.length
        · subst h
          obtain ⟨e, he, hk⟩ := hend
          exact absurd hk (hno e he)
        · omega
      refine VW.run good [] ?_
      simp (implicitDefEqProofs := false) [enc_list, get_hr hB.hk, get_hr hB.hb, get_hr hB.ht, get_hr hm, mapEsV, hk0, hf0, lookResV, h16, take_bools]
      unfold VCo
      refine vc_next hE rfl ?_
      generalize hn : M.length = n at *
      have hl2 : ∀ x y : VObj, (M ++ [x, y]).length = n + 2 := fun x y => by simp [hn]
      rw [hl2]
      simp (implicitDefEqProofs := false) [enc_list]
      have und5 : ∀ j, n ≤ j → ∀ es clock, MapOk keyN (SayE b (selA a) text) es → ∀ bv : PV, (∀ j, bv.und j = true) → ∀ o ∈ M.set mi (.map es clock) ++ [.cells [.int .i64 (p : Int)], .cells [bv], kbl b a.l, .cells [enc text], .cells [.int .i64 (p : Int)]], o.und j := by
        intro j hj es clock hes bv hbv o ho
        rcases List.mem_append.1 ho with ho | ho
        · exact set_und (fun o ho => obj_mono hj (hu o ho)) (sayE_und hes clock j) o ho
        · simp only [List.mem_cons, List.not_mem_nil, or_false] at ho
          rcases ho with rfl | rfl | rfl | rfl | rfl
          · simp (implicitDefEqProofs := false)
          · intro v hv; rw [List.mem_singleton] at hv; subst hv; exact hbv j
          · simp (implicitDefEqProofs := false) [enc_list]
          · simp (implicitDefEqProofs := false) [enc_list]
          · simp (implicitDefEqProofs := false)
      have hm5 : ∀ es clock (bv : PV), (M.set mi (.map es clock) ++ [.cells [.int .i64 (p : Int)], .cells [bv], kbl b a.l, .cells [enc text], .cells [.int .i64 (p : Int)]]).length = n + 5 := fun es clock bv => by simp [hn]
      refine .ofCut (l := [(1, .ptr kb 1 0), (2, .ptr bb 16 0), (3, .ptr tb 1 0), (4, .ptr fb 1 0), (5, .ptr yb 1 0), (6, .ptr n 1 0), (11, .ptr (n + 1) 1 0), (28, .func 109 [] [.ptr (n + 2) 16 0, .ptr (n + 4) 1 0, .ptr (n + 3) 1 0])]) (M := M ++ [.cells [.int .i64 p], .cells [.nilS], kbl b a.l, .cells [enc text], .cells [.int .i64 p]]) ?_ ?_
      · have h1 := und5 (n + 5) (by omega) es clock hes .nilS (fun _ => rfl)
        have h2 := hm5 es clock .nilS
        rw [hMs] at h1 h2
        have h3 : (M ++ [.cells [.int .i64 (p : Int)], .cells [.nilS], kbl b a.l, .cells [.lst false text.length 1 (encL text)], .cells [.int .i64 (p : Int)]]).length = n + 5 := h2
        refine cut_all (by rw [h3]; omega) (by rw [h3]; exact h1) ?_
        rw [h3]
        simp (implicitDefEqProofs := false)
        omega
      obtain ⟨J, hJ⟩ : ∃ J : Nat → VM → Prop, ∀ i pre, J i pre ↔ ∃ es clock bv, pre = M.set mi (.map es clock) ++ [.cells [.int .i64 p], .cells [bv], kbl b a.l, .cells [enc text], .cells [.int .i64 p]] ∧ MapOk keyN (SayE b (selA a) text) es ∧ HasK keyN text.length es ∧ BestV (bestF (candF b (selA a) text p) i) bv := ⟨_, fun _ _ => Iff.rfl⟩
      refine VW.rangeNext (bb := n + 2) (ab := n + 4) (tb := n + 3) (n0 := n + 5) (p := p) (b := b) (a := a) (text := text) hE J (fun _ _ => False) (by simp) o (by omega) hp rfl (mkF_und ?_) (by simp [hn]) ((hJ _ _).2 ⟨es, clock, .nilS, by rw [hMs], hes, hend, rfl⟩) ?_ ?_ ?_ ?_ ?_
      · simp (implicitDefEqProofs := false)
        omega
      · intro i pre hj
        obtain ⟨es', clock', bv, rfl, h1, h2, h3⟩ := (hJ _ _).1 hj
        have hN : (M.set mi (.map es' clock')).length = n := by simp [hn]
        refine ⟨hm5 _ _ _, ?_, ?_, ?_, und5 _ (by omega) _ _ h1 _ h3.und⟩
        · rw [get_pre hN]; rfl
        · rw [get_pre hN]; rfl
        · rw [get_pre hN]; rfl
      · intro i pre hi hj hgo
        obtain ⟨es', clock', bv, rfl, h1, h2, h3⟩ := (hJ _ _).1 hj
        refine (hJ _ _).2 ⟨es', clock', bv, rfl, h1, h2, ?_⟩
        have hc : candF b (selA a) text p i = none := if_neg (by rw [show (selA a i && fitsB (b.Pieces.getD i ⟨[], 0, 0, 0⟩) text p) = goOn b (fun i => a.l.getD i false) text p i from rfl, hgo]; simp)
        rw [bestF, hc]
        exact h3
      · intro i pre hi hj hgo c6 Lr Lb hLb hc6
        obtain ⟨es', clock', bv, rfl, h1, h2, h3⟩ := (hJ _ _).1 hj
        refine VW.run good [] ?_; simp (implicitDefEqProofs := false) [enc_list, setParamsV]
        have hN : (M.set mi (.map es' clock')).length = n := by simp [hn]
        have hBN := hB.set es' clock' []
        rw [List.append_nil] at hBN
        have hmN : (M.set mi (.map es' clock'))[mi]? = some (.map es' clock') := List.getElem?_set_self (by omega)
        have hsh : ∀ l x, (M.set mi (.map es' clock') ++ l).set mi x = M.set mi x ++ l := fun l x => by rw [set_hr (by omega), List.set_set]
        have und5' := und5 (n + 7) (by omega) es' clock' h1 bv h3.und
        have hLu : Lb.und (n + 7) := hLb _ (mkF_und (by simp (implicitDefEqProofs := false); omega))
        have hBs := fun es clock ext => hB.set es clock ext
        obtain ⟨N, hNN⟩ : ∃ N, M.set mi (.map es' clock') = N := ⟨_, rfl⟩
        rw [hNN] at hN hBN hmN und5'
        have hsh : ∀ l x, (N ++ l).set mi x = M.set mi x ++ l := fun l x => by rw [← hNN]; exact hsh l x
        rw [hNN]
        have hgp := get_Piece b.Pieces i hi
        have hpn : pieceN b i = b.Pieces[i] := by unfold pieceN; rw [List.getD_eq_getElem?_getD, List.getElem?_eq_getElem hi]; rfl
        have po := pieceN_ok o hi
        have hfit : fitsB (pieceN b i) text p = true := by unfold goOn at hgo; rw [Bool.and_eq_true] at hgo; exact hgo.2
        have hc : candF b (selA a) text p i = sayF b (selA a) text (p + (pieceN b i).Words.length) := if_pos hgo
        have hfl := fits_le hfit
        have pw := po.w1
        rw [hpn] at hc hfl pw
        have p2 := o.p2
        generalize b.Pieces[i] = x at *
        obtain ⟨q, hq⟩ : ∃ q, p + x.Words.length = q := ⟨_, rfl⟩
        rw [hq] at hc hfl
        have w2 : IntKind.i64.wrap ((p : Int) + x.Words.length) = (q : Int) := by rw [wrap64 (by omega) (by omega)]; omega
        have hi' : (i : Int) < b.Pieces.length := by omega
        have ha10 : a.l.length = 10 := a.h
        refine VW.block (VW.seq ?_)
        refine VW.run good [] ?_; simp (implicitDefEqProofs := false) [enc_list, get_hr hBN.hf, get_hr hBN.hb, get_pre hN, get_pre0 hN, hi, hi', hgp, w2, ha10, spc_capt]
        unfold VCo
        show VC E false _ _ (N ++ ([.cells [.int .i64 (p : Int)], .cells [bv], kbl b a.l, .cells [enc text], .cells [.int .i64 (p : Int)]] ++ [Lb, .cells c6])) _
        have hl7 : (N ++ ([.cells [.int .i64 (p : Int)], .cells [bv], kbl b a.l, .cells [enc text], .cells [.int .i64 (p : Int)]] ++ [Lb, .cells c6])).length = n + 7 := by simp [hN]
        refine ih (text.length - q) (by omega) q rfl hfl _ _ (by rw [← hNN]; exact hBs _ _ _) ?_ ⟨es', clock', get_hr hmN _, h1, h2⟩ ?_
        · rw [hl7]
          intro o ho
          rw [← List.append_assoc] at ho
          rcases List.mem_append.1 ho with ho | ho
          · exact und5' o ho
          · simp only [List.mem_cons, List.not_mem_nil, or_false] at ho
            rcases ho with rfl | rfl
            · exact hLu
            · exact hc6 _
        · intro v es2 clock2 ext hv hes2 hend2
          rw [hsh]
          have und52 := und5 (n + 7) (by omega) es2 clock2 hes2 bv h3.und
          have hN2 : (M.set mi (.map es2 clock2)).length = n := by simp [hn]
          have hB2 := hBs es2 clock2 []
          rw [List.append_nil] at hB2
          obtain ⟨N2, hNN2⟩ : ∃ N2, M.set mi (.map es2 clock2) = N2 := ⟨_, rfl⟩
          rw [hNN2] at hN2 hB2 und52 ⊢
          have hcut : ∀ (fr : VFr) (l : List (Nat × PV)) (ext : VM), (∀ p ∈ l, (fr p.1).le p.2 ∧ p.2.und (n + 7) = true) → Cut (n + 5 + 2) fr (N2 ++ ([.cells [.int .i64 (p : Int)], .cells [bv], kbl b a.l, .cells [enc text], .cells [.int .i64 (p : Int)], Lb, .cells c6] ++ ext)) l (N2 ++ [.cells [.int .i64 (p : Int)], .cells [bv], kbl b a.l, .cells [enc text], .cells [.int .i64 (p : Int)], Lb, .cells c6]) := by
            intro fr l ext hs
            rw [← List.append_assoc]
            refine cut_pre' (n := n + 7) (by simp [hN2]) (by omega) ?_ hs
            intro o ho
            rw [show N2 ++ [.cells [.int .i64 (p : Int)], .cells [bv], kbl b a.l, .cells [enc text], .cells [.int .i64 (p : Int)], Lb, .cells c6] = (N2 ++ [.cells [.int .i64 (p : Int)], .cells [bv], kbl b a.l, .cells [enc text], .cells [.int .i64 (p : Int)]]) ++ [Lb, .cells c6] by simp] at ho
            rcases List.mem_append.1 ho with ho | ho
            · exact und52 o ho
            · simp only [List.mem_cons, List.not_mem_nil, or_false] at ho
              rcases ho with rfl | rfl
              · exact hLu
              · exact hc6 _
          have hfin : ∀ (m : Option (List Int)) (bv' : PV) (x : VM), bestF (candF b (selA a) text p) (i + 1) = m → BestV m bv' → ∃ pre2, (∃ x', N2 ++ .cells [.int .i64 (p : Int)] :: .cells [bv'] :: kbl b a.l :: .cells [enc text] :: .cells [.int .i64 (p : Int)] :: Lb :: x = pre2 ++ Lb :: x') ∧ pre2.length = n + 5 ∧ J (i + 1) pre2 := by
            intro m bv' x hm hb
            subst hm
            exact ⟨N2 ++ [.cells [.int .i64 (p : Int)], .cells [bv'], kbl b a.l, .cells [enc text], .cells [.int .i64 (p : Int)]], ⟨x, by simp⟩, by simp [hN2], (hJ _ _).2 ⟨es2, clock2, bv', by rw [hNN2], hes2, hend2, hb⟩⟩
          rcases hv.cases with ⟨h4, rfl⟩ | ⟨h4, rfl⟩ | ⟨kk, l, ex, h4, rfl⟩
          · rw [h4]
            simp (implicitDefEqProofs := false) [enc_list]
            refine .ofCut (hcut _ [(14, .bool false)] ext (by simp (implicitDefEqProofs := false))) ?_
            refine VW.run good [] ?_; simp (implicitDefEqProofs := false) [enc_list]
            have hbm : bestF (candF b (selA a) text p) (i + 1) = bestF (candF b (selA a) text p) i := by rw [bestF, hc, h4]
            obtain ⟨pre2, g1, g2, g3⟩ := hfin _ bv [.cells c6] hbm h3
            exact ⟨pre2, g1, g2, rfl, g3⟩
          · rw [h4]
            simp (implicitDefEqProofs := false) [enc_list]
            refine .ofCut (hcut _ [(5, .ptr yb 1 0), (11, .ptr (n + 1) 1 0), (12, .int .i64 i), (13, .emp), (14, .bool true)] ext (by simp (implicitDefEqProofs := false); omega)) ?_
            refine VW.seq ?_
            refine VW.run good [] ?_; simp (implicitDefEqProofs := false) [enc_list]
            refine VW.cond (t := true) (by simp) (fun _ => ?_) (fun h => by cases h)
            refine VW.seq ?_
            refine VW.run good [] ?_; simp (implicitDefEqProofs := false) [enc_list, spliceV, app_emp]
            have hci : candF b (selA a) text p i = some [] := by rw [hc, h4]
            have hd1 : (dec (.lst true 1 1 [.int .i64 (i : Int)]) : Option (List Int)) = some ((i : Int) :: []) := dec_lst true ((i : Int) :: [])
            cases hbm : bestF (candF b (selA a) text p) i with
            | none =>
              rw [hbm] at h3
              cases h3
              have hbn : bestF (candF b (selA a) text p) (i + 1) = some ((i : Int) :: []) := by rw [bestF, hci, hbm]
              refine VW.run good [] ?_; simp (implicitDefEqProofs := false) [enc_list, get_pre hN2, get_pre0 hN2, set_pre hN2, spliceV]
              obtain ⟨pre2, g1, g2, g3⟩ := hfin _ (.lst true 1 1 [.int .i64 (i : Int)]) [.cells c6] hbn ⟨true, rfl⟩
              exact ⟨pre2, g1, g2, rfl, g3⟩
            | some m0 =>
              obtain ⟨j, l0, hji, _, rfl⟩ := bestF_some _ hbm
              rw [hbm] at h3
              obtain ⟨ex0, rfl⟩ := h3
              have hbt := better_gt (i := (i : Int)) (j := (j : Int)) (by omega) [] l0
              have hd2 : (dec (.lst ex0 (l0.length + 1) 1 (encL ((j : Int) :: l0))) : Option (List Int)) = some ((j : Int) :: l0) := dec_lst ex0 ((j : Int) :: l0)
              have hbs : bestF (candF b (selA a) text p) (i + 1) = if ([] : List Int).length + 1 < ((j : Int) :: l0).length then some ((i : Int) :: []) else some ((j : Int) :: l0) := by rw [bestF, hci, hbm]
              by_cases hlt : ([] : List Int).length < l0.length
              · rw [if_pos (by simp only [List.length_cons] at hlt ⊢; omega)] at hbs
                rw [decide_eq_true hlt] at hbt
                refine VW.run good [] ?_; simp (implicitDefEqProofs := false) [enc_list, get_hr hB2.hy, get_pre hN2, get_pre0 hN2, set_pre hN2, spliceV, hbt, hd1, hd2]
                obtain ⟨pre2, g1, g2, g3⟩ := hfin _ (.lst true 1 1 [.int .i64 (i : Int)]) [.cells c6] hbs ⟨true, rfl⟩
                exact ⟨pre2, g1, g2, rfl, g3⟩
              · rw [if_neg (by simp only [List.length_cons] at hlt ⊢; omega)] at hbs
                rw [decide_eq_false hlt] at hbt
                refine VW.run good [] ?_; simp (implicitDefEqProofs := false) [enc_list, get_hr hB2.hy, get_pre hN2, get_pre0 hN2, set_pre hN2, spliceV, hbt, hd1, hd2]
                obtain ⟨pre2, g1, g2, g3⟩ := hfin _ (.lst ex0 (l0.length + 1) 1 (encL ((j : Int) :: l0))) [.cells c6] hbs ⟨ex0, rfl⟩
                exact ⟨pre2, g1, g2, rfl, g3⟩
          · rw [h4]
            simp (implicitDefEqProofs := false) [enc_list]
            refine .ofCut (hcut _ [(5, .ptr yb 1 0), (11, .ptr (n + 1) 1 0), (12, .int .i64 i), (13, .lst ex (l.length + 1) 1 (encL (kk :: l))), (14, .bool true)] ext (by simp (implicitDefEqProofs := false); omega)) ?_
            have hL8 := say_len o htl hfl h4
            refine VW.seq ?_
            refine VW.run good [] ?_; simp (implicitDefEqProofs := false) [enc_list]
            refine VW.cond (t := true) (by simp) (fun _ => ?_) (fun h => by cases h)
            refine VW.seq ?_
            refine VW.run good [] ?_; simp (implicitDefEqProofs := false) [enc_list, spliceV, app_front _ _ _ (kk :: l) (by simp) hL8 (l.length + 1) rfl, hN2]
            refine VW.freeze (t := n + 7) (len := ((i : Int) :: kk :: l).length) (o := 0) (q := ((i : Int) :: kk :: l).length) (cap := openCap + 1) (e := 1) 13 (by simp) ?_
            have hle := le_fzSl (N2 ++ [.cells [.int .i64 (p : Int)], .cells [bv], kbl b a.l, .cells [enc text], .cells [.int .i64 (p : Int)], Lb, .cells c6, .vec (encL ((i : Int) :: kk :: l))]) (n + 7) ((i : Int) :: kk :: l) (by rw [get_pre hN2]; rfl) (by decide)
            rw [set_pre hN2]
            refine .ofCut (hcut _ [(5, .ptr yb 1 0), (11, .ptr (n + 1) 1 0), (12, .int .i64 i), (13, .lst false (l.length + 1 + 1) 1 (encL ((i : Int) :: kk :: l)))] [.gone] ?_) ?_
            · rw [show El.sz Int = 1 from rfl, Nat.mul_one] at hle
              intro pp hpp
              simp only [List.mem_cons, List.not_mem_nil, or_false] at hpp
              rcases hpp with rfl | rfl | rfl | rfl
              · exact ⟨by simp (implicitDefEqProofs := false), by simp (implicitDefEqProofs := false); omega⟩
              · exact ⟨by simp (implicitDefEqProofs := false), by simp (implicitDefEqProofs := false)⟩
              · exact ⟨by simp (implicitDefEqProofs := false), rfl⟩
              · exact ⟨of_eq_true hle, rfl⟩
            have hci : candF b (selA a) text p i = some (kk :: l) := by rw [hc, h4]
            have hd1 : (dec (.lst false (l.length + 1 + 1) 1 (encL ((i : Int) :: kk :: l))) : Option (List Int)) = some ((i : Int) :: (kk :: l)) := dec_lst false ((i : Int) :: (kk :: l))
            cases hbm : bestF (candF b (selA a) text p) i with
            | none =>
              rw [hbm] at h3
              cases h3
              have hbn : bestF (candF b (selA a) text p) (i + 1) = some ((i : Int) :: (kk :: l)) := by rw [bestF, hci, hbm]
              refine VW.run good [] ?_; simp (implicitDefEqProofs := false) [enc_list, get_pre hN2, get_pre0 hN2, set_pre hN2, spliceV]
              obtain ⟨pre2, g1, g2, g3⟩ := hfin _ (.lst false (l.length + 1 + 1) 1 (encL ((i : Int) :: kk :: l))) [.cells c6] hbn ⟨false, rfl⟩
              exact ⟨pre2, g1, g2, rfl, g3⟩
            | some m0 =>
              obtain ⟨j, l0, hji, _, rfl⟩ := bestF_some _ hbm
              rw [hbm] at h3
              obtain ⟨ex0, rfl⟩ := h3
              have hbt := better_gt (i := (i : Int)) (j := (j : Int)) (by omega) (kk :: l) l0
              have hd2 : (dec (.lst ex0 (l0.length + 1) 1 (encL ((j : Int) :: l0))) : Option (List Int)) = some ((j : Int) :: l0) := dec_lst ex0 ((j : Int) :: l0)
              have hbs : bestF (candF b (selA a) text p) (i + 1) = if ((kk :: l) : List Int).length + 1 < ((j : Int) :: l0).length then some ((i : Int) :: (kk :: l)) else some ((j : Int) :: l0) := by rw [bestF, hci, hbm]
              by_cases hlt : ((kk :: l) : List Int).length < l0.length
              · rw [if_pos (by simp only [List.length_cons] at hlt ⊢; omega)] at hbs
                rw [decide_eq_true hlt] at hbt
                refine VW.run good [] ?_; simp (implicitDefEqProofs := false) [enc_list, get_hr hB2.hy, get_pre hN2, get_pre0 hN2, set_pre hN2, spliceV, hbt, hd1, hd2]
                obtain ⟨pre2, g1, g2, g3⟩ := hfin _ (.lst false (l.length + 1 + 1) 1 (encL ((i : Int) :: kk :: l))) [.cells c6] hbs ⟨false, rfl⟩
                exact ⟨pre2, g1, g2, rfl, g3⟩
              · rw [if_neg (by simp only [List.length_cons] at hlt ⊢; omega)] at hbs
                rw [decide_eq_false hlt] at hbt
                refine VW.run good [] ?_; simp (implicitDefEqProofs := false) [enc_list, get_hr hB2.hy, get_pre hN2, get_pre0 hN2, set_pre hN2, spliceV, hbt, hd1, hd2]
                obtain ⟨pre2, g1, g2, g3⟩ := hfin _ (.lst ex0 (l0.length + 1) 1 (encL ((j : Int) :: l0))) [.cells c6] hbs ⟨ex0, rfl⟩
                exact ⟨pre2, g1, g2, rfl, g3⟩
      · intro pre L ext hj
        obtain ⟨es', clock', bv, rfl, h1, h2, h3⟩ := (hJ _ _).1 hj
        have hss : sayF b (selA a) text p = bestF (candF b (selA a) text p) b.Pieces.length := sayF_step o (selA a) text hpl
        have hsv := bestV_say o (selA a) hpl h3
        obtain ⟨f, es2, clock2, u1, u2, u3, u4⟩ := upd_has hkey clock' h1 p (v := bv) ⟨hp, hsv⟩
        have hN : (M.set mi (.map es' clock')).length = n := by simp [hn]
        have hBN := hB.set es' clock' []
        rw [List.append_nil] at hBN
        have hmN : (M.set mi (.map es' clock'))[mi]? = some (.map es' clock') := List.getElem?_set_self (by omega)
        have hsh : ∀ l x, (M.set mi (.map es' clock') ++ l).set mi x = M.set mi x ++ l := fun l x => by rw [set_hr (by omega), List.set_set]
        have hK' := hK bv es2 clock2 ([.cells [.int .i64 p], .cells [bv], kbl b a.l, .cells [enc text], .cells [.int .i64 p]] ++ .loop L :: ext) hsv u3 (u4 _ h2)
        generalize M.set mi (.map es' clock') = N at *
        rw [hss] at hK'
        have hN2 : (M.set mi (.map es2 clock2)).length = n := by simp [hn]
        cases hbm : bestF (candF b (selA a) text p) b.Pieces.length with
        | none =>
          rw [hbm] at h3 hK'
          cases h3
          simp (implicitDefEqProofs := false) [enc_list]
          refine VW.run good [] ?_; simp (implicitDefEqProofs := false) [enc_list, get_hr hBN.hk, get_hr hmN, get_pre hN, get_pre0 hN, get_pre hN2, get_pre0 hN2, mapEsV, hk0, u1, u2, hsh]
          simpa [enc_list] using hK'
        | some l =>
          rw [hbm] at h3 hK'
          cases l with
          | nil => exact h3.elim
          | cons q l =>
            obtain ⟨ex, rfl⟩ := h3
            simp (implicitDefEqProofs := false) [enc_list]
            refine VW.run good [] ?_; simp (implicitDefEqProofs := false) [enc_list, get_hr hBN.hk, get_hr hmN, get_pre hN, get_pre0 hN, get_pre hN2, get_pre0 hN2, mapEsV, hk0, u1, u2, hsh]
            simpa [enc_list] using hK'
      · intro e pre L ext hf; exact hf.elim
    · have hn := hv2.nil
      have hK' := hK v es clock [.cells [.int .i64 p]] hv2 hes hend
      rw [hMs] at hK'
      refine VW.run good [] ?_
      rcases hv2.cases with ⟨h1, rfl⟩ | ⟨h1, rfl⟩ | ⟨k, l, ex, h1, rfl⟩
      · rw [h1] at hK'
        simp (implicitDefEqProofs := false) [enc_list, get_hr hB.hk, get_hr hm, mapEsV, hk0, hf0, lookResV]
        exact hK'
      · rw [h1] at hK'
        simp (implicitDefEqProofs := false) [enc_list, get_hr hB.hk, get_hr hm, mapEsV, hk0, hf0, lookResV]
        exact hK'
      · rw [h1] at hK'
        simp (implicitDefEqProofs := false) [enc_list, get_hr hB.hk, get_hr hm, mapEsV, hk0, hf0, lookResV]
        exact hK'
end
end Go.RS.DC

/- Walks: the program (7): the fewest pieces. -/
namespace Go.RS.DC
open Go Go.RS
open Go.RS.Enc (enc dec)
variable {E : VEnv}
theorem v_fewest (hE : E.env.fn = G) : Ok E 88 (fun args => match args with | [] => some (.agg [.func 107 [] []]) | _ => none) := by
  intro args r hr
  match args, hr with
  | [], hr =>
    cases hr
    refine VP.run (A := F88) (goodV_nil) [] (by rw [hE]; rfl) (by simp [F88]) ?_; unfold F88; simp (implicitDefEqProofs := false) [enc_list, spliceV]
/-- What is told of a book with some pieces and a text. -/
def sayS (x : BookC) (t : List Int) : Option (List Int × Bool) := if okB x.a = true ∧ t.length ≤ 8 then some ((sayF x.a (selA x.b) t 0).getD [], (sayF x.a (selA x.b) t 0).isSome) else none
set_option maxHeartbeats 1600000 in
set_option maxRecDepth 20000 in
theorem v_say (hE : E.env.fn = G) : Ok E 60 (s2 sayS) := by
  refine ok2 fun x t r hr => ?_
  unfold sayS at hr
  split at hr
  · rename_i hc
    cases hr
    obtain ⟨ho, ht8⟩ := hc
    have o := okB_ok ho
    obtain ⟨b, a⟩ := x
    have good := goodV_cons (v_fewest hE) goodV_nil
    have h16 : (encL a.l).length = 10 := by rw [encL_length, a.h]; rfl
    have ha10 : a.l.length = 10 := a.h
    rw [enc_BookC]
    refine VP.func (A := F60) (by rw [hE]; rfl) (by simp [F60]) ?_
    unfold F60
    refine VW.run good [13] ?_
    simp (implicitDefEqProofs := false) [enc_list, spliceV, h16, ha10, findKV, updMapV, keyOkV, spc_capt]
    unfold VCo
    refine vc_from (b := b) (a := a) (text := t) (bb := 0) (tb := 1) (yb := 2) (kb := 4) (fb := 5) (mi := 3) hE o ht8 _ 0 rfl (Nat.zero_le _) _ _ ⟨rfl, rfl, rfl, rfl, rfl, _, _, rfl⟩ ?_ ⟨_, _, rfl, ?_, ?_⟩ ?_
    · simp (implicitDefEqProofs := false)
      rintro a a_1 b rfl rfl rfl
      exact ⟨rfl, rfl⟩
    · exact fun e he => by
        rw [List.mem_singleton] at he; subst he
        exact ⟨t.length, rfl, Nat.le_refl _, by rw [sayF_end]; rfl⟩
    · exact ⟨_, List.mem_singleton.2 rfl, rfl⟩
    · intro v es clock ext hv _ _
      generalize sayF b (selA a) t 0 = m at *
      rcases hv.cases with ⟨rfl, rfl⟩ | ⟨rfl, rfl⟩ | ⟨k, l, ex, rfl, rfl⟩
      · simp (implicitDefEqProofs := false) [enc_list]
      · simp (implicitDefEqProofs := false) [enc_list]
      · simp (implicitDefEqProofs := false) [enc_list]
  · cases hr
theorem atoms_bools : ∀ (l m : List Bool), l.length = m.length → atomsEqV (List.replicate l.length .bool) (encL l) (encL m) = some (decide (l = m))
  | [], [], _ => rfl
  | x :: l, y :: m, h => by
    have e : ∀ (x : Bool) (l : List Bool), encL (x :: l) = .bool x :: encL l := fun _ _ => rfl
    rw [e, e, List.length_cons, List.replicate_succ, atomsEqV, atoms_bools l m (by simpa using h)]
    simp only [atomEqV, Option.some.injEq]
    rw [Bool.eq_iff_iff]; simp
  | [], _ :: _, h => by simp at h
  | _ :: _, [], h => by simp at h
theorem atoms10b (a : Arr 10 Bool) : atomsEqV [.bool, .bool, .bool, .bool, .bool, .bool, .bool, .bool, .bool, .bool] (encL a.l) [.bool false, .bool false, .bool false, .bool false, .bool false, .bool false, .bool false, .bool false, .bool false, .bool false] = some (decide (a.l = List.replicate 10 false)) := by
  have := atoms_bools a.l (List.replicate 10 false) (by rw [a.h]; rfl)
  rw [a.h] at this
  exact this
theorem can_all {n i : Nat} (hi : i < n) (hn : n ≤ 10) : selA (canA (allL n)) i = true := by
  unfold selA
  rw [List.getD_eq_getElem?_getD, List.getElem?_eq_getElem (show i < (canA (allL n)).l.length by rw [(canA (allL n)).h]; omega), Option.getD_some, canA_get _ _ (by omega), List.contains_iff_mem, mem_allL]
  omega
theorem open_all {b : Book} (o : BookOk b) : openF b (allL b.Pieces.length) = some ⟨b, canA (allL b.Pieces.length)⟩ := if_pos fun k hk => by
  have := mem_allL.1 hk
  have := o.p2
  omega
theorem words_le {t : List Int} {n : Nat} (h : wordsOk t n = true) : 1 ≤ t.length ∧ t.length ≤ n := by
  simp only [wordsOk, Bool.and_eq_true, wi_iff] at h
  omega
set_option maxRecDepth 20000 in
theorem v_Fewest (hE : E.env.fn = G) : Ok E 19 (s2 fun b t => some (FewestVR b t)) := by
  refine ok2 fun b t r hr => ?_
  cases hr
  have good := goodV_cons (v_Check hE) (goodV_cons (v_areWords hE) (goodV_cons (v_all hE) (goodV_cons (v_opened hE) (goodV_cons (v_say hE) goodV_nil))))
  cases ho : okB b
  · have hck : checkB b = 50 := by unfold checkB; rw [ho]; rfl
    refine VP.run (A := F19) (good) [] (by rw [hE]; rfl) (by simp [F19]) ?_; unfold F19; simp (implicitDefEqProofs := false) [enc_list, hck, FewestVR, ho]
  · have hck : checkB b = 0 := by unfold checkB; rw [ho]; rfl
    have o := okB_ok ho
    cases hw : wordsOk t 8
    · refine VP.run (A := F19) (good) [] (by rw [hE]; rfl) (by simp [F19]) ?_; unfold F19; simp (implicitDefEqProofs := false) [enc_list, hck, hw, FewestVR, ho]
    · have hl := words_le (n := 8) hw
      have hA : allF b = some (allL b.Pieces.length) := if_pos o.p2
      have hO := open_all o
      have hS : sayS ⟨b, canA (allL b.Pieces.length)⟩ t = some ((sayF b (fun _ => true) t 0).getD [], (sayF b (fun _ => true) t 0).isSome) := by
        have e : sayF b (selA (canA (allL b.Pieces.length))) t 0 = sayF b (fun _ => true) t 0 := sayF_congr (fun i hi => can_all hi o.p2) t 0
        rw [← e]
        exact if_pos ⟨ho, hl.2⟩
      have hF : FewestVR b t = (match sayF b (fun _ => true) t 0 with | some l => (l, 0) | none => ([], 4)) := by unfold FewestVR; rw [ho, hw]; rfl
      have h10 : (canA (allL b.Pieces.length)).l.length = 10 := (canA _).h
      rw [hF]
      generalize sayF b (fun _ => true) t 0 = m at *
      generalize canA (allL b.Pieces.length) = a at *
      cases m with
      | none => refine VP.run (A := F19) (good) [] (by rw [hE]; rfl) (by simp [F19]) ?_; unfold F19; simp (implicitDefEqProofs := false) [enc_list, hck, hw, hA, hO, enc_BookC, fzL_bools, encL_isF, dec_BookC, hS, slV_al, take_al]
      | some l => refine VP.run (A := F19) (good) [] (by rw [hE]; rfl) (by simp [F19]) ?_; unfold F19; simp (implicitDefEqProofs := false) [enc_list, hck, hw, hA, hO, enc_BookC, fzL_bools, encL_isF, dec_BookC, hS, slV_al, take_al]
end Go.RS.DC

/- Walks: the program (8): the pieces that are needed: what is asked of each text. -/
namespace Go.RS.DC
open Go Go.RS
open Go.RS.Enc (enc dec)
variable {E : VEnv}
theorem v_Needed1 (hE : E.env.fn = G) : Ok E 63 (s1 fun (t : List Int) => some (!wordsOk t 8)) := by
  refine ok1 fun t r hr => ?_
  cases hr
  refine VP.run (A := F63) ((goodV_cons (v_areWords hE) goodV_nil)) [] (by rw [hE]; rfl) (by simp [F63]) ?_; unfold F63; simp (implicitDefEqProofs := false) [enc_list]
/-- Lists and a function that is known by name. -/
def sLg {R : Type} [Enc R] (g : Nat) (F : List (List Int) → Option R) : List PV → Option PV
  | [a, .func f [] []] => if f = g then (dec a).bind fun a => (F a).map enc else none
  | _ => none
@[simp] theorem sLg_app {R : Type} [Enc R] (g f : Nat) (F : List (List Int) → Option R) (a : PV) : sLg g F [a, .func f [] []] = if f = g then (dec a).bind fun a => (F a).map enc else none := rfl
theorem okLg {R : Type} [Enc R] {n g : Nat} {F : List (List Int) → Option R} (h : ∀ l r, F l = some r → VP E n [enc l, .func g [] []] (enc r)) : Ok E n (sLg g F) := fun args r hr => by
  unfold sLg at hr
  split at hr
  · rename_i a f
    split at hr
    · rename_i hf
      subst hf
      simp only [Option.bind_eq_some_iff, Option.map_eq_some_iff] at hr
      obtain ⟨l, ha, x, h1, rfl⟩ := hr
      exact (h l x h1).args ⟨Enc.dec_le ha, by simp [PV.le, PV.leL]⟩
    · cases hr
  · cases hr
/-- The first list that does not pass. -/
def failF (ok : List Int → Bool) : Nat → List (List Int) → Int
  | _, [] => -1
  | k, t :: l => if ok t then failF ok (k + 1) l else k
theorem fail_all (ok : List Int → Bool) : ∀ (l : List (List Int)) (k : Nat), decide (0 ≤ failF ok k l) = !(l.all ok)
  | [], k => by simp [failF]
  | t :: l, k => by
    rw [failF, List.all_cons]
    cases h : ok t
    · simp
    · rw [if_pos rfl, Bool.true_and]; exact fail_all ok l (k + 1)
theorem v_Index63 (hE : E.env.fn = G) : Ok E 91 (sLg 63 fun l => some (failF (fun t => wordsOk t 8) 0 l)) := by
  refine okLg fun l r hr => ?_
  cases hr
  refine VP.bound fun hb => ?_
  simp [enc_list] at hb
  have good := goodV_cons (v_Needed1 hE) goodV_nil
  generalize hT : failF (fun t => wordsOk t 8) 0 l = T
  refine VP.run (A := F91) (good) [] (by rw [hE]; rfl) (by simp [F91]) ?_; unfold F91; simp (implicitDefEqProofs := false) [enc_list]
  refine VW.loop_to 0 [] [] (T = -1) ?_ (fun hp f m hc => ?_)
  · obtain ⟨Inv, hI⟩ : ∃ Inv : Nat → List (Nat × PV) → VM → Prop, ∀ k f m, Inv k f m ↔ (f = [(0, enc l), (1, .func 63 [] []), (6, enc l), (7, .int .i64 l.length), (8, .int .i64 k)] ∧ m = [] ∧ T = failF (fun t => wordsOk t 8) k (l.drop k)) := ⟨_, fun _ _ _ => Iff.rfl⟩
    refine VW.loop_cut Inv l.length ?_ ?_ ?_
    · exact ⟨_, _, (hI _ _ _).2 ⟨rfl, rfl, hT.symm⟩, ⟨0, [], by simp [enc_list], by simp, by simp, by simp (implicitDefEqProofs := false) [enc_list], by simp (implicitDefEqProofs := false) [enc_list]⟩⟩
    · intro k f m hk hi
      obtain ⟨rfl, rfl, hs⟩ := (hI _ _ _).1 hi
      have w1 : IntKind.i64.wrap ((k : Int) + 1) = k + 1 := wrap64 (by omega) (by omega)
      rw [List.drop_eq_getElem_cons hk, failF] at hs
      cases hw : wordsOk l[k] 8
      · rw [hw] at hs
        refine VW.run good [] ?_; simp (implicitDefEqProofs := false) [enc_list, hk, get_List l k hk, w1, hw, hs]
      · rw [hw, if_pos rfl] at hs
        refine VW.run good [] ?_; simp (implicitDefEqProofs := false) [enc_list, hk, get_List l k hk, w1, hw]
        exact ⟨_, _, (hI _ _ _).2 ⟨rfl, rfl, hs⟩, ⟨0, [], by simp [enc_list], by simp, by simp, by simp (implicitDefEqProofs := false) [enc_list], by simp (implicitDefEqProofs := false) [enc_list]⟩⟩
    · intro f m hi
      obtain ⟨rfl, rfl, hs⟩ := (hI _ _ _).1 hi
      rw [List.drop_length, failF] at hs
      refine VW.run good [] ?_; simp (implicitDefEqProofs := false) [enc_list]
      exact ⟨hs, ⟨0, [], by simp [enc_list], by simp, by simp, by simp (implicitDefEqProofs := false) [enc_list], by simp (implicitDefEqProofs := false) [enc_list]⟩⟩
  · simp (implicitDefEqProofs := false); refine .ofCut hc (VW.run good [] ?_); simp (implicitDefEqProofs := false) [enc_list, hp]
theorem v_Contains63 (hE : E.env.fn = G) : Ok E 62 (sLg 63 fun l => some (!(l.all fun t => wordsOk t 8))) := by
  refine okLg fun l r hr => ?_
  cases hr
  rw [← fail_all _ l 0]
  refine VP.run (A := F62) ((goodV_cons (v_Index63 hE) goodV_nil)) [] (by rw [hE]; rfl) (by simp [F62]) ?_; unfold F62; simp (implicitDefEqProofs := false) [enc_list]
/-! ### With some pieces alone -/
abbrev agC (b : Book) (a : Arr 10 Bool) : PV := .agg (enc b.Discs :: enc b.Pieces :: enc b.Pause.Low :: enc b.Pause.High :: enc b.Rest.Low :: enc b.Rest.High :: encL a.l)
theorem vc_says (hE : E.env.fn = G) {M : VM} {b : Book} {a : Arr 10 Bool} {t : List Int} {K : PV → VM → Prop} (ho : okB b = true) (ht1 : 1 ≤ t.length) (ht8 : t.length ≤ 8)
    (hk : K (.bool (sayF b (selA a) t 0).isSome) (M ++ [kbl b a.l])) : VC E false (.func 65 [agC b a] []) [enc t] M K := by
  have o := okB_ok ho
  have good := goodV_cons (v_say hE) goodV_nil
  have h16 : (encL a.l).length = 10 := by rw [encL_length, a.h]; rfl
  have ha10 : a.l.length = 10 := a.h
  have hS : sayS ⟨b, a⟩ t = some ((sayF b (selA a) t 0).getD [], (sayF b (selA a) t 0).isSome) := if_pos ⟨ho, ht8⟩
  refine VC.func (A := F65) (by rw [hE]; rfl) (by simp [F65]) ?_
  unfold F65
  refine VW.run good [] ?_
  by_cases hz : a.l = List.replicate 10 false
  · have hn : sayF b (selA a) t 0 = none := say_none o (fun i hi => by unfold selA; rw [hz, List.getD_eq_getElem?_getD, List.getElem?_replicate]; split <;> rfl) ht1
    have hd : decide (a.l = [false, false, false, false, false, false, false, false, false, false]) = true := decide_eq_true hz
    rw [hn] at hk
    simp (implicitDefEqProofs := false) [enc_list, h16, ha10, take_bools, spliceV, atoms10b, hd]
    exact hk
  · have hd : decide (a.l = [false, false, false, false, false, false, false, false, false, false]) = false := decide_eq_false hz
    generalize sayF b (selA a) t 0 = m at *
    simp (implicitDefEqProofs := false) [enc_list, h16, ha10, take_bools, spliceV, atoms10b, hd, fzL_bools, encL_isF, dec_BookC, hS]
    exact hk
theorem spc_fst (sp : Spec) (M : VM) (f : Nat) (c : PV) (cs cap args : List PV) : spc sp M (.func f (c :: cs) cap) args = none := rfl
theorem vc_66 (hE : E.env.fn = G) {M : VM} {s : Nat} {b : Book} {a : Arr 10 Bool} {t : List Int} {K : PV → VM → Prop} (hs : M[s]? = some (.cells [.func 65 [agC b a] []])) (ho : okB b = true) (ht1 : 1 ≤ t.length) (ht8 : t.length ≤ 8)
    (hk : K (.bool (!(sayF b (selA a) t 0).isSome)) (M ++ [kbl b a.l])) : VC E false (.func 66 [] [.ptr s 1 0]) [enc t] M K := by
  refine VC.func (A := F66) (by rw [hE]; rfl) (by simp [F66]) ?_
  unfold F66
  refine VW.run goodV_nil [] ?_
  simp (implicitDefEqProofs := false) [enc_list, hs, spc_fst]
  unfold VCo
  refine vc_says hE ho ht1 ht8 ?_
  generalize (sayF b (selA a) t 0).isSome = B at *
  simp (implicitDefEqProofs := false) [enc_list]
  exact hk
theorem vc_Index66 (hE : E.env.fn = G) {M : VM} {s : Nat} {b : Book} {a : Arr 10 Bool} {l : List (List Int)} {K : PV → VM → Prop} (hs : M[s]? = some (.cells [.func 65 [agC b a] []])) (hu : ∀ o ∈ M, o.und M.length) (ho : okB b = true) (hl : l.length ≤ 6) (ht : ∀ t ∈ l, 1 ≤ t.length ∧ t.length ≤ 8)
    (hk : ∀ ext, K (.int .i64 (failF (fun t => (sayF b (selA a) t 0).isSome) 0 l)) (M ++ ext)) : VC E false (.func 91 [] []) [enc l, .func 66 [] [.ptr s 1 0]] M K := by
  have lsm := len_hr hs
  generalize hT : failF (fun t => (sayF b (selA a) t 0).isSome) 0 l = T at hk
  refine VC.func (A := F91) (by rw [hE]; rfl) (by simp [F91]) ?_
  unfold F91
  refine VW.run goodV_nil [] ?_
  simp (implicitDefEqProofs := false) [enc_list]
  refine VW.loop_to 0 [] M (T = -1) ?_ (fun hp f m hc => ?_)
  · obtain ⟨Inv, hI⟩ : ∃ Inv : Nat → List (Nat × PV) → VM → Prop, ∀ k f m, Inv k f m ↔ (f = [(0, enc l), (1, .func 66 [] [.ptr s 1 0]), (6, enc l), (7, .int .i64 l.length), (8, .int .i64 k)] ∧ m = M ∧ T = failF (fun t => (sayF b (selA a) t 0).isSome) k (l.drop k)) := ⟨_, fun _ _ _ => Iff.rfl⟩
    refine VW.loop_cut Inv l.length ?_ ?_ ?_
    · exact ⟨_, _, (hI _ _ _).2 ⟨rfl, rfl, hT.symm⟩, cut_all (Nat.le_refl _) hu (by simp (implicitDefEqProofs := false) [enc_list, lsm])⟩
    · intro k f m hk' hi
      obtain ⟨rfl, rfl, hst⟩ := (hI _ _ _).1 hi
      have w1 : IntKind.i64.wrap ((k : Int) + 1) = k + 1 := wrap64 (by omega) (by omega)
      rw [List.drop_eq_getElem_cons hk', failF] at hst
      have htk := ht _ (List.getElem_mem hk')
      refine VW.run goodV_nil [] ?_; simp (implicitDefEqProofs := false) [enc_list, hk', get_List l k hk', w1, spc_capt]
      unfold VCo
      refine vc_66 hE hs ho htk.1 htk.2 ?_
      cases hw : (sayF b (selA a) l[k] 0).isSome
      · rw [hw] at hst
        simp (implicitDefEqProofs := false) [enc_list, hst]
        have := hk [kbl b a.l]
        rw [hst] at this
        simpa using this
      · rw [hw, if_pos rfl] at hst
        simp (implicitDefEqProofs := false) [enc_list, w1]
        exact ⟨_, _, (hI _ _ _).2 ⟨rfl, rfl, hst⟩, cut_pre' rfl (Nat.le_refl _) hu (by simp (implicitDefEqProofs := false) [enc_list, lsm])⟩
    · intro f m hi
      obtain ⟨rfl, rfl, hst⟩ := (hI _ _ _).1 hi
      rw [List.drop_length, failF] at hst
      refine VW.run goodV_nil [] ?_; simp (implicitDefEqProofs := false) [enc_list]
      exact ⟨hst, cut_all (Nat.le_refl _) hu (by simp)⟩
  · have := hk []
    rw [hp, List.append_nil] at this
    simp (implicitDefEqProofs := false); refine .ofCut hc (VW.run goodV_nil [] ?_); simp (implicitDefEqProofs := false) [enc_list, hp]
    exact this
theorem vc_Contains66 (hE : E.env.fn = G) {M : VM} {s : Nat} {b : Book} {a : Arr 10 Bool} {l : List (List Int)} {K : PV → VM → Prop} (hs : M[s]? = some (.cells [.func 65 [agC b a] []])) (hu : ∀ o ∈ M, o.und M.length) (ho : okB b = true) (hl : l.length ≤ 6) (ht : ∀ t ∈ l, 1 ≤ t.length ∧ t.length ≤ 8)
    (hk : ∀ ext, K (.bool (!(l.all fun t => (sayF b (selA a) t 0).isSome))) (M ++ ext)) : VC E false (.func 62 [] []) [enc l, .func 66 [] [.ptr s 1 0]] M K := by
  rw [← fail_all _ l 0] at hk
  refine VC.func (A := F62) (by rw [hE]; rfl) (by simp [F62]) ?_
  unfold F62
  refine VW.run goodV_nil [] ?_
  simp (implicitDefEqProofs := false) [enc_list]
  unfold VCo
  refine vc_Index66 hE hs hu ho hl ht fun ext => ?_
  have := hk ext
  simp (implicitDefEqProofs := false) [enc_list]
  exact this
end Go.RS.DC

