/- Walks: the reference 05 (1): words, Check, Words, fits. -/
import Derived.Test.YtcbkaiakncbcbaaDoorVla
import Derived.Test.YtcbkaiakncbcbaaDoorVpc
set_option linter.all false
namespace Go.RS.DC
open Go Go.RS
open Go.RS.Enc (enc dec)
variable {E : VEnv}
theorem r_words (hE : E.env.fn = G) : Ok E 57 (s2 fun l most => some (wordsOk l most)) := by
  refine ok2 fun l most r hr => ?_
  cases hr
  refine VP.bound fun hb => ?_
  simp [enc_list] at hb
  have good := goodV_cons (w_Lies hE) goodV_nil
  obtain ⟨T, hT⟩ : ∃ T, wordsOk l most = T := ⟨_, rfl⟩
  rw [hT]
  unfold wordsOk at hT
  cases h1 : wi l.length 1 most
  · rw [h1, Bool.false_and] at hT
    subst hT
    refine VP.run (A := F57) (good) [] (by rw [hE]; rfl) (by simp [F57]) ?_; unfold F57; simp (implicitDefEqProofs := false) [enc_list, h1]
    refine VW.loop_to 0 [(5, .bool false)] [] (True) ?_ (fun hp f m hc => ?_)
    · obtain ⟨Inv, hI⟩ : ∃ Inv : Nat → List (Nat × PV) → VM → Prop, ∀ k f m, Inv k f m ↔ (f = [(0, enc l), (5, .bool false), (6, .int .i64 0)] ∧ m = []) := ⟨_, fun _ _ _ => Iff.rfl⟩
      refine VW.loop_cut Inv 0 ?_ ?_ ?_
      · exact ⟨_, _, (hI _ _ _).2 ⟨rfl, rfl⟩, ⟨0, [], by simp [enc_list], by simp, by simp, by simp (implicitDefEqProofs := false) [enc_list], by simp (implicitDefEqProofs := false) [enc_list]⟩⟩
      · intro k f m hk hi
        omega
      · intro f m hi
        obtain ⟨rfl, rfl⟩ := (hI _ _ _).1 hi
        refine VW.run good [] ?_; simp (implicitDefEqProofs := false) [enc_list]
        exact ⟨0, [], by simp [enc_list], by simp, by simp, by simp (implicitDefEqProofs := false) [enc_list], by simp (implicitDefEqProofs := false) [enc_list]⟩
    · simp (implicitDefEqProofs := false); refine .ofCut hc (VW.run good [] ?_); simp (implicitDefEqProofs := false) [enc_list]
  · rw [h1, Bool.true_and] at hT
    refine VP.run (A := F57) (good) [] (by rw [hE]; rfl) (by simp [F57]) ?_; unfold F57; simp (implicitDefEqProofs := false) [enc_list, h1]
    refine VW.loop_to 0 [(5, .bool T)] [] (True) ?_ (fun hp f m hc => ?_)
    · obtain ⟨Inv, hI⟩ : ∃ Inv : Nat → List (Nat × PV) → VM → Prop, ∀ k f m, Inv k f m ↔ (f = [(0, enc l), (5, .bool ((l.take k).all fun n => wi n 0 299)), (6, .int .i64 k)] ∧ m = []) := ⟨_, fun _ _ _ => Iff.rfl⟩
      refine VW.loop_cut Inv l.length ?_ ?_ ?_
      · exact ⟨_, _, (hI _ _ _).2 ⟨rfl, rfl⟩, ⟨0, [], by simp [enc_list], by simp, by simp, by simp (implicitDefEqProofs := false) [enc_list], by simp (implicitDefEqProofs := false) [enc_list]⟩⟩
      · intro k f m hk hi
        obtain ⟨rfl, rfl⟩ := (hI _ _ _).1 hi
        have w1 : IntKind.i64.wrap ((k : Int) + 1) = k + 1 := wrap64 (by omega) (by omega)
        have hk' : (k : Int) < l.length := by omega
        have htk : l.take (k + 1) = l.take k ++ [l[k]] := by rw [List.take_add_one, List.getElem?_eq_getElem hk]; rfl
        have hst : (l.take (k + 1)).all (fun n => wi n 0 299) = ((l.take k).all (fun n => wi n 0 299) && wi l[k] 0 299) := by rw [htk, List.all_append]; simp
        have hg := get_Int l k hk
        have hall : l.all (fun n => wi n 0 299) = true → (l.take k).all (fun n => wi n 0 299) = true := fun h => List.all_eq_true.2 fun x hx => List.all_eq_true.1 h x (List.mem_of_mem_take hx)
        generalize l[k] = x at *
        cases hc : (l.take k).all fun n => wi n 0 299
        · have hTf : T = false := by
            cases T
            · rfl
            · rw [hall hT] at hc; cases hc
          subst hTf
          refine VW.run good [] ?_; simp (implicitDefEqProofs := false) [enc_list, hk, hk', hg, w1]
          exact ⟨0, [], by simp [enc_list], by simp, by simp, by simp (implicitDefEqProofs := false) [enc_list], by simp (implicitDefEqProofs := false) [enc_list]⟩
        · rw [hc, Bool.true_and] at hst
          cases hx : wi x 0 299
          · rw [hx] at hst
            refine VW.run good [] ?_; simp (implicitDefEqProofs := false) [enc_list, hk, hk', hg, w1, hx]
            exact ⟨_, _, (hI _ _ _).2 ⟨rfl, rfl⟩, ⟨0, [], by simp [enc_list,  hst], by simp, by simp, by simp (implicitDefEqProofs := false) [enc_list,  hst], by simp (implicitDefEqProofs := false) [enc_list,  hst]⟩⟩
          · rw [hx] at hst
            refine VW.run good [] ?_; simp (implicitDefEqProofs := false) [enc_list, hk, hk', hg, w1, hx]
            exact ⟨_, _, (hI _ _ _).2 ⟨rfl, rfl⟩, ⟨0, [], by simp [enc_list,  hst], by simp, by simp, by simp (implicitDefEqProofs := false) [enc_list,  hst], by simp (implicitDefEqProofs := false) [enc_list,  hst]⟩⟩
      · intro f m hi
        obtain ⟨rfl, rfl⟩ := (hI _ _ _).1 hi
        rw [List.take_length, hT]
        cases T
        · refine VW.run good [] ?_; simp (implicitDefEqProofs := false) [enc_list]
          exact ⟨0, [], by simp [enc_list], by simp, by simp, by simp (implicitDefEqProofs := false) [enc_list], by simp (implicitDefEqProofs := false) [enc_list]⟩
        · refine VW.run good [] ?_; simp (implicitDefEqProofs := false) [enc_list]
          exact ⟨0, [], by simp [enc_list], by simp, by simp, by simp (implicitDefEqProofs := false) [enc_list], by simp (implicitDefEqProofs := false) [enc_list]⟩
    · simp (implicitDefEqProofs := false) [enc_list, AExit.leave]
      refine .ofCut hc (VW.run good [] ?_)
      simp (implicitDefEqProofs := false) [enc_list]
theorem all_take {α : Type} (p : α → Bool) (l : List α) (k : Nat) (h : l.all p = true) : (l.take k).all p = true :=
  List.all_eq_true.2 fun x hx => List.all_eq_true.1 h x (List.mem_of_mem_take hx)
theorem all_take1 {α : Type} (p : α → Bool) (l : List α) (k : Nat) (h : k < l.length) : (l.take (k + 1)).all p = ((l.take k).all p && p l[k]) := by
  have htk : l.take (k + 1) = l.take k ++ [l[k]] := by rw [List.take_add_one, List.getElem?_eq_getElem h]; rfl
  rw [htk, List.all_append]; simp
theorem r_Check (hE : E.env.fn = G) : Ok E 18 (s1 fun b => some (checkB b)) := by
  refine ok1 fun b r hr => ?_
  cases hr
  refine VP.bound fun hb => ?_
  simp [enc_list] at hb
  have good := goodV_cons (w_Lies hE) (goodV_cons (v_Valid hE) (goodV_cons (r_words hE) goodV_nil))
  have hck : checkB b = if okB b = true then 0 else 50 := rfl
  have hok : okB b = (headB b && b.Discs.all (fun n => wi n 1 500) && b.Pieces.all (pieceOk b)) := rfl
  generalize hT : okB b = T at hck hok
  rw [hck]
  refine VP.func (A := F18) (by rw [hE]; rfl) (by simp [F18]) ?_; unfold F18
  refine VW.seq (VW.run good [] ?_); simp (implicitDefEqProofs := false) [enc_list]
  refine VW.seq_cut [(1, .ptr 0 6 0), (3, .bool (headB b))] [bcl b] (VW.run good [] ?_) ?_; simp (implicitDefEqProofs := false) [enc_list]
  · repeat' (first | (refine vstep_split (fun hb => ?_) (fun hb => ?_) <;> (try simp only [Bool.not_eq_eq_eq_not, Bool.not_true, Bool.not_false, decide_eq_true_eq, decide_eq_false_iff_not] at hb) <;> simp (implicitDefEqProofs := false) [hb, enc_list]) | (refine vcond_split (fun hb => ?_) (fun hb => ?_) <;> (try simp only [Bool.not_eq_eq_eq_not, Bool.not_true, Bool.not_false, decide_eq_true_eq, decide_eq_false_iff_not] at hb) <;> simp (implicitDefEqProofs := false) [hb, enc_list]))
    all_goals exact ⟨1, [], by simp [enc_list,  headB, *], by simp, by simp, by simp (implicitDefEqProofs := false) [enc_list,  headB, *], by simp (implicitDefEqProofs := false) [enc_list,  headB, *]⟩
  refine VW.run good [] ?_; simp (implicitDefEqProofs := false) [enc_list]
  obtain ⟨D, hD⟩ : ∃ D, (headB b && b.Discs.all (fun n => wi n 1 500)) = D := ⟨_, rfl⟩
  rw [hD] at hok
  refine VW.loop_to 0 [(1, .ptr 0 6 0), (3, .bool D)] [bcl b] (True) ?_ (fun hp f m hc => ?_)
  · obtain ⟨Inv, hI⟩ : ∃ Inv : Nat → List (Nat × PV) → VM → Prop, ∀ k f m, Inv k f m ↔ (f = [(1, .ptr 0 6 0), (3, .bool (headB b && (b.Discs.take k).all (fun n => wi n 1 500))), (4, .int .i64 k)] ∧ m = [bcl b]) := ⟨_, fun _ _ _ => Iff.rfl⟩
    refine VW.loop_cut Inv b.Discs.length ?_ ?_ ?_
    · exact ⟨_, _, (hI _ _ _).2 ⟨rfl, rfl⟩, ⟨1, [], by simp [enc_list], by simp, by simp, by simp (implicitDefEqProofs := false) [enc_list], by simp (implicitDefEqProofs := false) [enc_list]⟩⟩
    · intro k f m hk hi
      obtain ⟨rfl, rfl⟩ := (hI _ _ _).1 hi
      have w1 : IntKind.i64.wrap ((k : Int) + 1) = k + 1 := wrap64 (by omega) (by omega)
      have hk' : (k : Int) < b.Discs.length := by omega
      have hst := all_take1 (fun n => wi n 1 500) b.Discs k hk
      have hg := get_Int b.Discs k hk
      have hall := all_take (fun n => wi n 1 500) b.Discs k
      generalize b.Discs[k] = x at *
      cases hc : (headB b && (b.Discs.take k).all fun n => wi n 1 500)
      · have hDf : D = false := by
          rw [← hD]
          cases h1 : headB b
          · rfl
          · rw [h1, Bool.true_and] at hc
            cases h2 : b.Discs.all fun n => wi n 1 500
            · rfl
            · rw [hall h2] at hc; cases hc
        subst hDf
        refine VW.run good [] ?_; simp (implicitDefEqProofs := false) [enc_list, hk, hk', hg, w1]
        exact ⟨1, [], by simp [enc_list], by simp, by simp, by simp (implicitDefEqProofs := false) [enc_list], by simp (implicitDefEqProofs := false) [enc_list]⟩
      · have hc' := hc
        simp only [Bool.and_eq_true] at hc'
        rw [hc'.2, Bool.true_and] at hst
        cases hx : wi x 1 500
        · rw [hx] at hst
          refine VW.run good [] ?_; simp (implicitDefEqProofs := false) [enc_list, hk, hk', hg, w1, hx]
          exact ⟨_, _, (hI _ _ _).2 ⟨rfl, rfl⟩, ⟨1, [], by simp [enc_list,  hst, hc'.1], by simp, by simp, by simp (implicitDefEqProofs := false) [enc_list,  hst, hc'.1], by simp (implicitDefEqProofs := false) [enc_list,  hst, hc'.1]⟩⟩
        · rw [hx] at hst
          refine VW.run good [] ?_; simp (implicitDefEqProofs := false) [enc_list, hk, hk', hg, w1, hx]
          exact ⟨_, _, (hI _ _ _).2 ⟨rfl, rfl⟩, ⟨1, [], by simp [enc_list,  hst, hc'.1], by simp, by simp, by simp (implicitDefEqProofs := false) [enc_list,  hst, hc'.1], by simp (implicitDefEqProofs := false) [enc_list,  hst, hc'.1]⟩⟩
    · intro f m hi
      obtain ⟨rfl, rfl⟩ := (hI _ _ _).1 hi
      rw [List.take_length, hD]
      cases D
      · refine VW.run good [] ?_; simp (implicitDefEqProofs := false) [enc_list]
        exact ⟨1, [], by simp [enc_list], by simp, by simp, by simp (implicitDefEqProofs := false) [enc_list], by simp (implicitDefEqProofs := false) [enc_list]⟩
      · refine VW.run good [] ?_; simp (implicitDefEqProofs := false) [enc_list]
        exact ⟨1, [], by simp [enc_list], by simp, by simp, by simp (implicitDefEqProofs := false) [enc_list], by simp (implicitDefEqProofs := false) [enc_list]⟩
  · simp (implicitDefEqProofs := false); refine .ofCut hc (VW.run good [] ?_); simp (implicitDefEqProofs := false) [enc_list]
    refine VW.loop_to 2 [(3, .bool T)] [] (True) ?_ (fun hp f m hc => ?_)
    · obtain ⟨Inv, hI⟩ : ∃ Inv : Nat → List (Nat × PV) → VM → Prop, ∀ k f m, Inv k f m ↔ (f = [(1, .ptr 0 6 0), (3, .bool (D && (b.Pieces.take k).all (pieceOk b))), (5, .int .i64 k)] ∧ m = [bcl b]) := ⟨_, fun _ _ _ => Iff.rfl⟩
      refine VW.loop_cut Inv b.Pieces.length ?_ ?_ ?_
      · exact ⟨_, _, (hI _ _ _).2 ⟨rfl, rfl⟩, ⟨1, [], by simp [enc_list], by simp, by simp, by simp (implicitDefEqProofs := false) [enc_list], by simp (implicitDefEqProofs := false) [enc_list]⟩⟩
      · intro k f m hk hi
        obtain ⟨rfl, rfl⟩ := (hI _ _ _).1 hi
        have w1 : IntKind.i64.wrap ((k : Int) + 1) = k + 1 := wrap64 (by omega) (by omega)
        have hk' : (k : Int) < b.Pieces.length := by omega
        have hst := all_take1 (pieceOk b) b.Pieces k hk
        have hg := get_Piece b.Pieces k hk
        have hall := all_take (pieceOk b) b.Pieces k
        generalize b.Pieces[k] = x at *
        cases hc : (D && (b.Pieces.take k).all (pieceOk b))
        · have hTf : T = false := by
            rw [hok]
            cases h1 : D
            · rfl
            · rw [h1, Bool.true_and] at hc
              cases h2 : b.Pieces.all (pieceOk b)
              · rfl
              · rw [hall h2] at hc; cases hc
          subst hTf
          refine VW.run good [] ?_; simp (implicitDefEqProofs := false) [enc_list, hk, hk', hg, w1]
          exact ⟨0, [], by simp [enc_list], by simp, by simp, by simp (implicitDefEqProofs := false) [enc_list], by simp (implicitDefEqProofs := false) [enc_list]⟩
        · have hc' := hc
          simp only [Bool.and_eq_true] at hc'
          rw [hc'.2, Bool.true_and] at hst
          have hD1 : D = true := hc'.1
          subst hD1
          have hh := hD
          simp only [headB, Bool.and_eq_true, wi_iff, List.all_eq_true] at hh
          have w2 : IntKind.i64.wrap ((b.Discs.length : Int) - 1) = b.Discs.length - 1 := wrap64 (by omega) (by omega)
          cases h1 : wordsOk x.Words 4
          · have hp : pieceOk b x = false := by unfold pieceOk; rw [h1]; rfl
            rw [hp] at hst
            refine VW.run good [] ?_; simp (implicitDefEqProofs := false) [enc_list, hk, hk', hg, w1, w2, h1, spliceV]
            exact ⟨_, _, (hI _ _ _).2 ⟨rfl, rfl⟩, ⟨1, [], by simp [enc_list,  hst], by simp, by simp, by simp (implicitDefEqProofs := false) [enc_list,  hst], by simp (implicitDefEqProofs := false) [enc_list,  hst]⟩⟩
          · cases h2 : wi x.Disc 0 ((b.Discs.length : Int) - 1)
            · have hp : pieceOk b x = false := by unfold pieceOk; rw [h1, h2]; rfl
              rw [hp] at hst
              refine VW.run good [] ?_; simp (implicitDefEqProofs := false) [enc_list, hk, hk', hg, w1, w2, h1, h2, spliceV]
              exact ⟨_, _, (hI _ _ _).2 ⟨rfl, rfl⟩, ⟨1, [], by simp [enc_list,  hst], by simp, by simp, by simp (implicitDefEqProofs := false) [enc_list,  hst], by simp (implicitDefEqProofs := false) [enc_list,  hst]⟩⟩
            · obtain ⟨d0, d1⟩ := (wi_iff _ _ _).1 h2
              obtain ⟨d, hd⟩ : ∃ d : Nat, x.Disc = d := ⟨x.Disc.toNat, by omega⟩
              have hdl : d < b.Discs.length := by omega
              have hdl' : (d : Int) < b.Discs.length := by omega
              have hdisc : discOf b x = b.Discs[d] := by
                unfold discOf
                rw [hd, Int.toNat_natCast, List.getD_eq_getElem?_getD, List.getElem?_eq_getElem hdl]; rfl
              have hrg := hh.2 _ (List.getElem_mem hdl)
              have w3 : IntKind.i64.wrap (b.Discs[d] - 1) = b.Discs[d] - 1 := wrap64 (by omega) (by omega)
              have hp : pieceOk b x = (wi x.Begin 0 (b.Discs[d] - 1) && wi x.Long 1 b.Discs[d]) := by
                unfold pieceOk
                rw [h1, h2, hdisc, Bool.true_and, Bool.true_and]
              have hgd := get_Int b.Discs d hdl
              rw [hp] at hst
              generalize b.Discs[d] = t at *
              rw [hd] at h2
              cases h3 : wi x.Begin 0 (t - 1)
              · rw [h3, Bool.false_and] at hst
                refine VW.run good [] ?_; simp (implicitDefEqProofs := false) [enc_list, hk, hk', hg, w1, w2, w3, h1, h2, h3, hd, hdl, hdl', hgd, spliceV]
                exact ⟨_, _, (hI _ _ _).2 ⟨rfl, rfl⟩, ⟨1, [], by simp [enc_list,  hst], by simp, by simp, by simp (implicitDefEqProofs := false) [enc_list,  hst], by simp (implicitDefEqProofs := false) [enc_list,  hst]⟩⟩
              · rw [h3, Bool.true_and] at hst
                refine VW.run good [] ?_; simp (implicitDefEqProofs := false) [enc_list, hk, hk', hg, w1, w2, w3, h1, h2, h3, hd, hdl, hdl', hgd, spliceV]
                exact ⟨_, _, (hI _ _ _).2 ⟨rfl, rfl⟩, ⟨1, [], by simp [enc_list,  hst], by simp, by simp, by simp (implicitDefEqProofs := false) [enc_list,  hst], by simp (implicitDefEqProofs := false) [enc_list,  hst]⟩⟩
      · intro f m hi
        obtain ⟨rfl, rfl⟩ := (hI _ _ _).1 hi
        rw [List.take_length, ← hok]
        cases T
        · refine VW.run good [] ?_; simp (implicitDefEqProofs := false) [enc_list]
          exact ⟨0, [], by simp [enc_list], by simp, by simp, by simp (implicitDefEqProofs := false) [enc_list], by simp (implicitDefEqProofs := false) [enc_list]⟩
        · refine VW.run good [] ?_; simp (implicitDefEqProofs := false) [enc_list]
          exact ⟨0, [], by simp [enc_list], by simp, by simp, by simp (implicitDefEqProofs := false) [enc_list], by simp (implicitDefEqProofs := false) [enc_list]⟩
    · simp (implicitDefEqProofs := false); refine .ofCut hc (VW.run good [] ?_); simp (implicitDefEqProofs := false) [enc_list]
      cases T <;> simp (implicitDefEqProofs := false) [enc_list]
theorem r_Words (hE : E.env.fn = G) : Ok E 15 (s1 fun r => some (WordsR r)) := by
  refine ok1 fun x r hr => ?_
  cases hr
  have good := goodV_cons (w_Lies hE) goodV_nil
  cases h1 : wi x.Hour 0 99
  · refine VP.run (A := F15) (good) [] (by rw [hE]; rfl) (by simp [F15]) ?_; unfold F15; simp (implicitDefEqProofs := false) [enc_list, h1, WordsR]
  · cases h2 : wi x.Minute 0 99
    · refine VP.run (A := F15) (good) [] (by rw [hE]; rfl) (by simp [F15]) ?_; unfold F15; simp (implicitDefEqProofs := false) [enc_list, h1, h2, WordsR]
    · cases h3 : wi x.Second 0 99
      · refine VP.run (A := F15) (good) [] (by rw [hE]; rfl) (by simp [F15]) ?_; unfold F15; simp (implicitDefEqProofs := false) [enc_list, h1, h2, h3, WordsR]
      · have := (wi_iff _ _ _).1 h2
        have := (wi_iff _ _ _).1 h3
        have w1 : IntKind.i64.wrap (x.Minute + 100) = x.Minute + 100 := wrap64 (by omega) (by omega)
        have w2 : IntKind.i64.wrap (x.Second + 200) = x.Second + 200 := wrap64 (by omega) (by omega)
        refine VP.run (A := F15) (good) [] (by rw [hE]; rfl) (by simp [F15]) ?_; unfold F15; simp (implicitDefEqProofs := false) [enc_list, h1, h2, h3, w1, w2, WordsR, spliceV, encL, El.cells]
def fitsG (b : Book) (i : Int) (text : List Int) (p : Int) : Option Bool :=
  if okB b = true ∧ 0 ≤ i ∧ i < b.Pieces.length ∧ 0 ≤ p ∧ p ≤ text.length ∧ text.length ≤ 100 then some (fitsB (pieceAt b i) text p.toNat) else none
theorem r_fits (hE : E.env.fn = G) : Ok E 71 (s4 fitsG) := by
  refine ok4 fun b i text p r hr => ?_
  unfold fitsG at hr
  split at hr
  · rename_i hc
    cases hr
    obtain ⟨ho, h0, h1, h2, h3, h4⟩ := hc
    refine VP.bound fun hb => ?_
    simp [enc_list] at hb
    have o := okB_ok ho
    obtain ⟨k, rfl⟩ : ∃ k : Nat, i = k := ⟨i.toNat, by omega⟩
    obtain ⟨q, rfl⟩ : ∃ q : Nat, p = q := ⟨p.toNat, by omega⟩
    have hk : k < b.Pieces.length := by omega
    have good := goodV_cons (w_Alike hE) goodV_nil
    have hg := get_Piece b.Pieces k hk
    have hpn : pieceAt b (k : Int) = b.Pieces[k] := by rw [pieceAt_nat, List.getD_eq_getElem?_getD, List.getElem?_eq_getElem hk]; rfl
    have hpo := o.ps _ (List.getElem_mem hk)
    have hw := hpo.w2
    rw [hpn, Int.toNat_natCast]
    generalize b.Pieces[k] = x at *
    obtain ⟨z, hz⟩ : ∃ z, q + x.Words.length = z := ⟨_, rfl⟩
    have w1 : IntKind.i64.wrap ((q : Int) + x.Words.length) = (z : Int) := by rw [wrap64 (by omega) (by omega)]; omega
    by_cases hle : z ≤ text.length
    · have hle' : (z : Int) ≤ text.length := by omega
      have hq1 := hpo.w1
      have hplt : q < text.length := by omega
      have hsub : z - q = x.Words.length := by omega
      have hdm := fun ex => dec_mid ex ((text.drop q).take x.Words.length) x.Words.length (by rw [List.length_take, List.length_drop]; omega)
      have hsl := slV_mid (n := text.length) (i := q) (j := z) (by omega) hle
      have hfit : fitsB x text q = decide (x.Words = (text.drop q).take x.Words.length) := by
        unfold fitsB
        rw [hz, decide_eq_true hle, Bool.true_and]
        exact decide_eq_decide.2 eq_comm
      rw [hfit]
      refine VP.run (A := F71) (good) [] (by rw [hE]; rfl) (by simp [F71]) ?_; unfold F71; simp (implicitDefEqProofs := false) [enc_list, hk, h1, hg, w1, hle', hsl, hplt, hsub, take_drop_In, hdm]
    · have hle' : ¬ (z : Int) ≤ text.length := by omega
      have hfit : fitsB x text q = false := by
        unfold fitsB
        rw [hz, decide_eq_false hle, Bool.false_and]
      rw [hfit]
      refine VP.run (A := F71) (good) [] (by rw [hE]; rfl) (by simp [F71]) ?_; unfold F71; simp (implicitDefEqProofs := false) [enc_list, hk, h1, hg, w1, hle']
  · cases hr
end Go.RS.DC

/- Walks: the reference 05 (4): what is asked; plans; the better of two ends. -/
namespace Go.RS.DC
open Go Go.RS
open Go.RS.Enc (enc dec)
variable {E : VEnv}
theorem r_asked (hE : E.env.fn = G) : Ok E 70 (s4 fun b t f p => some (askedV b t f p)) := by
  refine ok4 fun b t f p r hr => ?_
  cases hr
  have good := goodV_cons (r_Check hE) (goodV_cons (r_words hE) goodV_nil)
  cases ho : okB b
  · have hck : checkB b = 50 := by unfold checkB; rw [ho]; rfl
    refine VP.run (A := F70) (good) [] (by rw [hE]; rfl) (by simp [F70]) ?_; unfold F70; simp (implicitDefEqProofs := false) [enc_list, hck, askedV, ho]
  · have hck : checkB b = 0 := by unfold checkB; rw [ho]; rfl
    cases hw : wordsOk t 8
    · refine VP.run (A := F70) (good) [] (by rw [hE]; rfl) (by simp [F70]) ?_; unfold F70; simp (implicitDefEqProofs := false) [enc_list, hck, hw, askedV, ho]
    · obtain ⟨T, hT⟩ : ∃ T, timesOk f p = T := ⟨_, rfl⟩
      have hT' := hT
      unfold timesOk at hT'
      by_cases h1 : f < 0
      · have h1' : T = false := by
          rw [← hT']
          cases h : wi f 0 100000000
          · rfl
          · have := (wi_iff _ _ _).1 h; omega
        refine VP.run (A := F70) (good) [] (by rw [hE]; rfl) (by simp [F70]) ?_; unfold F70; simp (implicitDefEqProofs := false) [enc_list, hck, hw, h1, askedV, ho, hT, h1']
      · by_cases h2 : p < f
        · have h2' : T = false := by
            rw [← hT']
            cases h : wi p f 100000000
            · simp
            · have := (wi_iff _ _ _).1 h; omega
          refine VP.run (A := F70) (good) [] (by rw [hE]; rfl) (by simp [F70]) ?_; unfold F70; simp (implicitDefEqProofs := false) [enc_list, hck, hw, h1, h2, askedV, ho, hT, h2']
        · by_cases h3 : 100000000 < p
          · have h3' : T = false := by
              rw [← hT']
              cases h : wi p f 100000000
              · simp
              · have := (wi_iff _ _ _).1 h; omega
            refine VP.run (A := F70) (good) [] (by rw [hE]; rfl) (by simp [F70]) ?_; unfold F70; simp (implicitDefEqProofs := false) [enc_list, hck, hw, h1, h2, h3, askedV, ho, hT, h3']
          · have w1 : IntKind.i64.wrap (p - f) = p - f := wrap64 (by omega) (by omega)
            rw [(wi_iff _ _ _).2 ⟨by omega, by omega⟩, (wi_iff _ _ _).2 ⟨by omega, by omega⟩, Bool.true_and, Bool.true_and] at hT'
            by_cases h4 : 6100 < p - f
            · rw [decide_eq_false (by omega)] at hT'
              refine VP.run (A := F70) (good) [] (by rw [hE]; rfl) (by simp [F70]) ?_; unfold F70; simp (implicitDefEqProofs := false) [enc_list, hck, hw, h1, h2, h3, h4, w1, askedV, ho, hT, ← hT']
            · rw [decide_eq_true (by omega)] at hT'
              refine VP.run (A := F70) (good) [] (by rw [hE]; rfl) (by simp [F70]) ?_; unfold F70; simp (implicitDefEqProofs := false) [enc_list, hck, hw, h1, h2, h3, h4, w1, askedV, ho, hT, ← hT']
theorem min_if (x y : Int) : (if y < x then y else x) = min x y := by rw [Int.min_def]; split <;> split <;> omega
theorem max_if (x y : Int) : (if x < y then y else x) = max x y := by rw [Int.max_def]; split <;> split <;> omega
theorem r_better (hE : E.env.fn = G) : Ok E 96 (s2 fun a b => some (betterE a b)) := by
  refine ok2 fun a b r hr => ?_
  cases hr
  obtain ⟨a1, a2⟩ := a
  obtain ⟨b1, b2⟩ := b
  by_cases h : a1 = 0
  · subst h
    refine VP.run (A := F96) (goodV_nil) [] (by rw [hE]; rfl) (by simp [F96]) ?_; unfold F96; simp (implicitDefEqProofs := false) [enc_list, betterE, spliceV]
  · refine VP.run (A := F96) (goodV_nil) [] (by rw [hE]; rfl) (by simp [F96]) ?_; unfold F96; simp (implicitDefEqProofs := false) [enc_list, betterE, h, minmaxV, min_if, max_if, spliceV]
end Go.RS.DC

/- Walks: the reference 05 (5): what can have ended before; the best end of a whole text. -/
namespace Go.RS.DC
open Go Go.RS
open Go.RS.Enc (enc dec)
variable {E : VEnv}
/-- The best of a part of a row, each with so many pieces more. -/
def rowF (d : Int) (row : List End) (lo : Nat) : Nat → End
  | 0 => ⟨0, 0⟩
  | n + 1 => addE d (rowF d row lo n) (row.getD (lo + n) ⟨0, 0⟩)
abbrev smallE (row : List End) : Prop := ∀ e ∈ row, 0 ≤ e.pieces ∧ e.pieces ≤ 100
abbrev loA (b : Book) (at_ : Int) : Int := max 0 (at_ - b.Pause.High)
abbrev nA (b : Book) (at_ : Int) : Nat := (at_ - b.Pause.Low + 1 - loA b at_).toNat
def afterG (b : Book) (row : List End) (at_ : Int) : Option End :=
  if okB b = true ∧ 0 ≤ at_ ∧ at_ < row.length ∧ row.length ≤ 10000 ∧ smallE row then some (rowF 1 row (loA b at_).toNat (nA b at_)) else none
set_option maxHeartbeats 800000 in
set_option maxRecDepth 20000 in
theorem r_after (hE : E.env.fn = G) : Ok E 114 (s3 afterG) := by
  refine ok3 fun b row t r hr => ?_
  unfold afterG at hr
  split at hr
  · rename_i hc
    cases hr
    obtain ⟨ho, t0, t1, hr, hsm⟩ := hc
    have o := okB_ok ho
    have a0 := o.a0
    have a1 := o.a1
    have a2 := o.a2
    have good := goodV_cons (r_better hE) goodV_nil
    obtain ⟨lo, hlo⟩ : ∃ lo : Nat, loA b t = lo := ⟨(loA b t).toNat, by have := Int.le_max_left 0 (t - b.Pause.High); unfold loA; omega⟩
    obtain ⟨N, hN⟩ : ∃ N, nA b t = N := ⟨_, rfl⟩
    have hN' := hN
    unfold nA at hN'
    rw [hlo] at hN' ⊢
    rw [hN, Int.toNat_natCast]
    have w1 : IntKind.i64.wrap (t - b.Pause.High) = t - b.Pause.High := wrap64 (by omega) (by omega)
    have w2 : IntKind.i64.wrap (t - b.Pause.Low) = t - b.Pause.Low := wrap64 (by omega) (by omega)
    have hlo2 : lo ≤ 10000 := by
      have : loA b t ≤ t := Int.max_le.2 ⟨by omega, by omega⟩
      omega
    have hmm : (if b.Pause.High < t then t - b.Pause.High else 0) = (lo : Int) := by
      rw [← hlo]; unfold loA; rw [Int.max_def]; split <;> split <;> omega
    obtain ⟨T, hT⟩ : ∃ T, rowF 1 row lo N = T := ⟨_, rfl⟩
    rw [hT]
    refine VP.run (A := F114) (good) [] (by rw [hE]; rfl) (by simp [F114]) ?_; unfold F114; simp (implicitDefEqProofs := false) [enc_list, w1, minmaxV, hmm]
    refine VW.loop_to 0 [(6, .ptr 1 2 0), (7, .ptr 2 2 0)] [bcl b, .cells [.int .i64 0, .int .i64 0], .cells [enc T.pieces, enc T.first]] (True) ?_ (fun hp f m hc => ?_)
    · obtain ⟨Inv, hI⟩ : ∃ Inv : Nat → List (Nat × PV) → VM → Prop, ∀ k f m, Inv k f m ↔ (∃ out : End, f = [(1, enc row), (2, .int .i64 t), (3, .ptr 0 6 0), (6, .ptr 1 2 0), (7, .ptr 2 2 0), (8, .int .i64 ((lo + k : Nat) : Int))] ∧ m = [bcl b, .cells [.int .i64 0, .int .i64 0], .cells [enc out.pieces, enc out.first]] ∧ out = rowF 1 row lo k) := ⟨_, fun _ _ _ => Iff.rfl⟩
      refine VW.loop_cut Inv N ?_ ?_ ?_
      · exact ⟨_, _, (hI _ _ _).2 ⟨⟨0, 0⟩, rfl, rfl, rfl⟩, ⟨3, [], by simp [enc_list], by simp, by simp, by simp (implicitDefEqProofs := false) [enc_list], by simp (implicitDefEqProofs := false) [enc_list]⟩⟩
      · intro k f m hk hi
        obtain ⟨out, rfl, rfl, hout⟩ := (hI _ _ _).1 hi
        obtain ⟨z, hz⟩ : ∃ z, lo + k = z := ⟨_, rfl⟩
        have hst : rowF 1 row lo (k + 1) = addE 1 out (row.getD z ⟨0, 0⟩) := by rw [rowF, ← hout, hz]
        have w3 : IntKind.i64.wrap ((z : Int) + 1) = ((lo + (k + 1) : Nat) : Int) := by rw [wrap64 (by omega) (by omega)]; omega
        have hzr : z < row.length := by omega
        have hzr' : (z : Int) < row.length := by omega
        have hzl : (z : Int) ≤ t - b.Pause.Low := by omega
        have hg := get_End row z hzr
        have hsm1 := hsm _ (List.getElem_mem hzr)
        rw [List.getD_eq_getElem?_getD, List.getElem?_eq_getElem hzr, Option.getD_some] at hst
        rw [hz]
        generalize row[z] = e at *
        have w4 : IntKind.i64.wrap (e.pieces + 1) = e.pieces + 1 := wrap64 (by omega) (by omega)
        obtain ⟨o1, o2⟩ := out
        by_cases hp : 0 < e.pieces
        · have hp1 : 1 ≤ e.pieces := by omega
          rw [addE, if_pos hp1] at hst
          obtain ⟨⟨n1, n2⟩, hb⟩ : ∃ x, betterE ⟨o1, o2⟩ ⟨e.pieces + 1, e.first⟩ = x := ⟨_, rfl⟩
          rw [hb] at hst
          refine VW.run good [] ?_; simp (implicitDefEqProofs := false) [enc_list, hzr, hzr', hzl, hg, w2, w3, w4, hp, hb, spliceV]
          exact ⟨_, _, (hI _ _ _).2 ⟨⟨n1, n2⟩, rfl, rfl, hst.symm⟩, ⟨3, [], by simp [enc_list], by simp, by simp, by simp (implicitDefEqProofs := false) [enc_list], by simp (implicitDefEqProofs := false) [enc_list]⟩⟩
        · have hp1 : ¬ 1 ≤ e.pieces := by omega
          rw [addE, if_neg hp1] at hst
          refine VW.run good [] ?_; simp (implicitDefEqProofs := false) [enc_list, hzr, hzr', hzl, hg, w2, w3, w4, hp, spliceV]
          exact ⟨_, _, (hI _ _ _).2 ⟨⟨o1, o2⟩, rfl, rfl, hst.symm⟩, ⟨3, [], by simp [enc_list], by simp, by simp, by simp (implicitDefEqProofs := false) [enc_list], by simp (implicitDefEqProofs := false) [enc_list]⟩⟩
      · intro f m hi
        obtain ⟨out, rfl, rfl, hout⟩ := (hI _ _ _).1 hi
        rw [hT] at hout
        subst hout
        have hzl : ¬ ((lo + N : Nat) : Int) ≤ t - b.Pause.Low := by omega
        obtain ⟨z, hz⟩ : ∃ z, lo + N = z := ⟨_, rfl⟩
        rw [hz] at hzl ⊢
        refine VW.run good [] ?_; simp (implicitDefEqProofs := false) [enc_list, w2, hzl]
        exact ⟨3, [], by simp [enc_list], by simp, by simp, by simp (implicitDefEqProofs := false) [enc_list], by simp (implicitDefEqProofs := false) [enc_list]⟩
    · simp (implicitDefEqProofs := false); refine .ofCut hc (VW.run good [] ?_); simp (implicitDefEqProofs := false) [enc_list, spliceV]
  · cases hr
end Go.RS.DC

