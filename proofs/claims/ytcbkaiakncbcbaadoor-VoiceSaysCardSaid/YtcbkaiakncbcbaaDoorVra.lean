/- Walks: the reference 05 (1): words, Check, Words, fits. -/
import Derived.Test.YtcbkaiakncbcbaaDoorVla
set_option linter.all false
namespace Go.RS.DC
open Go Go.RS
open Go.RS.Enc (enc dec)
variable {E : VEnv}
theorem r_words (hE : E.env.fn = G) : Ok E 57 (s2 fun l most => some (wordsOk l most)) := by
  refine ok2 fun l most r hr => ?_
  cases hr
  refine VP.bound fun hb => ?_
  simp [enc_list] at hb
  have good := goodV_cons (w_Lies hE) goodV_nil
  obtain ⟨T, hT⟩ : ∃ T, wordsOk l most = T := ⟨_, rfl⟩
  rw [hT]
  unfold wordsOk at hT
  cases h1 : wi l.length 1 most
  · rw [h1, Bool.false_and] at hT
    subst hT
    refine VP.run (A := F57) (good) [] (by rw [hE]; rfl) (by simp [F57]) ?_; unfold F57; simp (implicitDefEqProofs := false) [enc_list, h1]
    refine VW.loop_to 0 [(5, .bool false)] [] (True) ?_ (fun hp f m hc => ?_)
    · obtain ⟨Inv, hI⟩ : ∃ Inv : Nat → List (Nat × PV) → VM → Prop, ∀ k f m, Inv k f m ↔ (f = [(0, enc l), (5, .bool false), (6, .int .i64 0)] ∧ m = []) := ⟨_, fun _ _ _ => Iff.rfl⟩
      refine VW.loop_cut Inv 0 ?_ ?_ ?_
      · exact ⟨_, _, (hI _ _ _).2 ⟨rfl, rfl⟩, ⟨0, [], by simp [enc_list], by simp, by simp, by simp (implicitDefEqProofs := false) [enc_list], by simp (implicitDefEqProofs := false) [enc_list]⟩⟩
      · intro k f m hk hi
        omega
      · intro f m hi
        obtain ⟨rfl, rfl⟩ := (hI _ _ _).1 hi
        refine VW.run good [] ?_; simp (implicitDefEqProofs := false) [enc_list]
        exact ⟨0, [], by simp [enc_list], by simp, by simp, by simp (implicitDefEqProofs := false) [enc_list], by simp (implicitDefEqProofs := false) [enc_list]⟩
    · simp (implicitDefEqProofs := false); refine .ofCut hc (VW.run good [] ?_); simp (implicitDefEqProofs := false) [enc_list]
  · rw [h1, Bool.true_and] at hT
    refine VP.run (A := F57) (good) [] (by rw [hE]; rfl) (by simp [F57]) ?_; unfold F57; simp (implicitDefEqProofs := false) [enc_list, h1]
    refine VW.loop_to 0 [(5, .bool T)] [] (True) ?_ (fun hp f m hc => ?_)
    · obtain ⟨Inv, hI⟩ : ∃ Inv : Nat → List (Nat × PV) → VM → Prop, ∀ k f m, Inv k f m ↔ (f = [(0, enc l), (5, .bool ((l.take k).all fun n => wi n 0 299)), (6, .int .i64 k)] ∧ m = []) := ⟨_, fun _ _ _ => Iff.rfl⟩
      refine VW.loop_cut Inv l.length ?_ ?_ ?_
      · exact ⟨_, _, (hI _ _ _).2 ⟨rfl, rfl⟩, ⟨0, [], by simp [enc_list], by simp, by simp, by simp (implicitDefEqProofs := false) [enc_list], by simp (implicitDefEqProofs := false) [enc_list]⟩⟩
      · intro k f m hk hi
        obtain ⟨rfl, rfl⟩ := (hI _ _ _).1 hi
        have w1 : IntKind.i64.wrap ((k : Int) + 1) = k + 1 := wrap64 (by omega) (by omega)
        have hk' : (k : Int) < l.length := by omega
        have htk : l.take (k + 1) = l.take k ++ [l[k]] := by rw [List.take_add_one, List.getElem?_eq_getElem hk]; rfl
        have hst : (l.take (k + 1)).all (fun n => wi n 0 299) = ((l.take k).all (fun n => wi n 0 299) && wi l[k] 0 299) := by rw [htk, List.all_append]; simp
        have hg := get_Int l k hk
        have hall : l.all (fun n => wi n 0 299) = true → (l.take k).all (fun n => wi n 0 299) = true := fun h => List.all_eq_true.2 fun x hx => List.all_eq_true.1 h x (List.mem_of_mem_take hx)
        generalize l[k] = x at *
        cases hc : (l.take k).all fun n => wi n 0 299
        · have hTf : T = false := by
            cases T
            · rfl
            · rw [hall hT] at hc; cases hc
          subst hTf
          refine VW.run good [] ?_; simp (implicitDefEqProofs := false) [enc_list, hk, hk', hg, w1]
          exact ⟨0, [], by simp [enc_list], by simp, by simp, by simp (implicitDefEqProofs := false) [enc_list], by simp (implicitDefEqProofs := false) [enc_list]⟩
        · rw [hc, Bool.true_and] at hst
          cases hx : wi x 0 299
          · rw [hx] at hst
            refine VW.run good [] ?_; simp (implicitDefEqProofs := false) [enc_list, hk, hk', hg, w1, hx]
            exact ⟨_, _, (hI _ _ _).2 ⟨rfl, rfl⟩, ⟨0, [], by simp [enc_list,  hst], by simp, by simp, by simp (implicitDefEqProofs := false) [enc_list,  hst], by simp (implicitDefEqProofs := false) [enc_list,  hst]⟩⟩
          · rw [hx] at hst
            refine VW.run good [] ?_; simp (implicitDefEqProofs := false) [enc_list, hk, hk', hg, w1, hx]
            exact ⟨_, _, (hI _ _ _).2 ⟨rfl, rfl⟩, ⟨0, [], by simp [enc_list,  hst], by simp, by simp, by simp (implicitDefEqProofs := false) [enc_list,  hst], by simp (implicitDefEqProofs := false) [enc_list,  hst]⟩⟩
      · intro f m hi
        obtain ⟨rfl, rfl⟩ := (hI _ _ _).1 hi
        rw [List.take_length, hT]
        cases T
        · refine VW.run good [] ?_; simp (implicitDefEqProofs := false) [enc_list]
          exact ⟨0, [], by simp [enc_list], by simp, by simp, by simp (implicitDefEqProofs := false) [enc_list], by simp (implicitDefEqProofs := false) [enc_list]⟩
        · refine VW.run good [] ?_; simp (implicitDefEqProofs := false) [enc_list]
          exact ⟨0, [], by simp [enc_list], by simp, by simp, by simp (implicitDefEqProofs := false) [enc_list], by simp (implicitDefEqProofs := false) [enc_list]⟩
    · simp (implicitDefEqProofs := false) [enc_list, AExit.leave]
      refine .ofCut hc (VW.run good [] ?_)
      simp (implicitDefEqProofs := false) [enc_list]
theorem all_take {α : Type} (p : α → Bool) (l : List α) (k : Nat) (h : l.all p = true) : (l.take k).all p = true :=
  List.all_eq_true.2 fun x hx => List.all_eq_true.1 h x (List.mem_of_mem_take hx)
theorem all_take1 {α : Type} (p : α → Bool) (l : List α) (k : Nat) (h : k < l.length) : (l.take (k + 1)).all p = ((l.take k).all p && p l[k]) := by
  have htk : l.take (k + 1) = l.take k ++ [l[k]] := by rw [List.take_add_one, List.getElem?_eq_getElem h]; rfl
  rw [htk, List.all_append]; simp
theorem r_Check (hE : E.env.fn = G) : Ok E 18 (s1 fun b => some (checkB b)) := by
  refine ok1 fun b r hr => ?_
  cases hr
  refine VP.bound fun hb => ?_
  simp [enc_list] at hb
  have good := goodV_cons (w_Lies hE) (goodV_cons (v_Valid hE) (goodV_cons (r_words hE) goodV_nil))
  have hck : checkB b = if okB b = true then 0 else 50 := rfl
  have hok : okB b = (headB b && b.Discs.all (fun n => wi n 1 500) && b.Pieces.all (pieceOk b)) := rfl
  generalize hT : okB b = T at hck hok
  rw [hck]
  refine VP.func (A := F18) (by rw [hE]; rfl) (by simp [F18]) ?_; unfold F18
  refine VW.seq (VW.run good [] ?_); simp (implicitDefEqProofs := false) [enc_list]
  refine VW.seq_cut [(1, .ptr 0 6 0), (3, .bool (headB b))] [bcl b] (VW.run good [] ?_) ?_; simp (implicitDefEqProofs := false) [enc_list]
  · repeat' (first | (refine vstep_split (fun hb => ?_) (fun hb => ?_) <;> (try simp only [Bool.not_eq_eq_eq_not, Bool.not_true, Bool.not_false, decide_eq_true_eq, decide_eq_false_iff_not] at hb) <;> simp (implicitDefEqProofs := false) [hb, enc_list]) | (refine vcond_split (fun hb => ?_) (fun hb => ?_) <;> (try simp only [Bool.not_eq_eq_eq_not, Bool.not_true, Bool.not_false, decide_eq_true_eq, decide_eq_false_iff_not] at hb) <;> simp (implicitDefEqProofs := false) [hb, enc_list]))
    all_goals exact ⟨1, [], by simp [enc_list,  headB, *], by simp, by simp, by simp (implicitDefEqProofs := false) [enc_list,  headB, *], by simp (implicitDefEqProofs := false) [enc_list,  headB, *]⟩
  refine VW.run good [] ?_; simp (implicitDefEqProofs := false) [enc_list]
  obtain ⟨D, hD⟩ : ∃ D, (headB b && b.Discs.all (fun n => wi n 1 500)) = D := ⟨_, rfl⟩
  rw [hD] at hok
  refine VW.loop_to 0 [(1, .ptr 0 6 0), (3, .bool D)] [bcl b] (True) ?_ (fun hp f m hc => ?_)
  · obtain ⟨Inv, hI⟩ : ∃ Inv : Nat → List (Nat × PV) → VM → Prop, ∀ k f m, Inv k f m ↔ (f = [(1, .ptr 0 6 0), (3, .bool (headB b && (b.Discs.take k).all (fun n => wi n 1 500))), (4, .int .i64 k)] ∧ m = [bcl b]) := ⟨_, fun _ _ _ => Iff.rfl⟩
    refine VW.loop_cut Inv b.Discs.length ?_ ?_ ?_
    · exact ⟨_, _, (hI _ _ _).2 ⟨rfl, rfl⟩, ⟨1, [], by simp [enc_list], by simp, by simp, by simp (implicitDefEqProofs := false) [enc_list], by simp (implicitDefEqProofs := false) [enc_list]⟩⟩
    · intro k f m hk hi
      obtain ⟨rfl, rfl⟩ := (hI _ _ _).1 hi
      have w1 : IntKind.i64.wrap ((k : Int) + 1) = k + 1 := wrap64 (by omega) (by omega)
      have hk' : (k : Int) < b.Discs.length := by omega
      have hst := all_take1 (fun n => wi n 1 500) b.Discs k hk
      have hg := get_Int b.Discs k hk
      have hall := all_take (fun n => wi n 1 500) b.Discs k
      generalize b.Discs[k] = x at *
      cases hc : (headB b && (b.Discs.take k).all fun n => wi n 1 500)
      · have hDf : D = false := by
          rw [← hD]
          cases h1 : headB b
          · rfl
          · rw [h1, Bool.true_and] at hc
            cases h2 : b.Discs.all fun n => wi n 1 500
            · rfl
            · rw [hall h2] at hc; cases hc
        subst hDf
        refine VW.run good [] ?_; simp (implicitDefEqProofs := false) [enc_list, hk, hk', hg, w1]
        exact ⟨1, [], by simp [enc_list], by simp, by simp, by simp (implicitDefEqProofs := false) [enc_list], by simp (implicitDefEqProofs := false) [enc_list]⟩
      · have hc' := hc
        simp only [Bool.and_eq_true] at hc'
        rw [hc'.2, Bool.true_and] at hst
        cases hx : wi x 1 500
        · rw [hx] at hst
          refine VW.run good [] ?_; simp (implicitDefEqProofs := false) [enc_list, hk, hk', hg, w1, hx]
          exact ⟨_, _, (hI _ _ _).2 ⟨rfl, rfl⟩, ⟨1, [], by simp [enc_list,  hst, hc'.1], by simp, by simp, by simp (implicitDefEqProofs := false) [enc_list,  hst, hc'.1], by simp (implicitDefEqProofs := false) [enc_list,  hst, hc'.1]⟩⟩
        · rw [hx] at hst
          refine VW.run good [] ?_; simp (implicitDefEqProofs := false) [enc_list, hk, hk', hg, w1, hx]
          exact ⟨_, _, (hI _ _ _).2 ⟨rfl, rfl⟩, ⟨1, [], by simp [enc_list,  hst, hc'.1], by simp, by simp, by simp (implicitDefEqProofs := false) [enc_list,  hst, hc'.1], by simp (implicitDefEqProofs := false) [enc_list,  hst, hc'.1]⟩⟩
    · intro f m hi
      obtain ⟨rfl, rfl⟩ := (hI _ _ _).1 hi
      rw [List.take_length, hD]
      cases D
      · refine VW.run good [] ?_; simp (implicitDefEqProofs := false) [enc_list]
        exact ⟨1, [], by simp [enc_list], by simp, by simp, by simp (implicitDefEqProofs := false) [enc_list], by simp (implicitDefEqProofs := false) [enc_list]⟩
      · refine VW.run good [] ?_; simp (implicitDefEqProofs := false) [enc_list]
        exact ⟨1, [], by simp [enc_list], by simp, by simp, by simp (implicitDefEqProofs := false) [enc_list], by simp (implicitDefEqProofs := false) [enc_list]⟩
  · simp (implicitDefEqProofs := false); refine .ofCut hc (VW.run good [] ?_); simp (implicitDefEqProofs := false) [enc_list]
    refine VW.loop_to 2 [(3, .bool T)] [] (True) ?_ (fun hp f m hc => ?_)
    · obtain ⟨Inv, hI⟩ : ∃ Inv : Nat → List (Nat × PV) → VM → Prop, ∀ k f m, Inv k f m ↔ (f = [(1, .ptr 0 6 0), (3, .bool (D && (b.Pieces.take k).all (pieceOk b))), (5, .int .i64 k)] ∧ m = [bcl b]) := ⟨_, fun _ _ _ => Iff.rfl⟩
      refine VW.loop_cut Inv b.Pieces.length ?_ ?_ ?_
      · exact ⟨_, _, (hI _ _ _).2 ⟨rfl, rfl⟩, ⟨1, [], by simp [enc_list], by simp, by simp, by simp (implicitDefEqProofs := false) [enc_list], by simp (implicitDefEqProofs := false) [enc_list]⟩⟩
      · intro k f m hk hi
        obtain ⟨rfl, rfl⟩ := (hI _ _ _).1 hi
        have w1 : IntKind.i64.wrap ((k : Int) + 1) = k + 1 := wrap64 (by omega) (by omega)
        have hk' : (k : Int) < b.Pieces.length := by omega
        have hst := all_take1 (pieceOk b) b.Pieces k hk
        have hg := get_Piece b.Pieces k hk
        have hall := all_take (pieceOk b) b.Pieces k
        generalize b.Pieces[k] = x at *
        cases hc : (D && (b.Pieces.take k).all (pieceOk b))
        · have hTf : T = false := by
            rw [hok]
            cases h1 : D
            · rfl
            · rw [h1, Bool.true_and] at hc
              cases h2 : b.Pieces.all (pieceOk b)
              · rfl
              · rw [hall h2] at hc; cases hc
          subst hTf
          refine VW.run good [] ?_; simp (implicitDefEqProofs := false) [enc_list, hk, hk', hg, w1]
          exact ⟨0, [], by simp [enc_list], by simp, by simp, by simp (implicitDefEqProofs := false) [enc_list], by simp (implicitDefEqProofs := false) [enc_list]⟩
        · have hc' := hc
          simp only [Bool.and_eq_true] at hc'
          rw [hc'.2, Bool.true_and] at hst
          have hD1 : D = true := hc'.1
          subst hD1
          have hh := hD
          simp only [headB, Bool.and_eq_true, wi_iff, List.all_eq_true] at hh
          have w2 : IntKind.i64.wrap ((b.Discs.length : Int) - 1) = b.Discs.length - 1 := wrap64 (by omega) (by omega)
          cases h1 : wordsOk x.Words 4
          · have hp : pieceOk b x = false := by unfold pieceOk; rw [h1]; rfl
            rw [hp] at hst
            refine VW.run good [] ?_; simp (implicitDefEqProofs := false) [enc_list, hk, hk', hg, w1, w2, h1, spliceV]
            exact ⟨_, _, (hI _ _ _).2 ⟨rfl, rfl⟩, ⟨1, [], by simp [enc_list,  hst], by simp, by simp, by simp (implicitDefEqProofs := false) [enc_list,  hst], by simp (implicitDefEqProofs := false) [enc_list,  hst]⟩⟩
          · cases h2 : wi x.Disc 0 ((b.Discs.length : Int) - 1)
            · have hp : pieceOk b x = false := by unfold pieceOk; rw [h1, h2]; rfl
              rw [hp] at hst
              refine VW.run good [] ?_; simp (implicitDefEqProofs := false) [enc_list, hk, hk', hg, w1, w2, h1, h2, spliceV]
              exact ⟨_, _, (hI _ _ _).2 ⟨rfl, rfl⟩, ⟨1, [], by simp [enc_list,  hst], by simp, by simp, by simp (implicitDefEqProofs := false) [enc_list,  hst], by simp (implicitDefEqProofs := false) [enc_list,  hst]⟩⟩
            · obtain ⟨d0, d1⟩ := (wi_iff _ _ _).1 h2
              obtain ⟨d, hd⟩ : ∃ d : Nat, x.Disc = d := ⟨x.Disc.toNat, by omega⟩
              have hdl : d < b.Discs.length := by omega
              have hdl' : (d : Int) < b.Discs.length := by omega
              have hdisc : discOf b x = b.Discs[d] := by
                unfold discOf
                rw [hd, Int.toNat_natCast, List.getD_eq_getElem?_getD, List.getElem?_eq_getElem hdl]; rfl
              have hrg := hh.2 _ (List.getElem_mem hdl)
              have w3 : IntKind.i64.wrap (b.Discs[d] - 1) = b.Discs[d] - 1 := wrap64 (by omega) (by omega)
              have hp : pieceOk b x = (wi x.Begin 0 (b.Discs[d] - 1) && wi x.Long 1 b.Discs[d]) := by
                unfold pieceOk
                rw [h1, h2, hdisc, Bool.true_and, Bool.true_and]
              have hgd := get_Int b.Discs d hdl
              rw [hp] at hst
              generalize b.Discs[d] = t at *
              rw [hd] at h2
              cases h3 : wi x.Begin 0 (t - 1)
              · rw [h3, Bool.false_and] at hst
                refine VW.run good [] ?_; simp (implicitDefEqProofs := false) [enc_list, hk, hk', hg, w1, w2, w3, h1, h2, h3, hd, hdl, hdl', hgd, spliceV]
                exact ⟨_, _, (hI _ _ _).2 ⟨rfl, rfl⟩, ⟨1, [], by simp [enc_list,  hst], by simp, by simp, by simp (implicitDefEqProofs := false) [enc_list,  hst], by simp (implicitDefEqProofs := false) [enc_list,  hst]⟩⟩
              · rw [h3, Bool.true_and] at hst
                refine VW.run good [] ?_; simp (implicitDefEqProofs := false) [enc_list, hk, hk', hg, w1, w2, w3, h1, h2, h3, hd, hdl, hdl', hgd, spliceV]
                exact ⟨_, _, (hI _ _ _).2 ⟨rfl, rfl⟩, ⟨1, [], by simp [enc_list,  hst], by simp, by simp, by simp (implicitDefEqProofs := false) [enc_list,  hst], by simp (implicitDefEqProofs := false) [enc_list,  hst]⟩⟩
      · intro f m hi
        obtain ⟨rfl, rfl⟩ := (hI _ _ _).1 hi
        rw [List.take_length, ← hok]
        cases T
        · refine VW.run good [] ?_; simp (implicitDefEqProofs := false) [enc_list]
          exact ⟨0, [], by simp [enc_list], by simp, by simp, by simp (implicitDefEqProofs := false) [enc_list], by simp (implicitDefEqProofs := false) [enc_list]⟩
        · refine VW.run good [] ?_; simp (implicitDefEqProofs := false) [enc_list]
          exact ⟨0, [], by simp [enc_list], by simp, by simp, by simp (implicitDefEqProofs := false) [enc_list], by simp (implicitDefEqProofs := false) [enc_list]⟩
    · simp (implicitDefEqProofs := false); refine .ofCut hc (VW.run good [] ?_); simp (implicitDefEqProofs := false) [enc_list]
      cases T <;> simp (implicitDefEqProofs := false) [enc_list]
theorem r_Words (hE : E.env.fn = G) : Ok E 15 (s1 fun r => some (WordsR r)) := by
  refine ok1 fun x r hr => ?_
  cases hr
  have good := goodV_cons (w_Lies hE) goodV_nil
  cases h1 : wi x.Hour 0 99
  · refine VP.run (A := F15) (good) [] (by rw [hE]; rfl) (by simp [F15]) ?_; unfold F15; simp (implicitDefEqProofs := false) [enc_list, h1, WordsR]
  · cases h2 : wi x.Minute 0 99
    · refine VP.run (A := F15) (good) [] (by rw [hE]; rfl) (by simp [F15]) ?_; unfold F15; simp (implicitDefEqProofs := false) [enc_list, h1, h2, WordsR]
    · cases h3 : wi x.Second 0 99
      · refine VP.run (A := F15) (good) [] (by rw [hE]; rfl) (by simp [F15]) ?_; unfold F15; simp (implicitDefEqProofs := false) [enc_list, h1, h2, h3, WordsR]
      · have := (wi_iff _ _ _).1 h2
        have := (wi_iff _ _ _).1 h3
        have w1 : IntKind.i64.wrap (x.Minute + 100) = x.Minute + 100 := wrap64 (by omega) (by omega)
        have w2 : IntKind.i64.wrap (x.Second + 200) = x.Second + 200 := wrap64 (by omega) (by omega)
        refine VP.run (A := F15) (good) [] (by rw [hE]; rfl) (by simp [F15]) ?_; unfold F15; simp (implicitDefEqProofs := false) [enc_list, h1, h2, h3, w1, w2, WordsR, spliceV, encL, El.cells]
def fitsG (b : Book) (i : Int) (text : List Int) (p : Int) : Option Bool :=
  if okB b = true ∧ 0 ≤ i ∧ i < b.Pieces.length ∧ 0 ≤ p ∧ p ≤ text.length ∧ text.length ≤ 100 then some (fitsB (pieceAt b i) text p.toNat) else none
theorem r_fits (hE : E.env.fn = G) : Ok E 71 (s4 fitsG) := by
  refine ok4 fun b i text p r hr => ?_
  unfold fitsG at hr
  split at hr
  · rename_i hc
    cases hr
    obtain ⟨ho, h0, h1, h2, h3, h4⟩ := hc
    refine VP.bound fun hb => ?_
    simp [enc_list] at hb
    have o := okB_ok ho
    obtain ⟨k, rfl⟩ : ∃ k : Nat, i = k := ⟨i.toNat, by omega⟩
    obtain ⟨q, rfl⟩ : ∃ q : Nat, p = q := ⟨p.toNat, by omega⟩
    have hk : k < b.Pieces.length := by omega
    have good := goodV_cons (w_Alike hE) goodV_nil
    have hg := get_Piece b.Pieces k hk
    have hpn : pieceAt b (k : Int) = b.Pieces[k] := by rw [pieceAt_nat, List.getD_eq_getElem?_getD, List.getElem?_eq_getElem hk]; rfl
    have hpo := o.ps _ (List.getElem_mem hk)
    have hw := hpo.w2
    rw [hpn, Int.toNat_natCast]
    generalize b.Pieces[k] = x at *
    obtain ⟨z, hz⟩ : ∃ z, q + x.Words.length = z := ⟨_, rfl⟩
    have w1 : IntKind.i64.wrap ((q : Int) + x.Words.length) = (z : Int) := by rw [wrap64 (by omega) (by omega)]; omega
    by_cases hle : z ≤ text.length
    · have hle' : (z : Int) ≤ text.length := by omega
      have hq1 := hpo.w1
      have hplt : q < text.length := by omega
      have hsub : z - q = x.Words.length := by omega
      have hdm := fun ex => dec_mid ex ((text.drop q).take x.Words.length) x.Words.length (by rw [List.length_take, List.length_drop]; omega)
      have hsl := slV_mid (n := text.length) (i := q) (j := z) (by omega) hle
      have hfit : fitsB x text q = decide (x.Words = (text.drop q).take x.Words.length) := by
        unfold fitsB
        rw [hz, decide_eq_true hle, Bool.true_and]
        exact decide_eq_decide.2 eq_comm
      rw [hfit]
      refine VP.run (A := F71) (good) [] (by rw [hE]; rfl) (by simp [F71]) ?_; unfold F71; simp (implicitDefEqProofs := false) [enc_list, hk, h1, hg, w1, hle', hsl, hplt, hsub, take_drop_In, hdm]
    · have hle' : ¬ (z : Int) ≤ text.length := by omega
      have hfit : fitsB x text q = false := by
        unfold fitsB
        rw [hz, decide_eq_false hle, Bool.false_and]
      rw [hfit]
      refine VP.run (A := F71) (good) [] (by rw [hE]; rfl) (by simp [F71]) ?_; unfold F71; simp (implicitDefEqProofs := false) [enc_list, hk, h1, hg, w1, hle']
  · cases hr
end Go.RS.DC

/- Walks: the reference 05 (2): the fewest pieces. -/
namespace Go.RS.DC
open Go Go.RS
open Go.RS.Enc (enc dec)
variable {E : VEnv}
abbrev selS (s : Int) (i : Nat) : Bool := s.toNat.testBit i
def fewGr (r : Nat) (b : Book) (s : Int) (t : List Int) (p : Int) : Option (List Int × Bool) :=
  if okB b = true ∧ 0 ≤ s ∧ s < 1048576 ∧ t.length ≤ 8 ∧ 0 ≤ p ∧ p ≤ t.length ∧ t.length < r + p then some ((sayF b (selS s) t p.toNat).getD [], (sayF b (selS s) t p.toNat).isSome) else none
/-- The best so far, and where it lies. -/
def FewV (m : Option (List Int)) (v : PV) (M : VM) : Prop := (BestV m v ∧ M = []) ∨ ∃ W : List Int, W ≠ [] ∧ m = some W ∧ v = .sl 1 W.length 0 W.length (openCap + 1) 1 ∧ M = [.vec (encL W)]
theorem app_nil1 (M : VM) (i : Int) : appendV M 1 8 (.lst true 1 1 [.int .i64 i]) (.lst false 0 1 []) = some (.lst true 1 1 [.int .i64 i], M) := by unfold appendV; rfl
theorem bestV_some (ex : Bool) : ∀ {W : List Int}, W ≠ [] → BestV (some W) (.lst ex W.length 1 (encL W))
  | [], h => (h rfl).elim
  | _ :: _, _ => ⟨ex, rfl⟩
theorem few_pre {c : ACode} {Q : AExit → VFr → VM → Prop} {b : Book} {m : Option (List Int)} {v : PV} {M : VM} {s p k : Int} {t : List Int} {fd : Bool} (hv : FewV m v M)
    (h : ∀ v, BestV m v → VW E 0 c (mkF [(1, .int .i64 s), (2, enc t), (3, .int .i64 p), (4, .ptr 0 6 0), (10, v), (11, .bool fd), (12, .int .i64 k)]) [bcl b] Q) :
    VW E 0 c (mkF [(1, .int .i64 s), (2, enc t), (3, .int .i64 p), (4, .ptr 0 6 0), (10, v), (11, .bool fd), (12, .int .i64 k)]) (bcl b :: M) Q := by
  rcases hv with ⟨h1, rfl⟩ | ⟨W, hW, rfl, rfl, rfl⟩
  · exact h v h1
  · refine VW.freeze (t := 1) (len := W.length) (o := 0) (q := W.length) (cap := openCap + 1) (e := 1) 10 (by simp) ?_
    refine .ofCut (l := [(1, .int .i64 s), (2, enc t), (3, .int .i64 p), (4, .ptr 0 6 0), (10, .lst false W.length 1 (encL W)), (11, .bool fd), (12, .int .i64 k)]) (M := [bcl b]) ⟨1, [], by simp [enc_list], by simp, by simp, by simp (implicitDefEqProofs := false) [enc_list], by simp (implicitDefEqProofs := false) [enc_list]⟩ ?_
    exact h (.lst false W.length 1 (encL W)) (bestV_some false hW)
theorem best_len {b : Book} (o : BookOk b) {sel : Nat → Bool} {t : List Int} (ht : t.length ≤ 8) {p : Nat} {n : Nat} {m : List Int} (h : bestF (candF b sel t p) n = some m) : m.length ≤ 9 := by
  obtain ⟨i, l, _, h2, rfl⟩ := bestF_some n h
  unfold candF at h2
  split at h2
  · rename_i hc
    rw [Bool.and_eq_true] at hc
    have := say_len o ht (fits_le hc.2) h2
    simp; omega
  · cases h2
set_option maxHeartbeats 3200000 in
set_option maxRecDepth 20000 in
theorem r_few (hE : E.env.fn = G) : ∀ r : Nat, Ok E 61 (s4 (fewGr r)) := by
  intro r
  induction r with
  | zero =>
    refine ok4 fun b s t p r hr => ?_
    unfold fewGr at hr
    rw [if_neg (by omega)] at hr
    cases hr
  | succ r ih =>
    refine ok4 fun b s t p x hr => ?_
    unfold fewGr at hr
    split at hr
    · rename_i hc
      cases hr
      obtain ⟨ho, hs0, hs1, ht, hp0, hp1, hr⟩ := hc
      have o := okB_ok ho
      have p2 := o.p2
      obtain ⟨p, rfl⟩ : ∃ q : Nat, p = q := ⟨p.toNat, by omega⟩
      rw [Int.toNat_natCast]
      have good := goodV_cons ih (goodV_cons (v_In hE) (goodV_cons (r_fits hE) goodV_nil))
      by_cases hpe : p = t.length
      · subst hpe
        rw [sayF_end]
        refine VP.run (A := F61) (good) [] (by rw [hE]; rfl) (by simp [F61]) ?_; unfold F61; simp (implicitDefEqProofs := false) [enc_list]
      · have hpl : p < t.length := by omega
        have hpe' : ¬ (p : Int) = t.length := by omega
        obtain ⟨R, hR⟩ : ∃ R, sayF b (selS s) t p = R := ⟨_, rfl⟩
        have hst := sayF_step o (selS s) t hpl
        rw [hR] at hst ⊢
        refine VP.func (A := F61) (by rw [hE]; rfl) (by simp [F61]) ?_; unfold F61
        refine VW.seq (VW.run good [] ?_); simp (implicitDefEqProofs := false) [enc_list]
        refine VW.seq (VW.run good [] ?_); simp (implicitDefEqProofs := false) [enc_list, hpe']
        refine VW.run good [] ?_; simp (implicitDefEqProofs := false) [enc_list]
        obtain ⟨cand, hcd⟩ : ∃ cand, (candF b (selS s) t p) = cand := ⟨_, rfl⟩
        have hst' : R = bestF cand b.Pieces.length := by rw [hst, ← hcd]
        have hbl : ∀ n m, bestF cand n = some m → m.length ≤ 9 := fun n m h => best_len o ht (by rw [hcd]; exact h)
        refine VW.loop_toE 0 (fun (v : PV) => [(10, v), (11, .bool R.isSome)]) (fun (v : PV) => []) (fun (v : PV) => BestV R v) ?_ (fun v hp f m hc => ?_)
        · obtain ⟨Inv, hI⟩ : ∃ Inv : Nat → List (Nat × PV) → VM → Prop, ∀ k f m, Inv k f m ↔ (∃ v M, f = [(1, .int .i64 s), (2, enc t), (3, .int .i64 p), (4, .ptr 0 6 0), (10, v), (11, .bool (bestF cand k).isSome), (12, .int .i64 k)] ∧ m = bcl b :: M ∧ FewV (bestF cand k) v M) := ⟨_, fun _ _ _ => Iff.rfl⟩
          refine VW.loop_cut Inv b.Pieces.length ?_ ?_ ?_
          · exact ⟨_, _, (hI _ _ _).2 ⟨.nilS, [], rfl, rfl, .inl ⟨rfl, rfl⟩⟩, ⟨1, [], by simp [enc_list,  bestF], by simp, by simp, by simp (implicitDefEqProofs := false) [enc_list,  bestF], by simp (implicitDefEqProofs := false) [enc_list,  bestF]⟩⟩
          · intro k f m hk hi
            have w1 : IntKind.i64.wrap ((k : Int) + 1) = k + 1 := wrap64 (by omega) (by omega)
            have hk' : (k : Int) < b.Pieces.length := by omega
            have hin : inF s (k : Int) = some (selS s k) := by
              unfold inF; rw [if_pos ⟨hs0, hs1, by omega, by omega⟩, Int.toNat_natCast]
            have hfi : fitsG b (k : Int) t (p : Int) = some (fitsB b.Pieces[k] t p) := by
              unfold fitsG
              rw [if_pos ⟨ho, by omega, by omega, by omega, by omega, by omega⟩, pieceAt_nat, List.getD_eq_getElem?_getD, List.getElem?_eq_getElem hk, Int.toNat_natCast]; rfl
            have hca : cand k = if (selS s k && fitsB b.Pieces[k] t p) = true then sayF b (selS s) t (p + b.Pieces[k].Words.length) else none := by
              rw [← hcd]
              simp only [candF, List.getD_eq_getElem?_getD, List.getElem?_eq_getElem hk]
              rfl
            have hg := get_Piece b.Pieces k hk
            have po := o.ps _ (List.getElem_mem hk)
            have pw1 := po.w1
            have pw2 := po.w2
            have hle : fitsB b.Pieces[k] t p = true → p + b.Pieces[k].Words.length ≤ t.length := fits_le
            generalize b.Pieces[k] = x at *
            have hB : bestF cand (k + 1) = (match cand k, bestF cand k with | none, m => m | some l, none => some ((k : Int) :: l) | some l, some m => if l.length + 1 < m.length then some ((k : Int) :: l) else some m) := rfl
            have hbl' := hbl k
            obtain ⟨v, M, rfl, rfl, hv⟩ := (hI _ _ _).1 hi
            refine few_pre hv ?_
            intro v hv
            have hvu := hv.und 1
            have hvl : v.le v := Go.RS.le_refl v
            generalize hz : bestF cand k = z at *
            cases hbit : selS s k
            · rw [hbit] at hin hca
              rw [Bool.false_and, if_neg (by simp)] at hca
              rw [hca] at hB
              refine VW.run good [] ?_; simp (implicitDefEqProofs := false) [enc_list, hk, hk', hin, w1]
              exact ⟨_, _, (hI _ _ _).2 ⟨v, [], rfl, rfl, .inl ⟨by rw [hB]; exact hv, rfl⟩⟩, ⟨1, [], by simp [enc_list,  hB, hvu, hvl], by simp, by simp, by simp (implicitDefEqProofs := false) [enc_list,  hB, hvu, hvl], by simp (implicitDefEqProofs := false) [enc_list,  hB, hvu, hvl]⟩⟩
            · cases hfb : fitsB x t p
              · rw [hfb] at hfi hca
                rw [hbit, Bool.true_and, if_neg (by simp)] at hca
                rw [hca] at hB
                rw [hbit] at hin
                refine VW.run good [] ?_; simp (implicitDefEqProofs := false) [enc_list, hk, hk', hin, hfi, w1]
                exact ⟨_, _, (hI _ _ _).2 ⟨v, [], rfl, rfl, .inl ⟨by rw [hB]; exact hv, rfl⟩⟩, ⟨1, [], by simp [enc_list,  hB, hvu, hvl], by simp, by simp, by simp (implicitDefEqProofs := false) [enc_list,  hB, hvu, hvl], by simp (implicitDefEqProofs := false) [enc_list,  hB, hvu, hvl]⟩⟩
              · rw [hbit, hfb, Bool.true_and, if_pos rfl] at hca
                rw [hfb] at hfi hle
                have hle := hle rfl
                rw [hbit] at hin
                obtain ⟨q, hq⟩ : ∃ q, p + x.Words.length = q := ⟨_, rfl⟩
                rw [hq] at hca hle
                have w2 : IntKind.i64.wrap ((p : Int) + x.Words.length) = (q : Int) := by rw [wrap64 (by omega) (by omega)]; omega
                have hrec : fewGr r b s t (q : Int) = some ((cand k).getD [], (cand k).isSome) := by
                  unfold fewGr
                  rw [if_pos ⟨ho, hs0, hs1, ht, by omega, by omega, by omega⟩, Int.toNat_natCast, hca]
                have hsl : ∀ L, cand k = some L → L.length ≤ 8 := fun L hL => say_len o ht hle (hca ▸ hL)
                generalize hy : cand k = y at *
                cases y with
                | none =>
                  refine VW.run good [] ?_; simp (implicitDefEqProofs := false) [enc_list, hk, hk', hg, hin, hfi, w1, w2, hrec]
                  exact ⟨_, _, (hI _ _ _).2 ⟨v, [], rfl, rfl, .inl ⟨by rw [hB]; exact hv, rfl⟩⟩, ⟨1, [], by simp [enc_list,  hB, hvu, hvl], by simp, by simp, by simp (implicitDefEqProofs := false) [enc_list,  hB, hvu, hvl], by simp (implicitDefEqProofs := false) [enc_list,  hB, hvu, hvl]⟩⟩
                | some L =>
                  have hL8 := hsl L rfl
                  have w3 : IntKind.i64.wrap ((L.length : Int) + 1) = L.length + 1 := wrap64 (by omega) (by omega)
                  cases z with
                  | none =>
                    cases hv
                    cases L with
                    | nil =>
                      refine VW.run good [] ?_; simp (implicitDefEqProofs := false) [enc_list, hk, hk', hg, hin, hfi, w1, w2, w3, hrec, app_nil1, spliceV]
                      exact ⟨_, _, (hI _ _ _).2 ⟨_, [], rfl, rfl, .inl ⟨by rw [hB]; exact bestV_some true (W := [(k : Int)]) (by simp), rfl⟩⟩, ⟨1, [], by simp [enc_list,  hB, encL, El.cells], by simp, by simp, by simp (implicitDefEqProofs := false) [enc_list,  hB, encL, El.cells], by simp (implicitDefEqProofs := false) [enc_list,  hB, encL, El.cells]⟩⟩
                    | cons L0 L =>
                      have w4 : IntKind.i64.wrap ((L.length : Int) + 1 + 1) = L.length + 1 + 1 := by simpa using w3
                      have ha := app_front [bcl b] (k : Int) false (L0 :: L) (by simp) hL8 (L.length + 1) rfl
                      simp only [List.length_cons, List.length_singleton] at ha
                      refine VW.run good [] ?_; simp (implicitDefEqProofs := false) [enc_list, hk, hk', hg, hin, hfi, w1, w2, w3, hrec, ha, spliceV]
                      exact ⟨_, _, (hI _ _ _).2 ⟨_, _, rfl, rfl, .inr ⟨_, by simp, hB, rfl, rfl⟩⟩, ⟨2, [], by simp [enc_list,  hB], by simp, by simp, by simp (implicitDefEqProofs := false) [enc_list,  hB], by simp (implicitDefEqProofs := false) [enc_list,  hB]⟩⟩
                  | some W =>
                    cases W with
                    | nil => exact hv.elim
                    | cons W0 W =>
                      obtain ⟨ex, rfl⟩ := hv
                      have hW9 := hbl' _ rfl
                      by_cases hlt : L.length + 1 < (W0 :: W).length
                      · simp only [if_pos hlt] at hB
                        have hlt' : (L.length : Int) + 1 < (W.length : Int) + 1 := by simp at hlt; omega
                        cases L with
                        | nil =>
                          have w4 : IntKind.i64.wrap 1 = 1 := by decide
                          have hlt4 : (1 : Int) < (W.length : Int) + 1 := by simp at hlt'; omega
                          refine VW.run good [] ?_; simp (implicitDefEqProofs := false) [enc_list, hk, hk', hg, hin, hfi, w1, w2, w4, hrec, hlt4, app_nil1, spliceV]
                          exact ⟨_, _, (hI _ _ _).2 ⟨_, [], rfl, rfl, .inl ⟨by rw [hB]; exact bestV_some true (W := [(k : Int)]) (by simp), rfl⟩⟩, ⟨1, [], by simp [enc_list,  hB, encL, El.cells], by simp, by simp, by simp (implicitDefEqProofs := false) [enc_list,  hB, encL, El.cells], by simp (implicitDefEqProofs := false) [enc_list,  hB, encL, El.cells]⟩⟩
                        | cons L0 L =>
                          have w4 : IntKind.i64.wrap ((L.length : Int) + 1 + 1) = L.length + 1 + 1 := by simpa using w3
                          have hlt4 : (L.length : Int) + 1 + 1 < (W.length : Int) + 1 := by simp at hlt'; omega
                          have ha := app_front [bcl b] (k : Int) false (L0 :: L) (by simp) hL8 (L.length + 1) rfl
                          simp only [List.length_cons, List.length_singleton] at ha
                          refine VW.run good [] ?_; simp (implicitDefEqProofs := false) [enc_list, hk, hk', hg, hin, hfi, w1, w2, w4, hrec, hlt4, ha, spliceV]
                          exact ⟨_, _, (hI _ _ _).2 ⟨_, _, rfl, rfl, .inr ⟨_, by simp, hB, rfl, rfl⟩⟩, ⟨2, [], by simp [enc_list,  hB], by simp, by simp, by simp (implicitDefEqProofs := false) [enc_list,  hB], by simp (implicitDefEqProofs := false) [enc_list,  hB]⟩⟩
                      · simp only [if_neg hlt] at hB
                        have hlt' : ¬ (L.length : Int) + 1 < (W.length : Int) + 1 := by simp at hlt; omega
                        refine VW.run good [] ?_; simp (implicitDefEqProofs := false) [enc_list, hk, hk', hg, hin, hfi, w1, w2, w3, hrec, hlt']
                        exact ⟨_, _, (hI _ _ _).2 ⟨_, [], rfl, rfl, .inl ⟨by rw [hB]; exact ⟨ex, rfl⟩, rfl⟩⟩, ⟨1, [], by simp [enc_list,  hB], by simp, by simp, by simp (implicitDefEqProofs := false) [enc_list,  hB], by simp (implicitDefEqProofs := false) [enc_list,  hB]⟩⟩
          · intro f m hi
            obtain ⟨v, M, rfl, rfl, hv⟩ := (hI _ _ _).1 hi
            rw [← hst'] at hv ⊢
            refine few_pre hv ?_
            intro v hv
            have hvu := hv.und 0
            have hvl : v.le v := Go.RS.le_refl v
            refine VW.run good [] ?_; simp (implicitDefEqProofs := false) [enc_list]
            exact ⟨_, hv, ⟨0, [], by simp [enc_list,  hvu, hvl], by simp, by simp, by simp (implicitDefEqProofs := false) [enc_list,  hvu, hvl], by simp (implicitDefEqProofs := false) [enc_list,  hvu, hvl]⟩⟩
        · simp (implicitDefEqProofs := false) [enc_list, AExit.leave]
          refine .ofCut hc (VW.run good [] ?_)
          rcases R with _ | (_ | ⟨R0, R⟩)
          · cases hp
            simp (implicitDefEqProofs := false) [enc_list]
          · exact hp.elim
          · obtain ⟨ex, rfl⟩ := hp
            simp (implicitDefEqProofs := false) [enc_list]
    · cases hr
def fewG (b : Book) (s : Int) (t : List Int) (p : Int) : Option (List Int × Bool) :=
  if okB b = true ∧ 0 ≤ s ∧ s < 1048576 ∧ t.length ≤ 8 ∧ 0 ≤ p ∧ p ≤ t.length then some ((sayF b (selS s) t p.toNat).getD [], (sayF b (selS s) t p.toNat).isSome) else none
theorem r_fewest (hE : E.env.fn = G) : Ok E 61 (s4 fewG) := by
  refine ok4 fun b s t p x hr => ?_
  unfold fewG at hr
  split at hr
  · rename_i hc
    have h9 := r_few hE 9
    cases hr
    refine h9 _ _ ?_
    have e : fewGr 9 b s t p = some ((sayF b (selS s) t p.toNat).getD [], (sayF b (selS s) t p.toNat).isSome) := by
      unfold fewGr
      obtain ⟨c1, c2, c3, c4, c5, c6⟩ := hc
      rw [if_pos ⟨c1, c2, c3, c4, c5, c6, by omega⟩]
    simp only [s4, Enc.dec_enc, Option.bind_some, e, Option.map_some]
  · cases hr
theorem shl_facts {n : Nat} (h : n ≤ 10) : ∃ Z : Nat, 2 ^ n = Z ∧ (2 : Int) ^ n = (Z : Int) ∧ min n IntKind.i64.bits = n ∧ ((n : Int) < 0) = False ∧ 1 ≤ Z ∧ Z ≤ 1024 ∧ IntKind.i64.wrap (Z : Int) = Z ∧ IntKind.i64.wrap ((Z : Int) - 1) = Z - 1 := by
  have h1 : 1 ≤ 2 ^ n := Nat.one_le_two_pow
  have h2 : 2 ^ n ≤ 2 ^ 10 := Nat.pow_le_pow_right (by decide) h
  refine ⟨2 ^ n, rfl, by norm_cast, ?_, eq_false (by omega), h1, h2, wrap64 (by omega) (by omega), wrap64 (by omega) (by omega)⟩
  have : IntKind.i64.bits = 64 := rfl
  omega
theorem sel_full {n Z i : Nat} (hZ : 2 ^ n = Z) (h1 : 1 ≤ Z) (hi : i < n) : selS ((Z : Int) - 1) i = true := by
  unfold selS
  rw [show ((Z : Int) - 1).toNat = 2 ^ n - 1 by omega, Nat.testBit_two_pow_sub_one]
  simpa using hi
theorem r_Fewest (hE : E.env.fn = G) : Ok E 20 (s2 fun b t => some (FewestVR b t)) := by
  refine ok2 fun b t r hr => ?_
  cases hr
  have good := goodV_cons (r_Check hE) (goodV_cons (r_words hE) (goodV_cons (r_fewest hE) goodV_nil))
  cases ho : okB b
  · have hck : checkB b = 50 := by unfold checkB; rw [ho]; rfl
    have hF : FewestVR b t = ([], 50) := by unfold FewestVR; simp [ho]
    rw [hF]
    refine VP.run (A := F20) (good) [] (by rw [hE]; rfl) (by simp [F20]) ?_; unfold F20; simp (implicitDefEqProofs := false) [enc_list, hck]
  · have hck : checkB b = 0 := by unfold checkB; rw [ho]; rfl
    cases hw : wordsOk t 8
    · have hF : FewestVR b t = ([], 51) := by unfold FewestVR; simp [ho, hw]
      rw [hF]
      refine VP.run (A := F20) (good) [] (by rw [hE]; rfl) (by simp [F20]) ?_; unfold F20; simp (implicitDefEqProofs := false) [enc_list, hck, hw]
    · have o := okB_ok ho
      have p2 := o.p2
      have p1 := o.p1
      have tw : 1 ≤ t.length ∧ t.length ≤ 8 := by
        simp only [wordsOk, Bool.and_eq_true, wi_iff] at hw
        omega
      obtain ⟨n, hn⟩ : ∃ n, b.Pieces.length = n := ⟨_, rfl⟩
      rw [hn] at p1 p2
      obtain ⟨Z, hZ, hZi, hmin, hn0, z1, z2, w1, w2⟩ := shl_facts p2
      have hcong : sayF b (selS ((Z : Int) - 1)) t 0 = sayF b (fun _ => true) t 0 := sayF_congr (fun i hi => by
        rw [hn] at hi
        exact sel_full hZ z1 hi) t 0
      have hw2 : wordsOk t 8 = true := hw
      have hfew : fewG b ((Z : Int) - 1) t 0 = some ((sayF b (fun _ => true) t 0).getD [], (sayF b (fun _ => true) t 0).isSome) := by
        unfold fewG
        rw [if_pos ⟨ho, by omega, by omega, tw.2, by omega, by omega⟩, show (0 : Int).toNat = 0 from rfl, hcong]
      obtain ⟨R, hR⟩ : ∃ R, sayF b (fun _ => true) t 0 = R := ⟨_, rfl⟩
      rw [hR] at hfew
      cases R with
      | none =>
        have hF : FewestVR b t = ([], 4) := by unfold FewestVR; rw [if_pos ho, if_pos hw, hR]
        rw [hF]
        refine VP.run (A := F20) (good) [] (by rw [hE]; rfl) (by simp [F20]) ?_; unfold F20; simp (implicitDefEqProofs := false) [enc_list, hck, hw2, hn, hn0, hmin, hZi, w1, w2, hfew]
      | some l =>
        have hF : FewestVR b t = (l, 0) := by unfold FewestVR; rw [if_pos ho, if_pos hw, hR]
        rw [hF]
        refine VP.run (A := F20) (good) [] (by rw [hE]; rfl) (by simp [F20]) ?_; unfold F20; simp (implicitDefEqProofs := false) [enc_list, hck, hw2, hn, hn0, hmin, hZi, w1, w2, hfew]
end Go.RS.DC

/- Walks: the reference 05 (3): the pieces that are needed. -/
namespace Go.RS.DC
open Go Go.RS
open Go.RS.Enc (enc dec)
variable {E : VEnv}
def saysG (b : Book) (s : Int) (texts : List (List Int)) : Option Bool :=
  if okB b = true ∧ 0 ≤ s ∧ s < 1048576 ∧ textsOk texts = true then some (saysS b texts s.toNat) else none
theorem r_says (hE : E.env.fn = G) : Ok E 68 (s3 saysG) := by
  refine ok3 fun b s l r hr => ?_
  unfold saysG at hr
  split at hr
  · rename_i hc
    cases hr
    obtain ⟨ho, hs0, hs1, ht⟩ := hc
    have good := goodV_cons (r_fewest hE) goodV_nil
    have ht' := ht
    simp only [textsOk, Bool.and_eq_true, wi_iff, List.all_eq_true] at ht'
    obtain ⟨⟨t0, t1⟩, t2⟩ := ht'
    have t8 : ∀ t ∈ l, t.length ≤ 8 := fun t h => by
      have := t2 t h
      simp only [wordsOk, Bool.and_eq_true, wi_iff] at this
      omega
    obtain ⟨T, hT⟩ : ∃ T, saysS b l s.toNat = T := ⟨_, rfl⟩
    rw [hT]
    unfold saysS at hT
    refine VP.run (A := F68) (good) [] (by rw [hE]; rfl) (by simp [F68]) ?_; unfold F68; simp (implicitDefEqProofs := false) [enc_list]
    refine VW.loop_to 0 [] [] (T = true) ?_ (fun hp f m hc => ?_)
    · obtain ⟨Inv, hI⟩ : ∃ Inv : Nat → List (Nat × PV) → VM → Prop, ∀ k f m, Inv k f m ↔ (f = [(1, .int .i64 s), (2, enc l), (3, .ptr 0 6 0), (7, .int .i64 k)] ∧ m = [bcl b] ∧ T = (l.drop k).all fun t => (sayF b (selS s) t 0).isSome) := ⟨_, fun _ _ _ => Iff.rfl⟩
      refine VW.loop_cut Inv l.length ?_ ?_ ?_
      · exact ⟨_, _, (hI _ _ _).2 ⟨rfl, rfl, hT.symm⟩, ⟨1, [], by simp [enc_list], by simp, by simp, by simp (implicitDefEqProofs := false) [enc_list], by simp (implicitDefEqProofs := false) [enc_list]⟩⟩
      · intro k f m hk hi
        obtain ⟨rfl, rfl, hs⟩ := (hI _ _ _).1 hi
        have w1 : IntKind.i64.wrap ((k : Int) + 1) = k + 1 := wrap64 (by omega) (by omega)
        have hk' : (k : Int) < l.length := by omega
        have hg := get_List l k hk
        have h8 := t8 _ (List.getElem_mem hk)
        rw [List.drop_eq_getElem_cons hk, List.all_cons] at hs
        generalize l[k] = t at *
        have hfew : fewG b s t 0 = some ((sayF b (selS s) t 0).getD [], (sayF b (selS s) t 0).isSome) := by
          unfold fewG
          rw [if_pos ⟨ho, hs0, hs1, h8, by omega, by omega⟩]; rfl
        generalize sayF b (selS s) t 0 = R at *
        cases R with
        | none =>
          rw [show (none : Option (List Int)).isSome = false from rfl, Bool.false_and] at hs
          refine VW.run good [] ?_; simp (implicitDefEqProofs := false) [enc_list, hk, hk', hg, hfew, w1, hs]
        | some x =>
          rw [show (some x).isSome = true from rfl, Bool.true_and] at hs
          refine VW.run good [] ?_; simp (implicitDefEqProofs := false) [enc_list, hk, hk', hg, hfew, w1]
          exact ⟨_, _, (hI _ _ _).2 ⟨rfl, rfl, hs⟩, ⟨1, [], by simp [enc_list], by simp, by simp, by simp (implicitDefEqProofs := false) [enc_list], by simp (implicitDefEqProofs := false) [enc_list]⟩⟩
      · intro f m hi
        obtain ⟨rfl, rfl, hs⟩ := (hI _ _ _).1 hi
        rw [List.drop_length, List.all_nil] at hs
        refine VW.run good [] ?_; simp (implicitDefEqProofs := false) [enc_list]
        exact ⟨hs, ⟨0, [], by simp [enc_list], by simp, by simp, by simp (implicitDefEqProofs := false) [enc_list], by simp (implicitDefEqProofs := false) [enc_list]⟩⟩
    · simp (implicitDefEqProofs := false); refine .ofCut hc (VW.run good [] ?_); simp (implicitDefEqProofs := false) [enc_list, hp]
  · cases hr
set_option maxHeartbeats 1600000 in
set_option maxRecDepth 20000 in
theorem r_Needed (hE : E.env.fn = G) : Ok E 22 (s2 fun b texts => some (NeededR b texts)) := by
  refine ok2 fun b l r hr => ?_
  cases hr
  refine VP.bound fun hb => ?_
  simp [enc_list] at hb
  rw [← needed_same]
  have good := goodV_cons (r_Check hE) (goodV_cons (r_words hE) (goodV_cons (w_Lies hE) (goodV_cons (r_says hE) (goodV_cons (v_List hE) (goodV_cons (w_Ahead hE) goodV_nil)))))
  cases ho : okB b
  · have hck : checkB b = 50 := by unfold checkB; rw [ho]; rfl
    have hF : NeededRR b l = ([], 50) := by unfold NeededRR; simp [ho]
    rw [hF]
    refine VP.run (A := F22) (good) [] (by rw [hE]; rfl) (by simp [F22]) ?_; unfold F22; simp (implicitDefEqProofs := false) [enc_list, hck]
  · have hck : checkB b = 0 := by unfold checkB; rw [ho]; rfl
    have o := okB_ok ho
    have p2 := o.p2
    have p1 := o.p1
    obtain ⟨R, hR⟩ : ∃ R, NeededRR b l = R := ⟨_, rfl⟩
    rw [hR]
    unfold NeededRR at hR
    rw [if_pos ho] at hR
    refine VP.func (A := F22) (by rw [hE]; rfl) (by simp [F22]) ?_; unfold F22
    refine VW.seq (VW.run good [] ?_); simp (implicitDefEqProofs := false) [enc_list]
    refine VW.seq (VW.run good [] ?_); simp (implicitDefEqProofs := false) [enc_list, hck]
    refine VW.seq (VW.run good [] ?_); simp (implicitDefEqProofs := false) [enc_list]
    refine VW.seq (VW.run good [] ?_); simp (implicitDefEqProofs := false) [enc_list]
    obtain ⟨T, hT⟩ : ∃ T, textsOk l = T := ⟨_, rfl⟩
    rw [hT] at hR
    have hTT : (wi l.length 1 6 && l.all fun t => wordsOk t 8) = T := hT
    refine VW.loop_to 0 [(1, enc l), (2, .ptr 0 6 0), (7, .bool T)] [bcl b] (True) ?_ (fun hp f m hc => ?_)
    · obtain ⟨Inv, hI⟩ : ∃ Inv : Nat → List (Nat × PV) → VM → Prop, ∀ k f m, Inv k f m ↔ (f = [(1, enc l), (2, .ptr 0 6 0), (7, .bool (wi l.length 1 6 && (l.take k).all fun t => wordsOk t 8)), (8, .int .i64 k)] ∧ m = [bcl b]) := ⟨_, fun _ _ _ => Iff.rfl⟩
      refine VW.loop_cut Inv l.length ?_ ?_ ?_
      · exact ⟨_, _, (hI _ _ _).2 ⟨rfl, rfl⟩, ⟨1, [], by simp [enc_list], by simp, by simp, by simp (implicitDefEqProofs := false) [enc_list], by simp (implicitDefEqProofs := false) [enc_list]⟩⟩
      · intro k f m hk hi
        obtain ⟨rfl, rfl⟩ := (hI _ _ _).1 hi
        have w1 : IntKind.i64.wrap ((k : Int) + 1) = k + 1 := wrap64 (by omega) (by omega)
        have hk' : (k : Int) < l.length := by omega
        have hst := all_take1 (fun t => wordsOk t 8) l k hk
        have hg := get_List l k hk
        have hall := all_take (fun t => wordsOk t 8) l k
        generalize l[k] = x at *
        cases hc : (wi l.length 1 6 && (l.take k).all fun t => wordsOk t 8)
        · have hTf : T = false := by
            rw [← hTT]
            cases h1 : wi l.length 1 6
            · rfl
            · rw [h1, Bool.true_and] at hc
              cases h2 : l.all fun t => wordsOk t 8
              · rfl
              · rw [hall h2] at hc; cases hc
          subst hTf
          refine VW.run good [] ?_; simp (implicitDefEqProofs := false) [enc_list, hk, hk', hg, w1]
          exact ⟨1, [], by simp [enc_list], by simp, by simp, by simp (implicitDefEqProofs := false) [enc_list], by simp (implicitDefEqProofs := false) [enc_list]⟩
        · have hc' := hc
          simp only [Bool.and_eq_true] at hc'
          rw [hc'.2, Bool.true_and] at hst
          cases hx : wordsOk x 8
          · rw [hx] at hst
            refine VW.run good [] ?_; simp (implicitDefEqProofs := false) [enc_list, hk, hk', hg, w1, hx]
            exact ⟨_, _, (hI _ _ _).2 ⟨rfl, rfl⟩, ⟨1, [], by simp [enc_list,  hst, hc'.1], by simp, by simp, by simp (implicitDefEqProofs := false) [enc_list,  hst, hc'.1], by simp (implicitDefEqProofs := false) [enc_list,  hst, hc'.1]⟩⟩
          · rw [hx] at hst
            refine VW.run good [] ?_; simp (implicitDefEqProofs := false) [enc_list, hk, hk', hg, w1, hx]
            exact ⟨_, _, (hI _ _ _).2 ⟨rfl, rfl⟩, ⟨1, [], by simp [enc_list,  hst, hc'.1], by simp, by simp, by simp (implicitDefEqProofs := false) [enc_list,  hst, hc'.1], by simp (implicitDefEqProofs := false) [enc_list,  hst, hc'.1]⟩⟩
      · intro f m hi
        obtain ⟨rfl, rfl⟩ := (hI _ _ _).1 hi
        rw [List.take_length, hTT]
        cases T
        · refine VW.run good [] ?_; simp (implicitDefEqProofs := false) [enc_list]
          exact ⟨1, [], by simp [enc_list], by simp, by simp, by simp (implicitDefEqProofs := false) [enc_list], by simp (implicitDefEqProofs := false) [enc_list]⟩
        · refine VW.run good [] ?_; simp (implicitDefEqProofs := false) [enc_list]
          exact ⟨1, [], by simp [enc_list], by simp, by simp, by simp (implicitDefEqProofs := false) [enc_list], by simp (implicitDefEqProofs := false) [enc_list]⟩
    · simp (implicitDefEqProofs := false) [enc_list, AExit.leave]
      refine .ofCut hc ?_
      cases T
      · rw [if_neg (by simp)] at hR
        subst hR
        refine VW.run good [] ?_; simp (implicitDefEqProofs := false) [enc_list]
      · rw [if_pos rfl] at hR
        obtain ⟨n, hn⟩ : ∃ n, b.Pieces.length = n := ⟨_, rfl⟩
        obtain ⟨Z, hZ, hZi, hmin, hn0, z1, z2, w1, w2⟩ := shl_facts (n := n) (by omega)
        have hfull : fullL b = listF (Z - 1) n := by unfold fullL; rw [hn, hZ]
        have hss := fun s => saysS_eq b l s
        rw [hn] at hss hR p1 p2
        have hsf : saysG b ((Z : Int) - 1) l = some (saysAll b l (fullL b)) := by
          unfold saysG
          rw [if_pos ⟨ho, by omega, by omega, hT⟩, show ((Z : Int) - 1).toNat = Z - 1 by omega, hss, hfull]
        have hlf : listG ((Z : Int) - 1) (n : Int) = some (fullL b) := by
          unfold listG
          rw [if_pos ⟨by omega, by omega, by omega, by omega⟩, show ((Z : Int) - 1).toNat = Z - 1 by omega, Int.toNat_natCast, hfull]
        refine VW.seq (VW.run good [] ?_); simp (implicitDefEqProofs := false) [enc_list]
        refine VW.seq (VW.run good [] ?_); simp (implicitDefEqProofs := false) [enc_list, hn]
        cases hsa : saysAll b l (fullL b)
        · rw [hsa] at hsf
          rw [hsa, if_neg (by simp)] at hR
          subst hR
          refine VW.run good [] ?_; simp (implicitDefEqProofs := false) [enc_list, hn, hn0, hmin, hZi, w1, w2, hsf]
        · rw [hsa] at hsf
          rw [hsa, if_pos rfl] at hR
          subst hR
          generalize fullL b = full at *
          rw [hZ]
          refine VW.seq (VW.run good [] ?_); simp (implicitDefEqProofs := false) [enc_list, hn, hn0, hmin, hZi, w1, w2, hsf]
          refine VW.seq (VW.run good [] ?_); simp (implicitDefEqProofs := false) [enc_list, hn, hn0, hmin, hZi, w1, w2, hlf]
          refine VW.run good [] ?_; simp (implicitDefEqProofs := false) [enc_list]
          refine VW.loop_to 2 [(10, enc (bestS (saysAll b l) n full Z))] [] (True) ?_ (fun hp f m hc => ?_)
          · obtain ⟨Inv, hI⟩ : ∃ Inv : Nat → List (Nat × PV) → VM → Prop, ∀ k f m, Inv k f m ↔ (f = [(1, enc l), (2, .ptr 0 6 0), (9, .int .i64 n), (10, enc (bestS (saysAll b l) n full k)), (11, .int .i64 k)] ∧ m = [bcl b]) := ⟨_, fun _ _ _ => Iff.rfl⟩
            refine VW.loop_cut Inv Z ?_ ?_ ?_
            · exact ⟨_, _, (hI _ _ _).2 ⟨rfl, rfl⟩, ⟨1, [], by simp [enc_list,  bestS], by simp, by simp, by simp (implicitDefEqProofs := false) [enc_list,  bestS], by simp (implicitDefEqProofs := false) [enc_list,  bestS]⟩⟩
            · intro k f m hk hi
              obtain ⟨rfl, rfl⟩ := (hI _ _ _).1 hi
              have w3 : IntKind.i64.wrap ((k : Int) + 1) = k + 1 := wrap64 (by omega) (by omega)
              have hk' : (k : Int) < (Z : Int) := by omega
              have hs := hss k
              have hsk : saysG b (k : Int) l = some (saysAll b l (listF k n)) := by
                unfold saysG
                rw [if_pos ⟨ho, by omega, by omega, hT⟩, Int.toNat_natCast, hs]
              have hlk : listG (k : Int) (n : Int) = some (listF k n) := by
                unfold listG
                rw [if_pos ⟨by omega, by omega, by omega, by omega⟩, Int.toNat_natCast, Int.toNat_natCast]
              have hB : bestS (saysAll b l) n full (k + 1) = if ((decide ((listF k n).length < (bestS (saysAll b l) n full k).length) || (decide ((listF k n).length = (bestS (saysAll b l) n full k).length) && aheadB (listF k n) (bestS (saysAll b l) n full k))) && saysAll b l (listF k n)) = true then listF k n else bestS (saysAll b l) n full k := rfl
              generalize bestS (saysAll b l) n full k = B0 at *
              generalize listF k n = A at *
              cases hsy : saysAll b l A
              · rw [hsy] at hsk
                rw [hsy, Bool.and_false, if_neg (by simp)] at hB
                by_cases h1 : A.length < B0.length
                · have h1' : (A.length : Int) < B0.length := by omega
                  refine VW.run good [] ?_; simp (implicitDefEqProofs := false) [enc_list, hk', hZi, hmin, hn0, w1, hlk, hsk, h1, h1', w3]
                  exact ⟨_, _, (hI _ _ _).2 ⟨rfl, rfl⟩, ⟨1, [], by simp [enc_list,  hB], by simp, by simp, by simp (implicitDefEqProofs := false) [enc_list,  hB], by simp (implicitDefEqProofs := false) [enc_list,  hB]⟩⟩
                · have h1' : ¬ (A.length : Int) < B0.length := by omega
                  by_cases h2 : A.length = B0.length
                  · have h2' : ((A.length : Int) = B0.length) = True := eq_true (by omega)
                    cases h3 : aheadB A B0
                    · refine VW.run good [] ?_; simp (implicitDefEqProofs := false) [enc_list, hk', hZi, hmin, hn0, w1, hlk, hsk, h1, h1', eq_true h2, h2', h3, w3]
                      exact ⟨_, _, (hI _ _ _).2 ⟨rfl, rfl⟩, ⟨1, [], by simp [enc_list,  hB], by simp, by simp, by simp (implicitDefEqProofs := false) [enc_list,  hB], by simp (implicitDefEqProofs := false) [enc_list,  hB]⟩⟩
                    · refine VW.run good [] ?_; simp (implicitDefEqProofs := false) [enc_list, hk', hZi, hmin, hn0, w1, hlk, hsk, h1, h1', eq_true h2, h2', h3, w3]
                      exact ⟨_, _, (hI _ _ _).2 ⟨rfl, rfl⟩, ⟨1, [], by simp [enc_list,  hB], by simp, by simp, by simp (implicitDefEqProofs := false) [enc_list,  hB], by simp (implicitDefEqProofs := false) [enc_list,  hB]⟩⟩
                  · have h2' : ¬ (A.length : Int) = B0.length := by omega
                    refine VW.run good [] ?_; simp (implicitDefEqProofs := false) [enc_list, hk', hZi, hmin, hn0, w1, hlk, hsk, h1, h1', h2, h2', w3]
                    exact ⟨_, _, (hI _ _ _).2 ⟨rfl, rfl⟩, ⟨1, [], by simp [enc_list,  hB], by simp, by simp, by simp (implicitDefEqProofs := false) [enc_list,  hB], by simp (implicitDefEqProofs := false) [enc_list,  hB]⟩⟩
              · rw [hsy] at hsk
                rw [hsy, Bool.and_true] at hB
                by_cases h1 : A.length < B0.length
                · have h1' : (A.length : Int) < B0.length := by omega
                  rw [decide_eq_true h1, Bool.true_or, if_pos rfl] at hB
                  refine VW.run good [] ?_; simp (implicitDefEqProofs := false) [enc_list, hk', hZi, hmin, hn0, w1, hlk, hsk, h1, h1', w3]
                  exact ⟨_, _, (hI _ _ _).2 ⟨rfl, rfl⟩, ⟨1, [], by simp [enc_list,  hB], by simp, by simp, by simp (implicitDefEqProofs := false) [enc_list,  hB], by simp (implicitDefEqProofs := false) [enc_list,  hB]⟩⟩
                · have h1' : ¬ (A.length : Int) < B0.length := by omega
                  rw [decide_eq_false h1, Bool.false_or] at hB
                  by_cases h2 : A.length = B0.length
                  · have h2' : ((A.length : Int) = B0.length) = True := eq_true (by omega)
                    rw [decide_eq_true h2, Bool.true_and] at hB
                    cases h3 : aheadB A B0
                    · rw [h3, if_neg (by simp)] at hB
                      refine VW.run good [] ?_; simp (implicitDefEqProofs := false) [enc_list, hk', hZi, hmin, hn0, w1, hlk, hsk, h1, h1', eq_true h2, h2', h3, w3]
                      exact ⟨_, _, (hI _ _ _).2 ⟨rfl, rfl⟩, ⟨1, [], by simp [enc_list,  hB], by simp, by simp, by simp (implicitDefEqProofs := false) [enc_list,  hB], by simp (implicitDefEqProofs := false) [enc_list,  hB]⟩⟩
                    · rw [h3, if_pos rfl] at hB
                      refine VW.run good [] ?_; simp (implicitDefEqProofs := false) [enc_list, hk', hZi, hmin, hn0, w1, hlk, hsk, h1, h1', eq_true h2, h2', h3, w3]
                      exact ⟨_, _, (hI _ _ _).2 ⟨rfl, rfl⟩, ⟨1, [], by simp [enc_list,  hB], by simp, by simp, by simp (implicitDefEqProofs := false) [enc_list,  hB], by simp (implicitDefEqProofs := false) [enc_list,  hB]⟩⟩
                  · have h2' : ¬ (A.length : Int) = B0.length := by omega
                    rw [decide_eq_false h2, Bool.false_and, if_neg (by simp)] at hB
                    refine VW.run good [] ?_; simp (implicitDefEqProofs := false) [enc_list, hk', hZi, hmin, hn0, w1, hlk, hsk, h1, h1', h2, h2', w3]
                    exact ⟨_, _, (hI _ _ _).2 ⟨rfl, rfl⟩, ⟨1, [], by simp [enc_list,  hB], by simp, by simp, by simp (implicitDefEqProofs := false) [enc_list,  hB], by simp (implicitDefEqProofs := false) [enc_list,  hB]⟩⟩
            · intro f m hi
              obtain ⟨rfl, rfl⟩ := (hI _ _ _).1 hi
              refine VW.run good [] ?_; simp (implicitDefEqProofs := false) [enc_list, hZi, hmin, hn0, w1]
              exact ⟨0, [], by simp [enc_list], by simp, by simp, by simp (implicitDefEqProofs := false) [enc_list], by simp (implicitDefEqProofs := false) [enc_list]⟩
          · simp (implicitDefEqProofs := false); refine .ofCut hc (VW.run good [] ?_); simp (implicitDefEqProofs := false) [enc_list]
end Go.RS.DC

