/- Walks: the law VoiceSays. -/
import Derived.Test.YtcbkaiakncbcbaaDoorVra
import Derived.Test.YtcbkaiakncbcbaaDoorVla
set_option linter.all false
namespace Go.RS.DC
open Go Go.RS
open Go.RS.Enc (enc dec)
variable {E : VEnv}
set_option maxHeartbeats 1600000 in
set_option maxRecDepth 20000 in
theorem l_Says (hE : E.env.fn = G) (hgl : E.gl 1 = some [f130v, f131v]) (hgl2 : E.gl 0 = some vparts) (b : Book) (r : Reading) (texts : List (List Int)) : VP E 3 [enc b, enc r, enc texts] (.bool true) := by
  have good := goodV_cons (v_Words hE hgl2) (goodV_cons (r_Words hE) (goodV_cons (w_Alike hE) (goodV_cons (v_Check hE) (goodV_cons (r_Check hE) (goodV_cons (v_Fewest hE) (goodV_cons (r_Fewest hE) (goodV_cons (v_Needed hE) (goodV_cons (r_Needed hE) (goodV_cons (v_works hE hgl hgl2) goodV_nil)))))))))
  refine VP.bound fun hb => ?_
  simp [enc_list] at hb
  obtain ⟨⟨w1, w2⟩, hW⟩ : ∃ W, WordsR r = W := ⟨_, rfl⟩
  obtain ⟨⟨u1, u2⟩, hU⟩ : ∃ W, NeededR b texts = W := ⟨_, rfl⟩
  refine VP.func (A := F3) (by rw [hE]; rfl) (by simp [F3]) ?_; unfold F3
  refine VW.seq (VW.run good [] ?_); simp (implicitDefEqProofs := false) [enc_list]
  refine VW.seq (VW.run good [] ?_); simp (implicitDefEqProofs := false) [enc_list, hW]
  refine VW.seq (VW.run good [] ?_); simp (implicitDefEqProofs := false) [enc_list, hW]
  refine VW.seq (VW.run good [] ?_); simp (implicitDefEqProofs := false) [enc_list]
  refine VW.run good [] ?_; simp (implicitDefEqProofs := false) [enc_list]
  refine VW.loop_to 0 [(2, enc texts), (3, .ptr 0 6 0)] [bcl b] (True) ?_ (fun hp f m hc => ?_)
  · obtain ⟨Inv, hI⟩ : ∃ Inv : Nat → List (Nat × PV) → VM → Prop, ∀ k f m, Inv k f m ↔ (f = [(2, enc texts), (3, .ptr 0 6 0), (11, .int .i64 k)] ∧ m = [bcl b]) := ⟨_, fun _ _ _ => Iff.rfl⟩
    refine VW.loop_cut Inv (min texts.length 7) ?_ ?_ ?_
    · exact ⟨_, _, (hI _ _ _).2 ⟨rfl, rfl⟩, ⟨1, [], by simp [enc_list], by simp, by simp, by simp (implicitDefEqProofs := false) [enc_list], by simp (implicitDefEqProofs := false) [enc_list]⟩⟩
    · intro k f m hk hi
      obtain ⟨rfl, rfl⟩ := (hI _ _ _).1 hi
      have w1 : IntKind.i64.wrap ((k : Int) + 1) = k + 1 := wrap64 (by omega) (by omega)
      have hk1 : k < texts.length := by omega
      have hk' : (k : Int) < texts.length := by omega
      have hk7 : (k : Int) < 7 := by omega
      have hg := get_List texts k hk1
      generalize texts[k] = t at *
      obtain ⟨⟨u1, u2⟩, hU⟩ : ∃ W, FewestVR b t = W := ⟨_, rfl⟩
      refine VW.run good [] ?_; simp (implicitDefEqProofs := false) [enc_list, hk1, hk', hk7, hg, hU, w1]
      exact ⟨_, _, (hI _ _ _).2 ⟨rfl, rfl⟩, ⟨1, [], by simp [enc_list], by simp, by simp, by simp (implicitDefEqProofs := false) [enc_list], by simp (implicitDefEqProofs := false) [enc_list]⟩⟩
    · intro f m hi
      obtain ⟨rfl, rfl⟩ := (hI _ _ _).1 hi
      by_cases h7 : texts.length ≤ 7
      · have hm : ((min texts.length 7 : Nat) : Int) = texts.length := by omega
        rw [hm]
        refine VW.run good [] ?_; simp (implicitDefEqProofs := false) [enc_list]
        exact ⟨1, [], by simp [enc_list], by simp, by simp, by simp (implicitDefEqProofs := false) [enc_list], by simp (implicitDefEqProofs := false) [enc_list]⟩
      · have hm : ((min texts.length 7 : Nat) : Int) = 7 := by omega
        have h7' : (7 : Int) < texts.length := by omega
        rw [hm]
        refine VW.run good [] ?_; simp (implicitDefEqProofs := false) [enc_list, h7']
        exact ⟨1, [], by simp [enc_list], by simp, by simp, by simp (implicitDefEqProofs := false) [enc_list], by simp (implicitDefEqProofs := false) [enc_list]⟩
  · simp (implicitDefEqProofs := false) [enc_list, AExit.leave]
    refine .ofCut hc ?_
    refine VW.run good [] ?_; simp (implicitDefEqProofs := false) [enc_list, hU]
end Go.RS.DC

