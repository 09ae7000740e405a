/- Walks: lists that come before others; a number of a span. -/
import Derived.Test.YtcbkaiakncbcbaaDoorVwc
import Derived.Test.YtcbkaiakncbcbaaDoorDxa
import Derived.Test.YtcbkaiakncbcbaaDoorVpb
set_option linter.all false
namespace Go.RS.DC
open Go Go.RS
open Go.RS.Enc (enc dec)
variable {E : VEnv}
end Go.RS.DC

/- Walks: what the laws share (1): sound books, texts that pieces say. -/
namespace Go.RS.DC
open Go Go.RS
open Go.RS.Enc (enc dec)
variable {E : VEnv}
end Go.RS.DC

/- Walks: what the laws share (2): texts that pieces say. -/
namespace Go.RS.DC
open Go Go.RS
open Go.RS.Enc (enc dec)
variable {E : VEnv}
end Go.RS.DC

/- Walks: what the laws share (3): what pieces say; whether some of them are enough. -/
namespace Go.RS.DC
open Go Go.RS
open Go.RS.Enc (enc dec)
variable {E : VEnv}
end Go.RS.DC

/- Walks: the examples of the chapter. -/
namespace Go.RS.DC
open Go Go.RS
open Go.RS.Enc (enc dec)
variable {E : VEnv}
def textC : List Int := [1, 102, 205]
def bookC : Book := ⟨[10, 16], [⟨[1], 0, 2, 5⟩, ⟨[102], 1, 4, 8⟩, ⟨[1, 102], 1, 0, 12⟩, ⟨[205], 0, 7, 6⟩, ⟨[102, 205], 1, 9, 14⟩], ⟨1, 6⟩, ⟨2, 20⟩⟩
theorem v_piece (hE : E.env.fn = G) : Ok E 79 (s4 fun (w : List Int) (d b l : Int) => some (Piece.mk w d b l)) := by
  refine ok4 fun w d b l r hr => ?_
  cases hr
  refine VP.run (A := F79) (goodV_nil) [] (by rw [hE]; rfl) (by simp [F79]) ?_; unfold F79; simp (implicitDefEqProofs := false) [enc_list, spliceV]
theorem v_text (hE : E.env.fn = G) : Ok E 47 (s0 (some textC)) := by
  refine ok0 fun r hr => ?_
  cases hr
  refine VP.run (A := F47) (goodV_nil) [] (by rw [hE]; rfl) (by simp [F47]) ?_; unfold F47; simp (implicitDefEqProofs := false) [enc_list, spliceV, textC, encL]
theorem di1 (a : Int) : (dec (PV.lst true 1 1 [.int .i64 a]) : Option (List Int)) = some [a] := rfl
theorem di2 (a b : Int) : (dec (PV.lst true 2 1 [.int .i64 a, .int .i64 b]) : Option (List Int)) = some [a, b] := rfl
theorem di3 (a b c : Int) : (dec (PV.lst true 3 1 [.int .i64 a, .int .i64 b, .int .i64 c]) : Option (List Int)) = some [a, b, c] := rfl
theorem v_book (hE : E.env.fn = G) : Ok E 46 (s0 (some bookC)) := by
  refine ok0 fun r hr => ?_
  cases hr
  refine VP.run (A := F46) ((goodV_cons (v_piece hE) (goodV_cons (w_To hE) goodV_nil))) [] (by rw [hE]; rfl) (by simp [F46]) ?_; unfold F46; simp (implicitDefEqProofs := false) [enc_list, spliceV, di1, di2, bookC, encL]
theorem ex1 : WordsR ⟨0, 1, 2, 5⟩ = (textC, 0) := by decide +kernel
theorem ex2 : FewestVR bookC textC = ([0, 4], 0) := by decide +kernel
theorem ex3 : NeededR bookC [textC, [102]] = ([0, 1, 3], 0) := by decide +kernel
theorem ex4 : IsPlanR bookC textC 0 60 [⟨2, 32⟩, ⟨3, 47⟩] = (true, 0) := by decide +kernel
theorem ex5 : (PlanPR bookC textC 0 60).1.length = 2 ∧ (PlanPR bookC textC 0 60).2 = 0 := by decide +kernel
theorem ex6 : LatestPR bookC textC 0 60 = (32, 0) := by decide +kernel
theorem ex7 : DayP bookC ⟨2, 4, 6, 1, []⟩ 36 5 1 = ([2], 0) := by decide +kernel
theorem dt2 : (dec (PV.lst true 2 1 [.lst false textC.length 1 (encL textC), .lst true 1 1 [.int .i64 102]]) : Option (List (List Int))) = some [textC, [102]] := rfl
theorem ds2 : (dec (PV.lst true 2 2 [.int .i64 2, .int .i64 32, .int .i64 3, .int .i64 47]) : Option (List Start)) = some [⟨2, 32⟩, ⟨3, 47⟩] := rfl
set_option maxRecDepth 100000 in
theorem v_works (hE : E.env.fn = G) (hgl : E.gl 1 = some [f130v, f131v]) (hgl2 : E.gl 0 = some vparts) : Ok E 23 (s0 (some true)) := by
  refine ok0 fun r hr => ?_
  cases hr
  have good := goodV_cons (v_Words hE hgl2) (goodV_cons (v_book hE) (goodV_cons (v_text hE) (goodV_cons (v_Fewest hE) (goodV_cons (v_Needed hE) (goodV_cons (v_IsPlan hE) (goodV_cons (v_Plan hE) (goodV_cons (v_Latest hE) (goodV_cons (v_Day hE hgl hgl2) (goodV_cons (w_Alike hE) goodV_nil)))))))))
  obtain ⟨e5, e6⟩ := ex5
  obtain ⟨⟨pl, pe⟩, hP⟩ : ∃ p, PlanPR bookC textC 0 60 = p := ⟨_, rfl⟩
  rw [hP] at e5 e6
  simp only at e5 e6
  refine VP.run (A := F23) (good) [] (by rw [hE]; rfl) (by simp [F23]) ?_; unfold F23; simp (implicitDefEqProofs := false) [enc_list, ex1, ex2, ex3, ex4, hP, e5, e6, ex6, ex7, dt2, ds2, di2, di3, spliceV]
end Go.RS.DC

