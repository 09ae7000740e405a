/- Walks: the law VoicePlans. -/
import Derived.Test.YtcbkaiakncbcbaaDoorVrb
import Derived.Test.YtcbkaiakncbcbaaDoorVla
set_option linter.all false
namespace Go.RS.DC
open Go Go.RS
open Go.RS.Enc (enc dec)
variable {E : VEnv}
set_option maxHeartbeats 1600000 in
theorem l_Plans (hE : E.env.fn = G) (hgl : E.gl 1 = some [f130v, f131v]) (hgl2 : E.gl 0 = some vparts) (b : Book) (x : Asked) (plan : List Start) : VP E 4 [enc b, enc x, enc plan] (.bool true) := by
  have good := goodV_cons (v_IsPlan hE) (goodV_cons (r_IsPlan hE) (goodV_cons (v_Plan hE) (goodV_cons (r_Pieces hE) (goodV_cons (v_works hE hgl hgl2) goodV_nil))))
  obtain ⟨text, u, p⟩ := x
  obtain ⟨⟨i1, i2⟩, hI⟩ : ∃ W, IsPlanR b text u p plan = W := ⟨_, rfl⟩
  obtain ⟨h1, h2, h3⟩ := pieces_same b text u p
  obtain ⟨⟨l, e⟩, hP⟩ : ∃ W, PlanPR b text u p = W := ⟨_, rfl⟩
  obtain ⟨⟨n, e'⟩, hR⟩ : ∃ W, PiecesR b text u p = W := ⟨_, rfl⟩
  rw [hP, hR] at h1 h2 h3
  simp only at h1 h2 h3
  subst h1
  by_cases h0 : e = 0
  · obtain ⟨g1, g2⟩ := h2 h0
    subst h0
    refine VP.run (A := F4) (good) [] (by rw [hE]; rfl) (by simp [F4]) ?_; unfold F4; simp (implicitDefEqProofs := false) [enc_list, hI, hP, hR, g1, g2]
  · have g1 := h3 h0
    subst g1
    refine VP.run (A := F4) (good) [] (by rw [hE]; rfl) (by simp [F4]) ?_; unfold F4; simp (implicitDefEqProofs := false) [enc_list, hI, hP, hR, h0]
end Go.RS.DC

