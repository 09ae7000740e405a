/- Walks: the law VoiceLatests. -/
import Derived.Test.YtcbkaiakncbcbaaDoorVrb
import Derived.Test.YtcbkaiakncbcbaaDoorVla
set_option linter.all false
namespace Go.RS.DC
open Go Go.RS
open Go.RS.Enc (enc dec)
variable {E : VEnv}
set_option maxHeartbeats 1600000 in
theorem l_Latests (hE : E.env.fn = G) (hgl : E.gl 1 = some [f130v, f131v]) (hgl2 : E.gl 0 = some vparts) (b : Book) (x : Asked) : VP E 5 [enc b, enc x] (.bool true) := by
  have good := goodV_cons (v_Latest hE) (goodV_cons (r_Latest hE) (goodV_cons (v_works hE hgl hgl2) goodV_nil))
  obtain ⟨text, u, p⟩ := x
  obtain ⟨⟨w1, w2⟩, hW⟩ : ∃ W, LatestPR b text u p = W := ⟨_, rfl⟩
  have hV : LatestVR b text u p = (w1, w2) := by rw [← latest_same, hW]
  refine VP.run (A := F5) (good) [] (by rw [hE]; rfl) (by simp [F5]) ?_; unfold F5; simp (implicitDefEqProofs := false) [enc_list, hW, hV]
end Go.RS.DC

