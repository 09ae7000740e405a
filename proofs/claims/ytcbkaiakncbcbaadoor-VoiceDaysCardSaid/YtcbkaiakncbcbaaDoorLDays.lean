/- Walks: the law VoiceDays. -/
import Derived.Test.YtcbkaiakncbcbaaDoorVrb
import Derived.Test.YtcbkaiakncbcbaaDoorVla
set_option linter.all false
namespace Go.RS.DC
open Go Go.RS
open Go.RS.Enc (enc dec)
variable {E : VEnv}
set_option maxHeartbeats 1600000 in
theorem l_Days (hE : E.env.fn = G) (hgl : E.gl 1 = some [f130v, f131v]) (hgl2 : E.gl 0 = some vparts) (b : Book) (c : Cal) (hL : c.Decrees.length ≤ 8796093021952) (n0 n1 n2 : Int) : VP E 6 [enc b, enc c, .agg [.int .i64 n0, .int .i64 n1, .int .i64 n2]] (.bool true) := by
  have good := goodV_cons (v_Day hE hgl hgl2) (goodV_cons (r_Day hE) (goodV_cons (w_Alike hE) (goodV_cons (w_Rest hE) (goodV_cons (v_works hE hgl hgl2) goodV_nil))))
  have lD : ∀ x : List Int × Int, lim c x = some x := fun x => if_pos hL
  obtain ⟨⟨w1, w2⟩, hW⟩ : ∃ W, DayP b c n0 n1 n2 = W := ⟨_, rfl⟩
  have hV : DayR b c n0 n1 n2 = (w1, w2) := by rw [← day_same, hW]
  refine VP.run (A := F6) (good) [] (by rw [hE]; rfl) (by simp [F6]) ?_; unfold F6; simp (implicitDefEqProofs := false) [enc_list, lD, hW, hV]
end Go.RS.DC

