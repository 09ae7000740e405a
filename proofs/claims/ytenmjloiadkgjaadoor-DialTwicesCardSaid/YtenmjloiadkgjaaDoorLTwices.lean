/- Walks: the law DialTwices. -/
import Derived.Test.YtenmjloiadkgjaaDoorDla
set_option linter.all false
namespace Go.RS.DC
open Go Go.RS
open Go.RS.Enc (enc dec)
variable {E : VEnv}
set_option maxHeartbeats 1600000 in
set_option maxRecDepth 20000 in
theorem l_Twices (hE : E.env.fn = G) (hgl : E.gl 0 = some [f130v, f131v]) (x : TownC) (hL : x.C.Decrees.length ≤ 8796093021952) : VP E 6 [enc x] (.bool true) := by
  have good := goodV_cons (w_TwiceP hE hgl) (goodV_cons (w_TwiceR hE) (goodV_cons (w_works hE hgl) goodV_nil))
  generalize hA : TwiceR x.C x.T = A
  obtain ⟨a1, a2⟩ := A
  refine VP.run (A := F6) (good) [] (by rw [hE]; rfl) (by simp [F6]) ?_; unfold F6; simp (implicitDefEqProofs := false) [enc_list, limS hL, hA, spliceV]
end Go.RS.DC

