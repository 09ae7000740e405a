/- Walks: the law DialTowns. -/
import Derived.Test.YtenmjloiadkgjaaDoorDla
set_option linter.all false
namespace Go.RS.DC
open Go Go.RS
open Go.RS.Enc (enc dec)
variable {E : VEnv}
set_option maxHeartbeats 1600000 in
set_option maxRecDepth 20000 in
theorem l_Towns (hE : E.env.fn = G) (hgl : E.gl 0 = some [f130v, f131v]) (x : TownC) (hL : x.C.Decrees.length ≤ 8796093021952) (n : Int) (r : Reading) : VP E 5 [enc x, .int .i64 n, enc r] (.bool true) := by
  have good := goodV_cons (w_LocalP hE hgl) (goodV_cons (w_LocalR hE) (goodV_cons (w_CheckTownP hE) (goodV_cons (w_CheckTownR hE) (goodV_cons (w_TicksP hE hgl) (goodV_cons (w_TicksR hE) (goodV_cons (w_Alike hE) (goodV_cons (w_works hE hgl) goodV_nil)))))))
  generalize hA : LocalR x.C x.T n = A
  obtain ⟨a1, a2⟩ := A
  generalize hB : TicksR x.C x.T r = B
  obtain ⟨b1, b2⟩ := B
  refine VP.run (A := F5) (good) [] (by rw [hE]; rfl) (by simp [F5]) ?_; unfold F5; simp (implicitDefEqProofs := false) [enc_list, limS hL, CheckFS hL, hA, hB, spliceV]
end Go.RS.DC

