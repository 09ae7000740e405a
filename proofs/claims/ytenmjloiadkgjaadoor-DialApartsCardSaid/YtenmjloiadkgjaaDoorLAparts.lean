/- Walks: the law DialAparts. -/
import Derived.Test.YtenmjloiadkgjaaDoorDla
set_option linter.all false
namespace Go.RS.DC
open Go Go.RS
open Go.RS.Enc (enc dec)
variable {E : VEnv}
set_option maxHeartbeats 1600000 in
set_option maxRecDepth 20000 in
theorem l_Aparts (hE : E.env.fn = G) (hgl : E.gl 0 = some [f130v, f131v]) (c : Cal) (hL : c.Decrees.length ≤ 8796093021952) (n0 n1 : Int) (r0 r1 : Reading) : VP E 4 [enc c, .agg [.int .i64 n0, .int .i64 n1], .agg (El.cells r0 ++ El.cells r1)] (.bool true) := by
  have good := goodV_cons (w_ApartP hE hgl) (goodV_cons (w_ApartR hE) (goodV_cons (w_NextP hE hgl) (goodV_cons (w_NextR hE) (goodV_cons (w_works hE hgl) goodV_nil))))
  generalize hA : ApartR c r0 r1 = A
  obtain ⟨a1, a2⟩ := A
  generalize hB : NextR c n0 n1 = B
  obtain ⟨b1, b2⟩ := B
  refine VP.run (A := F4) (good) [] (by rw [hE]; rfl) (by simp [F4]) ?_; unfold F4; simp (implicitDefEqProofs := false) [enc_list, limS hL, hA, hB, spliceV]
end Go.RS.DC

