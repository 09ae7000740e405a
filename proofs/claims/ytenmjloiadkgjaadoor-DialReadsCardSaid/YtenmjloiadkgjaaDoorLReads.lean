/- Walks: the law DialReads. -/
import Derived.Test.YtenmjloiadkgjaaDoorDla
set_option linter.all false
namespace Go.RS.DC
open Go Go.RS
open Go.RS.Enc (enc dec)
variable {E : VEnv}
set_option maxHeartbeats 1600000 in
set_option maxRecDepth 20000 in
theorem l_Reads (hE : E.env.fn = G) (hgl : E.gl 0 = some [f130v, f131v]) (c : Cal) (hL : c.Decrees.length ≤ 8796093021952) (n0 n1 : Int) (r : Reading) : VP E 3 [enc c, .agg [.int .i64 n0, .int .i64 n1], enc r] (.bool true) := by
  have good := goodV_cons (w_LengthP hE) (goodV_cons (w_LengthR hE) (goodV_cons (w_CheckP hE) (goodV_cons (w_Check hE) (goodV_cons (w_TotalP hE) (goodV_cons (w_TotalR hE) (goodV_cons (w_ReadingP hE hgl) (goodV_cons (w_ReadingR hE) (goodV_cons (w_TickP hE hgl) (goodV_cons (w_TickR hE) (goodV_cons (w_works hE hgl) goodV_nil))))))))))
  generalize hA : LengthR c n0 = A
  obtain ⟨a1, a2⟩ := A
  generalize hB : TotalR c = B
  obtain ⟨b1, b2⟩ := B
  generalize hC : ReadingR c n1 = C
  obtain ⟨c1, c2⟩ := C
  generalize hD : TickR c r = D
  obtain ⟨d1, d2⟩ := D
  refine VP.run (A := F3) (good) [] (by rw [hE]; rfl) (by simp [F3]) ?_; unfold F3; simp (implicitDefEqProofs := false) [enc_list, limS hL, checkFS hL, hA, hB, hC, hD, spliceV]
end Go.RS.DC

