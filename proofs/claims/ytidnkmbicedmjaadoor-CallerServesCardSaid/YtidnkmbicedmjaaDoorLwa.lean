/- Walks: the laws (1). -/
import Derived.Test.YtidnkmbicedmjaaDoorWkc
set_option linter.all false
namespace Go.RS.CC
open Go Go.RS
open Go.RS.Enc (enc dec)
variable {E : VEnv}
/-- The look at the examples is a call whose answer is known. -/
def WorksOk (E : VEnv) : Prop := VP E 24 [] (.bool true)
def worksS (args : List PV) : Option PV := if args.isEmpty then some (.bool true) else none
@[simp] theorem worksS_nil : worksS [] = some (.bool true) := rfl
theorem w_works (hW : WorksOk E) : Ok E 24 worksS := by
  intro args r hr
  unfold worksS at hr
  split at hr
  · rename_i h
    rw [List.isEmpty_iff] at h
    subst h
    cases hr
    exact hW
  · cases hr
theorem l_Serves (hE : E.env.fn = G) (hW : WorksOk E) (b : Book) (n0 n1 : Int) : VP E 3 [enc b, .agg [.int .i64 n0, .int .i64 n1]] (.bool true) := by
  have good := goodV_cons (w_ServeP hE) (goodV_cons (w_ServeR hE) (goodV_cons (w_SameServed hE) (goodV_cons (w_CheckP hE) (goodV_cons (w_CheckR hE) (goodV_cons (w_LostP hE) (goodV_cons (w_LostR hE) (goodV_cons (w_Alike hE) (goodV_cons (w_works hW) goodV_nil))))))))
  refine VP.run (A := F3) (good) [] (by rw [hE]; rfl) (by simp [F3]) ?_; unfold F3; simp (implicitDefEqProofs := false) [enc_list]
  generalize hR : ServeR b n0 n1 = R
  obtain ⟨S, e⟩ := R
  generalize hL : LostR b n0 n1 = L
  obtain ⟨T, f⟩ := L
  simp (implicitDefEqProofs := false) [enc_list, hR, hL]
end Go.RS.CC

