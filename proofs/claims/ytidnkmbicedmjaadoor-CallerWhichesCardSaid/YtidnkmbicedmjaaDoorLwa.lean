/- Walks: the laws (0). -/
import Derived.Test.YtidnkmbicedmjaaDoorWkc
import Derived.Test.YtidnkmbicedmjaaDoorWkd
set_option linter.all false
namespace Go.RS.CC
open Go Go.RS
open Go.RS.Enc (enc dec)
variable {E : VEnv}
/-- The look at the examples is a call whose answer is known. -/
def WorksOk (E : VEnv) : Prop := VP E 24 [] (.bool true)
def worksS (args : List PV) : Option PV := if args.isEmpty then some (.bool true) else none
@[simp] theorem worksS_nil : worksS [] = some (.bool true) := rfl
theorem w_works (hW : WorksOk E) : Ok E 24 worksS := by
  intro args r hr
  unfold worksS at hr
  split at hr
  · rename_i h
    rw [List.isEmpty_iff] at h
    subst h
    cases hr
    exact hW
  · cases hr
end Go.RS.CC

/- Walks: the laws (4). -/
namespace Go.RS.CC
open Go Go.RS
open Go.RS.Enc (enc dec)
variable {E : VEnv}
theorem l_Whiches (hE : E.env.fn = G) (hW : WorksOk E) (b : Book) (n0 n1 n2 : Int) : VP E 6 [enc b, .agg [.int .i64 n0, .int .i64 n1, .int .i64 n2]] (.bool true) := by
  have good := goodV_cons (w_WhichP hE) (goodV_cons (w_WhichR hE) (goodV_cons (w_Alike hE) (goodV_cons (w_works hW) goodV_nil)))
  refine VP.run (A := F6) (good) [] (by rw [hE]; rfl) (by simp [F6]) ?_; unfold F6; simp (implicitDefEqProofs := false) [enc_list]
  generalize hP : WhichR b n0 n1 n2 = P
  obtain ⟨P1, P2⟩ := P
  simp (implicitDefEqProofs := false) [enc_list, hP]
end Go.RS.CC

