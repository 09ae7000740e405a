/- Walks: the laws (0). -/
import Derived.Test.YtidnkmbicedmjaaDoorWkc
set_option linter.all false
namespace Go.RS.CC
open Go Go.RS
open Go.RS.Enc (enc dec)
variable {E : VEnv}
/-- The look at the examples is a call whose answer is known. -/
def WorksOk (E : VEnv) : Prop := VP E 24 [] (.bool true)
def worksS (args : List PV) : Option PV := if args.isEmpty then some (.bool true) else none
@[simp] theorem worksS_nil : worksS [] = some (.bool true) := rfl
theorem w_works (hW : WorksOk E) : Ok E 24 worksS := by
  intro args r hr
  unfold worksS at hr
  split at hr
  · rename_i h
    rw [List.isEmpty_iff] at h
    subst h
    cases hr
    exact hW
  · cases hr
end Go.RS.CC

