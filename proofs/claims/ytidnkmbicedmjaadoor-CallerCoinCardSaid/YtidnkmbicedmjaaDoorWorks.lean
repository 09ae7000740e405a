/- The examples of the chapter, run once from the base: works() is true. -/
import Derived.KernelRfl
import Derived.Test.YtidnkmbicedmjaaDoorCC
import Derived.Test.YtidnkmbicedmjaaDoorSimGc
set_option linter.all false
namespace Go.RS.WK
open Go Go.RS
def isT : Option ERes → Bool
  | some (.val (.bool b) _) => b
  | _ => false
theorem isT_some {r : Option ERes} (h : isT r = true) : ∃ h1, r = some (.val (.bool true) h1) := by
  unfold isT at h
  split at h
  · rename_i b h1; subst h; exact ⟨h1, rfl⟩
  · cases h
def h0 : EH := ⟨1, 0, .node (.cells [.func (.func 95) #[] #[], .func (.func 96) #[] #[]]) .leaf .leaf⟩
set_option maxRecDepth 1000000
theorem run : isT (evN CC.G 1 2000 (.fn (.func (.func 24) #[] #[]) [] h0)) = true := by kernel_rfl
theorem works_B {G : Env} (hG : G.fn = CC.G) : ∃ h1, B G 1 (.fn (.func (.func 24) #[] #[]) [] h0.ah) (.v (.bool true) h1) := by
  obtain ⟨h1, he⟩ := isT_some run
  rw [← hG] at he
  exact ⟨_, (ev_sound (G := G) 2000 _ _ he).1⟩
end Go.RS.WK

