/- Inputs: books, texts, plans, calendars, readings and numbers, read from a real heap. -/
import Derived.Test.YtcbkaiakncbcbaaDoorVpa
import Derived.Test.YtcbkaiakncbcbaaDoorDpa
import Derived.Test.YtcbkaiakncbcbaaDoorDL
import Derived.Test.YtcbkaiakncbcbaaDoorPvc
import Derived.KernelRfl
set_option linter.all false
namespace Go.RS.DC
open Go Go.RS Go.Proofs Go.ChangeShapes Go.WideShapes
open Go.RS.Enc (enc dec)
section
variable {H : Type} {en : TypeId × Value → H} {W : World} {base : Nat} {held : Bool}
def any {α : Type} (_ : α) : Prop := True
end
end Go.RS.DC

