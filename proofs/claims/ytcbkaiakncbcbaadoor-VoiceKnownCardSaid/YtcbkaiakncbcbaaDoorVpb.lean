/- The chapter voice, as plain functions (8): the law of the pieces that are needed. -/
import Derived.Test.YtcbkaiakncbcbaaDoorVpa
set_option linter.all false
namespace Go.RS.DC
open Go Go.RS
open Go.RS.Enc (enc dec)
end Go.RS.DC

