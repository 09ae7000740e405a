import Derived.Test.YtidnkmbicedmjaaDoorKN0
namespace Go.RS.KN
open Go Go.RS
set_option maxRecDepth 1000000
theorem p38 : pieceL k38 (runL CC.G 1 2000 (seg 37 38) fr37 h37) = some (fr38, h38) := by kernel_rfl
end Go.RS.KN
