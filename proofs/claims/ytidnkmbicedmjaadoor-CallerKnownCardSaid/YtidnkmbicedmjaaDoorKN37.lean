import Derived.Test.YtidnkmbicedmjaaDoorKN0
namespace Go.RS.KN
open Go Go.RS
set_option maxRecDepth 1000000
theorem p37 : pieceL k37 (runL CC.G 1 2000 (seg 29 37) fr29 h29) = some (fr37, h37) := by kernel_rfl
end Go.RS.KN
