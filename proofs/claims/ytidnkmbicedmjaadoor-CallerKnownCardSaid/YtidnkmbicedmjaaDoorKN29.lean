import Derived.Test.YtidnkmbicedmjaaDoorKN0
namespace Go.RS.KN
open Go Go.RS
set_option maxRecDepth 1000000
theorem p29 : pieceL k29 (runL CC.G 1 2000 (seg 14 29) fr14 h14) = some (fr29, h29) := by kernel_rfl
end Go.RS.KN
