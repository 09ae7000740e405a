import Derived.Test.YtidnkmbicedmjaaDoorKN0
namespace Go.RS.KN
open Go Go.RS
set_option maxRecDepth 1000000
theorem p14 : pieceL k14 (runL CC.G 1 2000 (seg 13 14) fr13 h13) = some (fr14, h14) := by kernel_rfl
end Go.RS.KN
