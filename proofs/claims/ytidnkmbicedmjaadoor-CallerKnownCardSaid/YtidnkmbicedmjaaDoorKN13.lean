import Derived.Test.YtidnkmbicedmjaaDoorKN0
namespace Go.RS.KN
open Go Go.RS
set_option maxRecDepth 1000000
theorem p13 : pieceL k13 (runL CC.G 1 2000 (seg 0 13) fr0 h0) = some (fr13, h13) := by kernel_rfl
end Go.RS.KN
