/- Sessions: the program. -/
import Derived.Test.YtbeolnccdhjjeaaAmPost
import Derived.KernelRfl
import Derived.Test.YtbeolnccdhjjeaaRows
namespace Go.Proofs.Ytbeolnccdhjjeaa
open Go.Am
set_option maxRecDepth 100000
theorem noNumTry : noNum Try.prog := by unfold noNum; kernel_rfl
theorem mixTry : Try.prog.follows .mixedOrders = true := by kernel_rfl
theorem ok0 : KOk Try.prog (tbl []) := tbl_nil
end Go.Proofs.Ytbeolnccdhjjeaa
