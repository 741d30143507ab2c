/- 'AddrNames': single calls of its closed run. -/
import Derived.Test.YtohhhodkmnpjpaaAmMemo
import Derived.KernelRfl
import Derived.Test.YtohhhodkmnpjpaaRows
namespace Go.Proofs.Ytohhhodkmnpjpaa
open Go.Am
set_option maxRecDepth 100000
def ent22_0 : MEnt := ⟨[.str [49, 48, 46, 49, 46, 50, 46, 51, 47, 49, 54]], [], .tup [.agg [.int .u32 (0), .int .i64 (0)], .int .i64 (3)], []⟩
theorem run22_0 : callK (closedS Try.prog 300 12) 22 ent22_0.args ent22_0.H = some (ent22_0.v, ent22_0.ups) := by kernel_rfl
def ent24_0 : MEnt := ⟨[.str [48, 65, 58, 48, 98, 58, 48, 67, 58, 48, 100, 58, 48, 69, 58, 48, 102]], [], .tup [.int .u64 (11042563100175), .int .i64 (0)], []⟩
theorem run24_0 : callK (closedS Try.prog 300 12) 24 ent24_0.args ent24_0.H = some (ent24_0.v, ent24_0.ups) := by kernel_rfl
end Go.Proofs.Ytohhhodkmnpjpaa
