/- 'AddrNames': single calls of its closed run. -/
import Derived.Test.YtohhhodkmnpjpaaAmMemo
import Derived.KernelRfl
import Derived.Test.YtohhhodkmnpjpaaRows
namespace Go.Proofs.Ytohhhodkmnpjpaa
open Go.Am
set_option maxRecDepth 100000
def ent21_0 : MEnt := ⟨[.str [49, 48, 46, 48, 46, 48, 46, 48, 49]], [], .tup [.int .u32 (0), .int .i64 (19)], []⟩
theorem run21_0 : callK (closedS Try.prog 300 12) 21 ent21_0.args ent21_0.H = some (ent21_0.v, ent21_0.ups) := by kernel_rfl
def ent22_1 : MEnt := ⟨[.str [48, 46, 48, 46, 48, 46, 48, 47, 48]], [], .tup [.agg [.int .u32 (0), .int .i64 (0)], .int .i64 (0)], []⟩
theorem run22_1 : callK (closedS Try.prog 300 12) 22 ent22_1.args ent22_1.H = some (ent22_1.v, ent22_1.ups) := by kernel_rfl
def ent25_0 : MEnt := ⟨[.agg [.int .u8 (3), .int .u8 (0), .int .u8 (0), .int .u8 (0), .int .u8 (0), .int .u8 (0), .int .u8 (0), .int .u8 (0), .int .u8 (0), .int .u8 (5)]], [], .str [48, 51, 58, 48, 48, 58, 48, 48, 58, 48, 48, 58, 48, 48, 58, 48, 48, 58, 48, 48, 58, 48, 48, 58, 48, 48, 58, 48, 53], []⟩
theorem run25_0 : callK (closedS Try.prog 300 12) 25 ent25_0.args ent25_0.H = some (ent25_0.v, ent25_0.ups) := by kernel_rfl
end Go.Proofs.Ytohhhodkmnpjpaa
