/- 'AddrNames': single calls of its closed run. -/
import Derived.Test.YtohhhodkmnpjpaaAmMemo
import Derived.KernelRfl
import Derived.Test.YtohhhodkmnpjpaaRows
namespace Go.Proofs.Ytohhhodkmnpjpaa
open Go.Am
set_option maxRecDepth 100000
def ent21_1 : MEnt := ⟨[.str [49, 48, 46, 49, 46, 50, 46, 51]], [], .tup [.int .u32 (167838211), .int .i64 (0)], []⟩
theorem run21_1 : callK (closedS Try.prog 300 12) 21 ent21_1.args ent21_1.H = some (ent21_1.v, ent21_1.ups) := by kernel_rfl
def ent23_0 : MEnt := ⟨[.int .u64 (281474976710656)], [], .tup [.str [], .int .i64 (2)], []⟩
theorem run23_0 : callK (closedS Try.prog 300 12) 23 ent23_0.args ent23_0.H = some (ent23_0.v, ent23_0.ups) := by kernel_rfl
end Go.Proofs.Ytohhhodkmnpjpaa
