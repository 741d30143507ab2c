/- 'AddrNames': single calls of its closed run. -/
import Derived.Test.YtohhhodkmnpjpaaAmMemo
import Derived.KernelRfl
import Derived.Test.YtohhhodkmnpjpaaRows
namespace Go.Proofs.Ytohhhodkmnpjpaa
open Go.Am
set_option maxRecDepth 100000
def ent21_2 : MEnt := ⟨[.str [48, 46, 48, 46, 48, 46, 48]], [], .tup [.int .u32 (0), .int .i64 (0)], []⟩
theorem run21_2 : callK (closedS Try.prog 300 12) 21 ent21_2.args ent21_2.H = some (ent21_2.v, ent21_2.ups) := by kernel_rfl
def ent23_1 : MEnt := ⟨[.int .u64 (11042563100175)], [], .tup [.str [48, 97, 58, 48, 98, 58, 48, 99, 58, 48, 100, 58, 48, 101, 58, 48, 102], .int .i64 (0)], []⟩
theorem run23_1 : callK (closedS Try.prog 300 12) 23 ent23_1.args ent23_1.H = some (ent23_1.v, ent23_1.ups) := by kernel_rfl
end Go.Proofs.Ytohhhodkmnpjpaa
