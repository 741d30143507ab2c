/- 'AttrNames': single calls of its closed run. -/
import Derived.Test.YtkfmkbheifhcoaaGreatAmMemo
import Derived.KernelRfl
import Derived.Test.YtkfmkbheifhcoaaGreatRows
namespace Go.Proofs.YtkfmkbheifhcoaaGreat
open Go.Am
set_option maxRecDepth 100000
def ent5_4 : MEnt := ⟨[.str [64, 1, 1, 0, 64, 1, 1, 0]], [], .agg [.int .i64 (11), .int .i64 (4)], []⟩
theorem run5_4 : callK (closedS Tryz.prog 300 12) 5 ent5_4.args ent5_4.H = some (ent5_4.v, ent5_4.ups) := by kernel_rfl
def ent5_12 : MEnt := ⟨[.str []], [], .agg [.int .i64 (0), .int .i64 (0)], []⟩
theorem run5_12 : callK (closedS Tryz.prog 300 12) 5 ent5_12.args ent5_12.H = some (ent5_12.v, ent5_12.ups) := by kernel_rfl
def ent8_1 : MEnt := ⟨[.agg [.int .i64 (0), .nils, .int .u32 (184483841), .bool false, .int .u32 (0), .bool false, .int .u32 (0), .bool false, .int .u32 (0), .nils, .nils, .int .i64 (0), .int .u32 (0), .int .u32 (0), .int .u32 (0)]], [], .int .i64 (0), []⟩
theorem run8_1 : callK (closedS Tryz.prog 300 12) 8 ent8_1.args ent8_1.H = some (ent8_1.v, ent8_1.ups) := by kernel_rfl
def ent8_9 : MEnt := ⟨[.agg [.int .i64 (0), .nils, .int .u32 (0), .bool false, .int .u32 (0), .bool false, .int .u32 (0), .bool false, .int .u32 (1), .nils, .nils, .int .i64 (0), .int .u32 (0), .int .u32 (0), .int .u32 (0)]], [], .int .i64 (3), []⟩
theorem run8_9 : callK (closedS Tryz.prog 300 12) 8 ent8_9.args ent8_9.H = some (ent8_9.v, ent8_9.ups) := by kernel_rfl
end Go.Proofs.YtkfmkbheifhcoaaGreat
