/- 'AttrNames': single calls of its closed run. -/
import Derived.Test.YtkfmkbheifhcoaaGreatAmMemo
import Derived.KernelRfl
import Derived.Test.YtkfmkbheifhcoaaGreatRows
namespace Go.Proofs.YtkfmkbheifhcoaaGreat
open Go.Am
set_option maxRecDepth 100000
def ent5_3 : MEnt := ⟨[.str [64, 1, 1, 3]], [], .agg [.int .i64 (3), .int .i64 (0)], []⟩
theorem run5_3 : callK (closedS Tryz.prog 300 12) 5 ent5_3.args ent5_3.H = some (ent5_3.v, ent5_3.ups) := by kernel_rfl
def ent5_11 : MEnt := ⟨[.str [128, 14, 9, 0, 25, 70, 4, 1, 2, 3, 4, 0]], [], .agg [.int .i64 (3), .int .i64 (0)], []⟩
theorem run5_11 : callK (closedS Tryz.prog 300 12) 5 ent5_11.args ent5_11.H = some (ent5_11.v, ent5_11.ups) := by kernel_rfl
def ent8_0 : MEnt := ⟨[.agg [.int .i64 (0), .nils, .int .u32 (0), .bool false, .int .u32 (0), .bool false, .int .u32 (0), .bool false, .int .u32 (0), .nils, .nils, .int .i64 (0), .int .u32 (0), .int .u32 (0), .int .u32 (0)]], [], .int .i64 (0), []⟩
theorem run8_0 : callK (closedS Tryz.prog 300 12) 8 ent8_0.args ent8_0.H = some (ent8_0.v, ent8_0.ups) := by kernel_rfl
def ent8_8 : MEnt := ⟨[.agg [.int .i64 (0), .nils, .int .u32 (0), .bool false, .int .u32 (0), .bool false, .int .u32 (1), .bool false, .int .u32 (0), .nils, .nils, .int .i64 (0), .int .u32 (0), .int .u32 (0), .int .u32 (0)]], [], .int .i64 (3), []⟩
theorem run8_8 : callK (closedS Tryz.prog 300 12) 8 ent8_8.args ent8_8.H = some (ent8_8.v, ent8_8.ups) := by kernel_rfl
end Go.Proofs.YtkfmkbheifhcoaaGreat
