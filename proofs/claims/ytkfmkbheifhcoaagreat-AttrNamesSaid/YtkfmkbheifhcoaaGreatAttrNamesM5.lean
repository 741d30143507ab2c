/- 'AttrNames': single calls of its closed run. -/
import Derived.Test.YtkfmkbheifhcoaaGreatAmMemo
import Derived.KernelRfl
import Derived.Test.YtkfmkbheifhcoaaGreatRows
namespace Go.Proofs.YtkfmkbheifhcoaaGreat
open Go.Am
set_option maxRecDepth 100000
def ent5_5 : MEnt := ⟨[.str [64, 1, 1, 0]], [], .agg [.int .i64 (0), .int .i64 (0)], []⟩
theorem run5_5 : callK (closedS Tryz.prog 300 12) 5 ent5_5.args ent5_5.H = some (ent5_5.v, ent5_5.ups) := by kernel_rfl
def ent5_13 : MEnt := ⟨[.str [64, 2, 0, 128, 14, 28, 0, 25, 70, 4, 0, 0, 0, 1, 0, 3, 17, 0, 1, 10, 255, 0, 1, 0, 5, 0, 0, 0, 0, 32, 10, 255, 0, 1]], [], .agg [.int .i64 (17), .int .i64 (34)], []⟩
theorem run5_13 : callK (closedS Tryz.prog 300 12) 5 ent5_13.args ent5_13.H = some (ent5_13.v, ent5_13.ups) := by kernel_rfl
def ent8_2 : MEnt := ⟨[.agg [.int .i64 (0), .nils, .int .u32 (1), .bool false, .int .u32 (0), .bool false, .int .u32 (0), .bool false, .int .u32 (0), .nils, .nils, .int .i64 (0), .int .u32 (0), .int .u32 (0), .int .u32 (0)]], [], .int .i64 (0), []⟩
theorem run8_2 : callK (closedS Tryz.prog 300 12) 8 ent8_2.args ent8_2.H = some (ent8_2.v, ent8_2.ups) := by kernel_rfl
def ent8_10 : MEnt := ⟨[.agg [.int .i64 (0), .nils, .int .u32 (0), .bool false, .int .u32 (0), .bool false, .int .u32 (0), .bool false, .int .u32 (0), .nils, .nils, .int .i64 (1), .int .u32 (0), .int .u32 (0), .int .u32 (0)]], [], .int .i64 (6), []⟩
theorem run8_10 : callK (closedS Tryz.prog 300 12) 8 ent8_10.args ent8_10.H = some (ent8_10.v, ent8_10.ups) := by kernel_rfl
end Go.Proofs.YtkfmkbheifhcoaaGreat
