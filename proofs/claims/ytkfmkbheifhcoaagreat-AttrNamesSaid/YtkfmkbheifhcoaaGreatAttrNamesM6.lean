/- 'AttrNames': single calls of its closed run. -/
import Derived.Test.YtkfmkbheifhcoaaGreatAmMemo
import Derived.KernelRfl
import Derived.Test.YtkfmkbheifhcoaaGreatRows
namespace Go.Proofs.YtkfmkbheifhcoaaGreat
open Go.Am
set_option maxRecDepth 100000
def ent5_6 : MEnt := ⟨[.str [128, 99, 1, 5, 144, 99, 0, 0]], [], .agg [.int .i64 (0), .int .i64 (0)], []⟩
theorem run5_6 : callK (closedS Tryz.prog 300 12) 5 ent5_6.args ent5_6.H = some (ent5_6.v, ent5_6.ups) := by kernel_rfl
def ent6_0 : MEnt := ⟨[.agg [.int .i64 (0), .nils, .int .u32 (0), .bool false, .int .u32 (0), .bool false, .int .u32 (0), .bool false, .int .u32 (0), .nils, .nils, .int .i64 (0), .int .u32 (0), .int .u32 (0), .int .u32 (0)], .nils, .nils], [], .tup [.qs 0 1 0 6, .int .i64 (0)], [(0, some (.seq 5 [.int .u8 (128), .int .u8 (15), .int .u8 (3), .int .u8 (0), .int .u8 (25), .int .u8 (70)]))]⟩
theorem run6_0 : callK (closedS Tryz.prog 300 12) 6 ent6_0.args ent6_0.H = some (ent6_0.v, ent6_0.ups) := by kernel_rfl
def ent8_3 : MEnt := ⟨[.agg [.int .i64 (3), .nils, .int .u32 (0), .bool false, .int .u32 (0), .bool false, .int .u32 (0), .bool false, .int .u32 (0), .nils, .nils, .int .i64 (0), .int .u32 (0), .int .u32 (0), .int .u32 (0)]], [], .int .i64 (2), []⟩
theorem run8_3 : callK (closedS Tryz.prog 300 12) 8 ent8_3.args ent8_3.H = some (ent8_3.v, ent8_3.ups) := by kernel_rfl
def ent8_11 : MEnt := ⟨[.agg [.int .i64 (0), .nils, .int .u32 (0), .bool false, .int .u32 (0), .bool false, .int .u32 (0), .bool false, .int .u32 (0), .nils, .nils, .int .i64 (6), .int .u32 (16777216), .int .u32 (0), .int .u32 (0)]], [], .int .i64 (2), []⟩
theorem run8_11 : callK (closedS Tryz.prog 300 12) 8 ent8_11.args ent8_11.H = some (ent8_11.v, ent8_11.ups) := by kernel_rfl
end Go.Proofs.YtkfmkbheifhcoaaGreat
