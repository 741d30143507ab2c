/- 'AttrNames': single calls of its closed run. -/
import Derived.Test.YtkfmkbheifhcoaaGreatAmMemo
import Derived.KernelRfl
import Derived.Test.YtkfmkbheifhcoaaGreatRows
namespace Go.Proofs.YtkfmkbheifhcoaaGreat
open Go.Am
set_option maxRecDepth 100000
def ent5_2 : MEnt := ⟨[.str [128, 1, 1, 0]], [], .agg [.int .i64 (17), .int .i64 (0)], []⟩
theorem run5_2 : callK (closedS Tryz.prog 300 12) 5 ent5_2.args ent5_2.H = some (ent5_2.v, ent5_2.ups) := by kernel_rfl
def ent5_10 : MEnt := ⟨[.str [128, 15, 2, 0, 25]], [], .agg [.int .i64 (3), .int .i64 (0)], []⟩
theorem run5_10 : callK (closedS Tryz.prog 300 12) 5 ent5_10.args ent5_10.H = some (ent5_10.v, ent5_10.ups) := by kernel_rfl
def ent6_4 : MEnt := ⟨[.agg [.int .i64 (0), .nils, .int .u32 (0), .bool false, .int .u32 (0), .bool false, .int .u32 (0), .bool false, .int .u32 (0), .nils, .nils, .int .i64 (0), .int .u32 (0), .int .u32 (0), .int .u32 (0)], .nils, .sl 0 21 0 1], [(0, .cells 48 [.int .i64 (9), .int .u64 (0), .int .u8 (0), .int .u8 (0), .int .u8 (0), .int .u8 (0), .int .u8 (0), .int .u8 (0), .int .u8 (0), .int .u8 (0), .int .u8 (0), .int .u8 (0), .int .u32 (0), .int .u64 (0), .int .u32 (0), .bool false, .int .u32 (0), .int .i64 (0), .int .u32 (0), .int .u32 (0), .int .u32 (0)])], .tup [.nils, .int .i64 (6)], []⟩
theorem run6_4 : callK (closedS Tryz.prog 300 12) 6 ent6_4.args ent6_4.H = some (ent6_4.v, ent6_4.ups) := by kernel_rfl
def ent8_7 : MEnt := ⟨[.agg [.int .i64 (0), .nils, .int .u32 (0), .bool false, .int .u32 (1), .bool false, .int .u32 (0), .bool false, .int .u32 (0), .nils, .nils, .int .i64 (0), .int .u32 (0), .int .u32 (0), .int .u32 (0)]], [], .int .i64 (3), []⟩
theorem run8_7 : callK (closedS Tryz.prog 300 12) 8 ent8_7.args ent8_7.H = some (ent8_7.v, ent8_7.ups) := by kernel_rfl
end Go.Proofs.YtkfmkbheifhcoaaGreat
