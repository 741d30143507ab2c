/- 'AttrNames': single calls of its closed run. -/
import Derived.Test.YtkfmkbheifhcoaaGreatAmMemo
import Derived.KernelRfl
import Derived.Test.YtkfmkbheifhcoaaGreatRows
namespace Go.Proofs.YtkfmkbheifhcoaaGreat
open Go.Am
set_option maxRecDepth 100000
def ent5_0 : MEnt := ⟨[.str [64, 1, 1]], [], .agg [.int .i64 (4), .int .i64 (0)], []⟩
theorem run5_0 : callK (closedS Tryz.prog 300 12) 5 ent5_0.args ent5_0.H = some (ent5_0.v, ent5_0.ups) := by kernel_rfl
def ent5_8 : MEnt := ⟨[.str [64, 2, 2, 2, 0]], [], .agg [.int .i64 (3), .int .i64 (0)], []⟩
theorem run5_8 : callK (closedS Tryz.prog 300 12) 5 ent5_8.args ent5_8.H = some (ent5_8.v, ent5_8.ups) := by kernel_rfl
def ent6_2 : MEnt := ⟨[.agg [.int .i64 (0), .nils, .int .u32 (1), .bool false, .int .u32 (0), .bool false, .int .u32 (0), .bool false, .int .u32 (0), .nils, .nils, .int .i64 (0), .int .u32 (0), .int .u32 (0), .int .u32 (0)], .sl 0 21 0 1, .nils], [(0, .cells 48 [.int .i64 (3), .int .u64 (293565309714437), .int .u8 (0), .int .u8 (0), .int .u8 (0), .int .u8 (0), .int .u8 (0), .int .u8 (0), .int .u8 (0), .int .u8 (0), .int .u8 (0), .int .u8 (0), .int .u32 (0), .int .u64 (0), .int .u32 (184483841), .bool true, .int .u32 (0), .int .i64 (0), .int .u32 (0), .int .u32 (0), .int .u32 (0)])], .tup [.qs 1 1 0 38, .int .i64 (0)], [(1, some (.seq 5 [.int .u8 (64), .int .u8 (1), .int .u8 (1), .int .u8 (0), .int .u8 (64), .int .u8 (2), .int .u8 (0), .int .u8 (128), .int .u8 (14), .int .u8 (28), .int .u8 (0), .int .u8 (25), .int .u8 (70), .int .u8 (4), .int .u8 (0), .int .u8 (0), .int .u8 (0), .int .u8 (1), .int .u8 (0), .int .u8 (3), .int .u8 (17), .int .u8 (0), .int .u8 (1), .int .u8 (10), .int .u8 (255), .int .u8 (0), .int .u8 (1), .int .u8 (0), .int .u8 (5), .int .u8 (0), .int .u8 (0), .int .u8 (0), .int .u8 (0), .int .u8 (32), .int .u8 (10), .int .u8 (255), .int .u8 (0), .int .u8 (1)]))]⟩
theorem run6_2 : callK (closedS Tryz.prog 300 12) 6 ent6_2.args ent6_2.H = some (ent6_2.v, ent6_2.ups) := by kernel_rfl
def ent8_5 : MEnt := ⟨[.agg [.int .i64 (0), .nils, .int .u32 (0), .bool false, .int .u32 (0), .bool false, .int .u32 (0), .bool false, .int .u32 (0), .sl 0 1 0 17, .nils, .int .i64 (0), .int .u32 (0), .int .u32 (0), .int .u32 (0)]], [(0, .cells 33 [.int .u32 (0), .int .u32 (0), .int .u32 (0), .int .u32 (0), .int .u32 (0), .int .u32 (0), .int .u32 (0), .int .u32 (0), .int .u32 (0), .int .u32 (0), .int .u32 (0), .int .u32 (0), .int .u32 (0), .int .u32 (0), .int .u32 (0), .int .u32 (0), .int .u32 (0)])], .int .i64 (5), []⟩
theorem run8_5 : callK (closedS Tryz.prog 300 12) 8 ent8_5.args ent8_5.H = some (ent8_5.v, ent8_5.ups) := by kernel_rfl
def ent8_13 : MEnt := ⟨[.agg [.int .i64 (0), .nils, .int .u32 (0), .bool false, .int .u32 (0), .bool false, .int .u32 (0), .bool false, .int .u32 (0), .nils, .nils, .int .i64 (6), .int .u32 (0), .int .u32 (0), .int .u32 (1)]], [], .int .i64 (3), []⟩
theorem run8_13 : callK (closedS Tryz.prog 300 12) 8 ent8_13.args ent8_13.H = some (ent8_13.v, ent8_13.ups) := by kernel_rfl
end Go.Proofs.YtkfmkbheifhcoaaGreat
