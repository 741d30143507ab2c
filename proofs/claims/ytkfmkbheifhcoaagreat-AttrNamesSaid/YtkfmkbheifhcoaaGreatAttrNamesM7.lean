/- 'AttrNames': single calls of its closed run. -/
import Derived.Test.YtkfmkbheifhcoaaGreatAmMemo
import Derived.KernelRfl
import Derived.Test.YtkfmkbheifhcoaaGreatRows
namespace Go.Proofs.YtkfmkbheifhcoaaGreat
open Go.Am
set_option maxRecDepth 100000
def ent5_7 : MEnt := ⟨[.str [80, 1, 0, 1, 2]], [], .agg [.int .i64 (0), .int .i64 (0)], []⟩
theorem run5_7 : callK (closedS Tryz.prog 300 12) 5 ent5_7.args ent5_7.H = some (ent5_7.v, ent5_7.ups) := by kernel_rfl
def ent6_1 : MEnt := ⟨[.agg [.int .i64 (0), .nils, .int .u32 (184483841), .bool false, .int .u32 (0), .bool false, .int .u32 (0), .bool false, .int .u32 (0), .nils, .nils, .int .i64 (0), .int .u32 (0), .int .u32 (0), .int .u32 (0)], .sl 0 21 0 1, .nils], [(0, .cells 48 [.int .i64 (3), .int .u64 (293565309714437), .int .u8 (0), .int .u8 (0), .int .u8 (0), .int .u8 (0), .int .u8 (0), .int .u8 (0), .int .u8 (0), .int .u8 (0), .int .u8 (0), .int .u8 (0), .int .u32 (0), .int .u64 (0), .int .u32 (184483841), .bool true, .int .u32 (0), .int .i64 (0), .int .u32 (0), .int .u32 (0), .int .u32 (0)])], .tup [.qs 1 1 0 38, .int .i64 (0)], [(1, some (.seq 5 [.int .u8 (64), .int .u8 (1), .int .u8 (1), .int .u8 (0), .int .u8 (64), .int .u8 (2), .int .u8 (0), .int .u8 (128), .int .u8 (14), .int .u8 (28), .int .u8 (0), .int .u8 (25), .int .u8 (70), .int .u8 (4), .int .u8 (10), .int .u8 (255), .int .u8 (0), .int .u8 (1), .int .u8 (0), .int .u8 (3), .int .u8 (17), .int .u8 (0), .int .u8 (1), .int .u8 (10), .int .u8 (255), .int .u8 (0), .int .u8 (1), .int .u8 (0), .int .u8 (5), .int .u8 (0), .int .u8 (0), .int .u8 (0), .int .u8 (0), .int .u8 (32), .int .u8 (10), .int .u8 (255), .int .u8 (0), .int .u8 (1)]))]⟩
theorem run6_1 : callK (closedS Tryz.prog 300 12) 6 ent6_1.args ent6_1.H = some (ent6_1.v, ent6_1.ups) := by kernel_rfl
def ent8_4 : MEnt := ⟨[.agg [.int .i64 (0), .sl 0 1 0 33, .int .u32 (0), .bool false, .int .u32 (0), .bool false, .int .u32 (0), .bool false, .int .u32 (0), .nils, .nils, .int .i64 (0), .int .u32 (0), .int .u32 (0), .int .u32 (0)]], [(0, .cells 32 [.int .u32 (0), .int .u32 (0), .int .u32 (0), .int .u32 (0), .int .u32 (0), .int .u32 (0), .int .u32 (0), .int .u32 (0), .int .u32 (0), .int .u32 (0), .int .u32 (0), .int .u32 (0), .int .u32 (0), .int .u32 (0), .int .u32 (0), .int .u32 (0), .int .u32 (0), .int .u32 (0), .int .u32 (0), .int .u32 (0), .int .u32 (0), .int .u32 (0), .int .u32 (0), .int .u32 (0), .int .u32 (0), .int .u32 (0), .int .u32 (0), .int .u32 (0), .int .u32 (0), .int .u32 (0), .int .u32 (0), .int .u32 (0), .int .u32 (0)])], .int .i64 (5), []⟩
theorem run8_4 : callK (closedS Tryz.prog 300 12) 8 ent8_4.args ent8_4.H = some (ent8_4.v, ent8_4.ups) := by kernel_rfl
def ent8_12 : MEnt := ⟨[.agg [.int .i64 (0), .nils, .int .u32 (0), .bool false, .int .u32 (0), .bool false, .int .u32 (0), .bool false, .int .u32 (0), .nils, .nils, .int .i64 (0), .int .u32 (0), .int .u32 (1), .int .u32 (0)]], [], .int .i64 (3), []⟩
theorem run8_12 : callK (closedS Tryz.prog 300 12) 8 ent8_12.args ent8_12.H = some (ent8_12.v, ent8_12.ups) := by kernel_rfl
end Go.Proofs.YtkfmkbheifhcoaaGreat
