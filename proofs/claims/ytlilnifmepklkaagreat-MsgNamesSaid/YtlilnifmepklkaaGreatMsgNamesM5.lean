/- 'MsgNames': single calls of its closed run. -/
import Derived.Test.YtlilnifmepklkaaGreatAmMemo
import Derived.KernelRfl
import Derived.Test.YtlilnifmepklkaaGreatRows
namespace Go.Proofs.YtlilnifmepklkaaGreat
open Go.Am
set_option maxRecDepth 100000
def ent5_4 : MEnt := ⟨[.agg [.int .i64 (5), .int .u32 (0), .int .i64 (0), .int .u32 (0), .int .i64 (0), .bool false, .int .i64 (0), .int .i64 (0), .int .i64 (0), .nils, .int .u32 (0), .bool false, .int .u32 (0), .bool false, .int .u32 (0), .bool false, .int .u32 (0), .nils, .nils, .int .i64 (0), .int .u32 (0), .int .u32 (0), .int .u32 (0), .nils, .nils]], [], .tup [.qs 0 1 0 23, .int .i64 (0)], [(0, some (.seq 5 [.int .u8 (255), .int .u8 (255), .int .u8 (255), .int .u8 (255), .int .u8 (255), .int .u8 (255), .int .u8 (255), .int .u8 (255), .int .u8 (255), .int .u8 (255), .int .u8 (255), .int .u8 (255), .int .u8 (255), .int .u8 (255), .int .u8 (255), .int .u8 (255), .int .u8 (0), .int .u8 (23), .int .u8 (5), .int .u8 (0), .int .u8 (25), .int .u8 (0), .int .u8 (70)]))]⟩
theorem run5_4 : callK (closedS Tryz.prog 300 12) 5 ent5_4.args ent5_4.H = some (ent5_4.v, ent5_4.ups) := by kernel_rfl
def ent5_12 : MEnt := ⟨[.agg [.int .i64 (5), .int .u32 (1), .int .i64 (0), .int .u32 (0), .int .i64 (0), .bool false, .int .i64 (0), .int .i64 (0), .int .i64 (0), .nils, .int .u32 (0), .bool false, .int .u32 (0), .bool false, .int .u32 (0), .bool false, .int .u32 (0), .nils, .nils, .int .i64 (0), .int .u32 (0), .int .u32 (0), .int .u32 (0), .nils, .nils]], [], .tup [.nils, .int .i64 (3)], []⟩
theorem run5_12 : callK (closedS Tryz.prog 300 12) 5 ent5_12.args ent5_12.H = some (ent5_12.v, ent5_12.ups) := by kernel_rfl
def ent7_6 : MEnt := ⟨[.int .u8 (1), .str [4, 253, 232, 0, 90, 10, 255, 0, 1, 17, 2, 15, 1, 4, 0, 25, 0, 70, 65, 4, 0, 0, 253, 232, 64, 1, 0]], [], .agg [.int .i64 (3), .int .i64 (0)], []⟩
theorem run7_6 : callK (closedS Tryz.prog 300 12) 7 ent7_6.args ent7_6.H = some (ent7_6.v, ent7_6.ups) := by kernel_rfl
def ent7_14 : MEnt := ⟨[.int .u8 (6), .str []], [], .agg [.int .i64 (6), .int .i64 (0)], []⟩
theorem run7_14 : callK (closedS Tryz.prog 300 12) 7 ent7_14.args ent7_14.H = some (ent7_14.v, ent7_14.ups) := by kernel_rfl
def ent8_6 : MEnt := ⟨[.qs 0 1 0 46], [(0, .seq 5 [.int .u8 (255), .int .u8 (255), .int .u8 (255), .int .u8 (255), .int .u8 (255), .int .u8 (255), .int .u8 (255), .int .u8 (255), .int .u8 (255), .int .u8 (255), .int .u8 (255), .int .u8 (255), .int .u8 (255), .int .u8 (255), .int .u8 (255), .int .u8 (255), .int .u8 (0), .int .u8 (46), .int .u8 (1), .int .u8 (4), .int .u8 (253), .int .u8 (232), .int .u8 (0), .int .u8 (90), .int .u8 (10), .int .u8 (255), .int .u8 (0), .int .u8 (1), .int .u8 (17), .int .u8 (2), .int .u8 (15), .int .u8 (1), .int .u8 (4), .int .u8 (0), .int .u8 (25), .int .u8 (0), .int .u8 (70), .int .u8 (65), .int .u8 (4), .int .u8 (0), .int .u8 (0), .int .u8 (253), .int .u8 (232), .int .u8 (64), .int .u8 (1), .int .u8 (0)])], .tup [.nils, .nils, .agg [.int .i64 (3), .int .i64 (0)]], []⟩
theorem run8_6 : callK (closedS Tryz.prog 300 12) 8 ent8_6.args ent8_6.H = some (ent8_6.v, ent8_6.ups) := by kernel_rfl
def ent8_14 : MEnt := ⟨[.qs 0 1 0 19], [(0, .seq 5 [.int .u8 (255), .int .u8 (255), .int .u8 (255), .int .u8 (255), .int .u8 (255), .int .u8 (255), .int .u8 (255), .int .u8 (255), .int .u8 (255), .int .u8 (255), .int .u8 (255), .int .u8 (255), .int .u8 (255), .int .u8 (255), .int .u8 (255), .int .u8 (255), .int .u8 (0), .int .u8 (19), .int .u8 (6)])], .tup [.nils, .nils, .agg [.int .i64 (6), .int .i64 (0)]], []⟩
theorem run8_14 : callK (closedS Tryz.prog 300 12) 8 ent8_14.args ent8_14.H = some (ent8_14.v, ent8_14.ups) := by kernel_rfl
def ent10_3 : MEnt := ⟨[.agg [.int .i64 (1), .int .u32 (0), .int .i64 (2), .int .u32 (0), .int .i64 (0), .bool false, .int .i64 (0), .int .i64 (0), .int .i64 (0), .nils, .int .u32 (0), .bool false, .int .u32 (0), .bool false, .int .u32 (0), .bool false, .int .u32 (0), .nils, .nils, .int .i64 (0), .int .u32 (0), .int .u32 (0), .int .u32 (0), .nils, .nils]], [], .int .i64 (2), []⟩
theorem run10_3 : callK (closedS Tryz.prog 300 12) 10 ent10_3.args ent10_3.H = some (ent10_3.v, ent10_3.ups) := by kernel_rfl
end Go.Proofs.YtlilnifmepklkaaGreat
