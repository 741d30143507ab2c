/- 'MsgNames': single calls of its closed run. -/
import Derived.Test.YtlilnifmepklkaaGreatAmMemo
import Derived.KernelRfl
import Derived.Test.YtlilnifmepklkaaGreatRows
namespace Go.Proofs.YtlilnifmepklkaaGreat
open Go.Am
set_option maxRecDepth 100000
def ent5_5 : MEnt := ⟨[.agg [.int .i64 (0), .int .u32 (0), .int .i64 (0), .int .u32 (0), .int .i64 (0), .bool false, .int .i64 (0), .int .i64 (0), .int .i64 (0), .nils, .int .u32 (0), .bool false, .int .u32 (0), .bool false, .int .u32 (0), .bool false, .int .u32 (0), .nils, .nils, .int .i64 (0), .int .u32 (0), .int .u32 (0), .int .u32 (0), .nils, .nils]], [], .tup [.nils, .int .i64 (6)], []⟩
theorem run5_5 : callK (closedS Tryz.prog 300 12) 5 ent5_5.args ent5_5.H = some (ent5_5.v, ent5_5.ups) := by kernel_rfl
def ent6_0 : MEnt := ⟨[], [], .str [255, 255, 255, 255, 255, 255, 255, 255, 255, 255, 255, 255, 255, 255, 255, 255], []⟩
theorem run6_0 : callK (closedS Tryz.prog 300 12) 6 ent6_0.args ent6_0.H = some (ent6_0.v, ent6_0.ups) := by kernel_rfl
def ent7_7 : MEnt := ⟨[.int .u8 (2), .str [0, 0, 0]], [], .agg [.int .i64 (3), .int .i64 (0)], []⟩
theorem run7_7 : callK (closedS Tryz.prog 300 12) 7 ent7_7.args ent7_7.H = some (ent7_7.v, ent7_7.ups) := by kernel_rfl
def ent7_15 : MEnt := ⟨[.int .u8 (0), .str []], [], .agg [.int .i64 (6), .int .i64 (0)], []⟩
theorem run7_15 : callK (closedS Tryz.prog 300 12) 7 ent7_15.args ent7_15.H = some (ent7_15.v, ent7_15.ups) := by kernel_rfl
def ent8_7 : MEnt := ⟨[.qs 0 1 0 22], [(0, .seq 5 [.int .u8 (255), .int .u8 (255), .int .u8 (255), .int .u8 (255), .int .u8 (255), .int .u8 (255), .int .u8 (255), .int .u8 (255), .int .u8 (255), .int .u8 (255), .int .u8 (255), .int .u8 (255), .int .u8 (255), .int .u8 (255), .int .u8 (255), .int .u8 (255), .int .u8 (0), .int .u8 (22), .int .u8 (2), .int .u8 (0), .int .u8 (0), .int .u8 (0)])], .tup [.nils, .nils, .agg [.int .i64 (3), .int .i64 (0)]], []⟩
theorem run8_7 : callK (closedS Tryz.prog 300 12) 8 ent8_7.args ent8_7.H = some (ent8_7.v, ent8_7.ups) := by kernel_rfl
def ent8_15 : MEnt := ⟨[.qs 0 1 0 19], [(0, .seq 5 [.int .u8 (255), .int .u8 (255), .int .u8 (255), .int .u8 (255), .int .u8 (255), .int .u8 (255), .int .u8 (255), .int .u8 (255), .int .u8 (255), .int .u8 (255), .int .u8 (255), .int .u8 (255), .int .u8 (255), .int .u8 (255), .int .u8 (255), .int .u8 (255), .int .u8 (0), .int .u8 (19), .int .u8 (0)])], .tup [.nils, .nils, .agg [.int .i64 (6), .int .i64 (0)]], []⟩
theorem run8_15 : callK (closedS Tryz.prog 300 12) 8 ent8_15.args ent8_15.H = some (ent8_15.v, ent8_15.ups) := by kernel_rfl
def ent10_4 : MEnt := ⟨[.agg [.int .i64 (1), .int .u32 (0), .int .i64 (0), .int .u32 (0), .int .i64 (4096), .bool false, .int .i64 (0), .int .i64 (0), .int .i64 (0), .nils, .int .u32 (0), .bool false, .int .u32 (0), .bool false, .int .u32 (0), .bool false, .int .u32 (0), .nils, .nils, .int .i64 (0), .int .u32 (0), .int .u32 (0), .int .u32 (0), .nils, .nils]], [], .int .i64 (2), []⟩
theorem run10_4 : callK (closedS Tryz.prog 300 12) 10 ent10_4.args ent10_4.H = some (ent10_4.v, ent10_4.ups) := by kernel_rfl
end Go.Proofs.YtlilnifmepklkaaGreat
