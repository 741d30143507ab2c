/- 'MsgNames': single calls of its closed run. -/
import Derived.Test.YtlilnifmepklkaaGreatAmMemo
import Derived.KernelRfl
import Derived.Test.YtlilnifmepklkaaGreatRows
namespace Go.Proofs.YtlilnifmepklkaaGreat
open Go.Am
set_option maxRecDepth 100000
def ent5_6 : MEnt := ⟨[.agg [.int .i64 (6), .int .u32 (0), .int .i64 (0), .int .u32 (0), .int .i64 (0), .bool false, .int .i64 (0), .int .i64 (0), .int .i64 (0), .nils, .int .u32 (0), .bool false, .int .u32 (0), .bool false, .int .u32 (0), .bool false, .int .u32 (0), .nils, .nils, .int .i64 (0), .int .u32 (0), .int .u32 (0), .int .u32 (0), .nils, .nils]], [], .tup [.nils, .int .i64 (6)], []⟩
theorem run5_6 : callK (closedS Tryz.prog 300 12) 5 ent5_6.args ent5_6.H = some (ent5_6.v, ent5_6.ups) := by kernel_rfl
def ent7_0 : MEnt := ⟨[.int .u8 (1), .str []], [], .agg [.int .i64 (3), .int .i64 (0)], []⟩
theorem run7_0 : callK (closedS Tryz.prog 300 12) 7 ent7_0.args ent7_0.H = some (ent7_0.v, ent7_0.ups) := by kernel_rfl
def ent7_8 : MEnt := ⟨[.int .u8 (2), .str [0, 1, 0, 0]], [], .agg [.int .i64 (3), .int .i64 (0)], []⟩
theorem run7_8 : callK (closedS Tryz.prog 300 12) 7 ent7_8.args ent7_8.H = some (ent7_8.v, ent7_8.ups) := by kernel_rfl
def ent8_0 : MEnt := ⟨[.qs 0 1 0 19], [(0, .seq 5 [.int .u8 (255), .int .u8 (255), .int .u8 (255), .int .u8 (255), .int .u8 (255), .int .u8 (255), .int .u8 (255), .int .u8 (255), .int .u8 (255), .int .u8 (255), .int .u8 (255), .int .u8 (255), .int .u8 (255), .int .u8 (255), .int .u8 (255), .int .u8 (255), .int .u8 (0), .int .u8 (19), .int .u8 (1)])], .tup [.nils, .nils, .agg [.int .i64 (3), .int .i64 (0)]], []⟩
theorem run8_0 : callK (closedS Tryz.prog 300 12) 8 ent8_0.args ent8_0.H = some (ent8_0.v, ent8_0.ups) := by kernel_rfl
def ent8_8 : MEnt := ⟨[.qs 0 1 0 23], [(0, .seq 5 [.int .u8 (255), .int .u8 (255), .int .u8 (255), .int .u8 (255), .int .u8 (255), .int .u8 (255), .int .u8 (255), .int .u8 (255), .int .u8 (255), .int .u8 (255), .int .u8 (255), .int .u8 (255), .int .u8 (255), .int .u8 (255), .int .u8 (255), .int .u8 (255), .int .u8 (0), .int .u8 (23), .int .u8 (2), .int .u8 (0), .int .u8 (1), .int .u8 (0), .int .u8 (0)])], .tup [.nils, .nils, .agg [.int .i64 (3), .int .i64 (0)]], []⟩
theorem run8_8 : callK (closedS Tryz.prog 300 12) 8 ent8_8.args ent8_8.H = some (ent8_8.v, ent8_8.ups) := by kernel_rfl
def ent8_16 : MEnt := ⟨[.qs 0 1 0 19], [(0, .seq 5 [.int .u8 (255), .int .u8 (255), .int .u8 (255), .int .u8 (255), .int .u8 (255), .int .u8 (255), .int .u8 (255), .int .u8 (255), .int .u8 (255), .int .u8 (255), .int .u8 (255), .int .u8 (255), .int .u8 (255), .int .u8 (255), .int .u8 (255), .int .u8 (255), .int .u8 (0), .int .u8 (18), .int .u8 (4)])], .tup [.nils, .nils, .agg [.int .i64 (5), .int .i64 (0)]], []⟩
theorem run8_16 : callK (closedS Tryz.prog 300 12) 8 ent8_16.args ent8_16.H = some (ent8_16.v, ent8_16.ups) := by kernel_rfl
def ent10_5 : MEnt := ⟨[.agg [.int .i64 (3), .int .u32 (0), .int .i64 (0), .int .u32 (0), .int .i64 (0), .bool false, .int .i64 (0), .int .i64 (256), .int .i64 (0), .nils, .int .u32 (0), .bool false, .int .u32 (0), .bool false, .int .u32 (0), .bool false, .int .u32 (0), .nils, .nils, .int .i64 (0), .int .u32 (0), .int .u32 (0), .int .u32 (0), .nils, .nils]], [], .int .i64 (2), []⟩
theorem run10_5 : callK (closedS Tryz.prog 300 12) 10 ent10_5.args ent10_5.H = some (ent10_5.v, ent10_5.ups) := by kernel_rfl
end Go.Proofs.YtlilnifmepklkaaGreat
