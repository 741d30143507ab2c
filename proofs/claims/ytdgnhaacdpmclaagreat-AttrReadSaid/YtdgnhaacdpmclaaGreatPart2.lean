/- Writers of bytes: numbers of each size, bytes, what is out. -/
import Derived.Test.YtdgnhaacdpmclaaGreatPart1
namespace Go.Proofs.YtdgnhaacdpmclaaGreat
open Go.Am
set_option maxRecDepth 100000
def putW (n : Int) (k : Nat) : HpL → CTree
 | [(0, .cells 133 [.nils, .int .i64 lim, .mp 1]), (1, .mpc [] [])] =>
  .ite (decide (0 ≤ n ∧ n < 256 ^ k ∧ (k : Int) ≤ lim ∧ lim ≤ 65536)) (.ret (.int .i64 0) [(0, some (.cells 133 [.qs 2 1 0 k, .int .i64 lim, .mp 1])), (2, some (.seq 5 (be n k)))]) .fail
 | [(0, .cells 133 [.qs 1 1 0 m, .int .i64 lim, .mp 2]), (1, .seq 5 es), (2, .mpc [] [])] =>
  .ite (decide (m = es.length ∧ 0 ≤ n ∧ n < 256 ^ k ∧ ((es.length + k : Nat) : Int) ≤ lim ∧ lim ≤ 65536)) (.ret (.int .i64 0) [(1, none), (0, some (.cells 133 [.qs 3 1 0 (es.length + k), .int .i64 lim, .mp 2])), (3, some (.seq 5 (es ++ be n k)))]) .fail
 | _ => .fail
def wr_s (k : Nat) : CSumm := fun args H => match args with
 | [.ptr 0 0, .int .u64 n] => putW n k H
 | _ => .fail
theorem wrOk : KOk Tryz.prog (tbl [(102, put_s)]) := tbl_cons put_k ok0
theorem u8_a (n lim : Int) : opn (tbl [(102, put_s)]) Tryz.f82 [.ptr 0 0, .int .u64 n] [(0, .cells 133 [.nils, .int .i64 lim, .mp 1]), (1, .mpc [] [])] =
 bif decide (0 ≤ n ∧ n < 256 ^ 1 ∧ ((1 : Nat) : Int) ≤ lim ∧ lim ≤ 65536) then .ret (.int .i64 0) [(0, some (.cells 133 [.qs 2 1 0 1, .int .i64 lim, .mp 1])), (2, some (.seq 5 (be n 1)))] else .fail := by kernel_rfl
theorem u8_b (n lim : Int) (m : Nat) (es : List SV) : opn (tbl [(102, put_s)]) Tryz.f82 [.ptr 0 0, .int .u64 n] [(0, .cells 133 [.qs 1 1 0 m, .int .i64 lim, .mp 2]), (1, .seq 5 es), (2, .mpc [] [])] =
 bif decide (m = es.length ∧ 0 ≤ n ∧ n < 256 ^ 1 ∧ ((es.length + 1 : Nat) : Int) ≤ lim ∧ lim ≤ 65536) then .ret (.int .i64 0) [(1, none), (0, some (.cells 133 [.qs 3 1 0 (es.length + 1), .int .i64 lim, .mp 2])), (3, some (.seq 5 (es ++ be n 1)))] else .fail := by kernel_rfl
theorem u8_k : Known Tryz.prog 82 (wr_s 1) := (openKnown wrOk Tryz.func82 rfl).weak (by
 intro args H v ups h
 unfold wr_s at h
 split at h
 · rename_i n
   unfold putW at h
   split at h
   · rename_i lim
     rw [u8_a, crun_cond]; rw [crun_ite] at h; exact h
   · rename_i m lim es
     rw [u8_b, crun_cond]; rw [crun_ite] at h; exact h
   · cases h
 · cases h)
theorem u16_a (n lim : Int) : opn (tbl [(102, put_s)]) Tryz.f83 [.ptr 0 0, .int .u64 n] [(0, .cells 133 [.nils, .int .i64 lim, .mp 1]), (1, .mpc [] [])] =
 bif decide (0 ≤ n ∧ n < 256 ^ 2 ∧ ((2 : Nat) : Int) ≤ lim ∧ lim ≤ 65536) then .ret (.int .i64 0) [(0, some (.cells 133 [.qs 2 1 0 2, .int .i64 lim, .mp 1])), (2, some (.seq 5 (be n 2)))] else .fail := by kernel_rfl
theorem u16_b (n lim : Int) (m : Nat) (es : List SV) : opn (tbl [(102, put_s)]) Tryz.f83 [.ptr 0 0, .int .u64 n] [(0, .cells 133 [.qs 1 1 0 m, .int .i64 lim, .mp 2]), (1, .seq 5 es), (2, .mpc [] [])] =
 bif decide (m = es.length ∧ 0 ≤ n ∧ n < 256 ^ 2 ∧ ((es.length + 2 : Nat) : Int) ≤ lim ∧ lim ≤ 65536) then .ret (.int .i64 0) [(1, none), (0, some (.cells 133 [.qs 3 1 0 (es.length + 2), .int .i64 lim, .mp 2])), (3, some (.seq 5 (es ++ be n 2)))] else .fail := by kernel_rfl
theorem u16_k : Known Tryz.prog 83 (wr_s 2) := (openKnown wrOk Tryz.func83 rfl).weak (by
 intro args H v ups h
 unfold wr_s at h
 split at h
 · rename_i n
   unfold putW at h
   split at h
   · rename_i lim
     rw [u16_a, crun_cond]; rw [crun_ite] at h; exact h
   · rename_i m lim es
     rw [u16_b, crun_cond]; rw [crun_ite] at h; exact h
   · cases h
 · cases h)
theorem u24_a (n lim : Int) : opn (tbl [(102, put_s)]) Tryz.f89 [.ptr 0 0, .int .u64 n] [(0, .cells 133 [.nils, .int .i64 lim, .mp 1]), (1, .mpc [] [])] =
 bif decide (0 ≤ n ∧ n < 256 ^ 3 ∧ ((3 : Nat) : Int) ≤ lim ∧ lim ≤ 65536) then .ret (.int .i64 0) [(0, some (.cells 133 [.qs 2 1 0 3, .int .i64 lim, .mp 1])), (2, some (.seq 5 (be n 3)))] else .fail := by kernel_rfl
theorem u24_b (n lim : Int) (m : Nat) (es : List SV) : opn (tbl [(102, put_s)]) Tryz.f89 [.ptr 0 0, .int .u64 n] [(0, .cells 133 [.qs 1 1 0 m, .int .i64 lim, .mp 2]), (1, .seq 5 es), (2, .mpc [] [])] =
 bif decide (m = es.length ∧ 0 ≤ n ∧ n < 256 ^ 3 ∧ ((es.length + 3 : Nat) : Int) ≤ lim ∧ lim ≤ 65536) then .ret (.int .i64 0) [(1, none), (0, some (.cells 133 [.qs 3 1 0 (es.length + 3), .int .i64 lim, .mp 2])), (3, some (.seq 5 (es ++ be n 3)))] else .fail := by kernel_rfl
theorem u24_k : Known Tryz.prog 89 (wr_s 3) := (openKnown wrOk Tryz.func89 rfl).weak (by
 intro args H v ups h
 unfold wr_s at h
 split at h
 · rename_i n
   unfold putW at h
   split at h
   · rename_i lim
     rw [u24_a, crun_cond]; rw [crun_ite] at h; exact h
   · rename_i m lim es
     rw [u24_b, crun_cond]; rw [crun_ite] at h; exact h
   · cases h
 · cases h)
theorem u32_a (n lim : Int) : opn (tbl [(102, put_s)]) Tryz.f88 [.ptr 0 0, .int .u64 n] [(0, .cells 133 [.nils, .int .i64 lim, .mp 1]), (1, .mpc [] [])] =
 bif decide (0 ≤ n ∧ n < 256 ^ 4 ∧ ((4 : Nat) : Int) ≤ lim ∧ lim ≤ 65536) then .ret (.int .i64 0) [(0, some (.cells 133 [.qs 2 1 0 4, .int .i64 lim, .mp 1])), (2, some (.seq 5 (be n 4)))] else .fail := by kernel_rfl
theorem u32_b (n lim : Int) (m : Nat) (es : List SV) : opn (tbl [(102, put_s)]) Tryz.f88 [.ptr 0 0, .int .u64 n] [(0, .cells 133 [.qs 1 1 0 m, .int .i64 lim, .mp 2]), (1, .seq 5 es), (2, .mpc [] [])] =
 bif decide (m = es.length ∧ 0 ≤ n ∧ n < 256 ^ 4 ∧ ((es.length + 4 : Nat) : Int) ≤ lim ∧ lim ≤ 65536) then .ret (.int .i64 0) [(1, none), (0, some (.cells 133 [.qs 3 1 0 (es.length + 4), .int .i64 lim, .mp 2])), (3, some (.seq 5 (es ++ be n 4)))] else .fail := by kernel_rfl
theorem u32_k : Known Tryz.prog 88 (wr_s 4) := (openKnown wrOk Tryz.func88 rfl).weak (by
 intro args H v ups h
 unfold wr_s at h
 split at h
 · rename_i n
   unfold putW at h
   split at h
   · rename_i lim
     rw [u32_a, crun_cond]; rw [crun_ite] at h; exact h
   · rename_i m lim es
     rw [u32_b, crun_cond]; rw [crun_ite] at h; exact h
   · cases h
 · cases h)
theorem u48_a (n lim : Int) : opn (tbl [(102, put_s)]) Tryz.f145 [.ptr 0 0, .int .u64 n] [(0, .cells 133 [.nils, .int .i64 lim, .mp 1]), (1, .mpc [] [])] =
 bif decide (0 ≤ n ∧ n < 256 ^ 6 ∧ ((6 : Nat) : Int) ≤ lim ∧ lim ≤ 65536) then .ret (.int .i64 0) [(0, some (.cells 133 [.qs 2 1 0 6, .int .i64 lim, .mp 1])), (2, some (.seq 5 (be n 6)))] else .fail := by kernel_rfl
theorem u48_b (n lim : Int) (m : Nat) (es : List SV) : opn (tbl [(102, put_s)]) Tryz.f145 [.ptr 0 0, .int .u64 n] [(0, .cells 133 [.qs 1 1 0 m, .int .i64 lim, .mp 2]), (1, .seq 5 es), (2, .mpc [] [])] =
 bif decide (m = es.length ∧ 0 ≤ n ∧ n < 256 ^ 6 ∧ ((es.length + 6 : Nat) : Int) ≤ lim ∧ lim ≤ 65536) then .ret (.int .i64 0) [(1, none), (0, some (.cells 133 [.qs 3 1 0 (es.length + 6), .int .i64 lim, .mp 2])), (3, some (.seq 5 (es ++ be n 6)))] else .fail := by kernel_rfl
theorem u48_k : Known Tryz.prog 145 (wr_s 6) := (openKnown wrOk Tryz.func145 rfl).weak (by
 intro args H v ups h
 unfold wr_s at h
 split at h
 · rename_i n
   unfold putW at h
   split at h
   · rename_i lim
     rw [u48_a, crun_cond]; rw [crun_ite] at h; exact h
   · rename_i m lim es
     rw [u48_b, crun_cond]; rw [crun_ite] at h; exact h
   · cases h
 · cases h)
theorem u64_a (n lim : Int) : opn (tbl [(102, put_s)]) Tryz.f140 [.ptr 0 0, .int .u64 n] [(0, .cells 133 [.nils, .int .i64 lim, .mp 1]), (1, .mpc [] [])] =
 bif decide (0 ≤ n ∧ n < 256 ^ 8 ∧ ((8 : Nat) : Int) ≤ lim ∧ lim ≤ 65536) then .ret (.int .i64 0) [(0, some (.cells 133 [.qs 2 1 0 8, .int .i64 lim, .mp 1])), (2, some (.seq 5 (be n 8)))] else .fail := by kernel_rfl
theorem u64_b (n lim : Int) (m : Nat) (es : List SV) : opn (tbl [(102, put_s)]) Tryz.f140 [.ptr 0 0, .int .u64 n] [(0, .cells 133 [.qs 1 1 0 m, .int .i64 lim, .mp 2]), (1, .seq 5 es), (2, .mpc [] [])] =
 bif decide (m = es.length ∧ 0 ≤ n ∧ n < 256 ^ 8 ∧ ((es.length + 8 : Nat) : Int) ≤ lim ∧ lim ≤ 65536) then .ret (.int .i64 0) [(1, none), (0, some (.cells 133 [.qs 3 1 0 (es.length + 8), .int .i64 lim, .mp 2])), (3, some (.seq 5 (es ++ be n 8)))] else .fail := by kernel_rfl
theorem u64_k : Known Tryz.prog 140 (wr_s 8) := (openKnown wrOk Tryz.func140 rfl).weak (by
 intro args H v ups h
 unfold wr_s at h
 split at h
 · rename_i n
   unfold putW at h
   split at h
   · rename_i lim
     rw [u64_a, crun_cond]; rw [crun_ite] at h; exact h
   · rename_i m lim es
     rw [u64_b, crun_cond]; rw [crun_ite] at h; exact h
   · cases h
 · cases h)
def addA (lim : Int) (nw mp : Nat) (xs : List SV) : CTree :=
 .ite (decide ((xs.length : Int) ≤ lim ∧ lim ≤ 65536)) (.ret (.int .i64 0) [(0, some (.cells 133 [.qs nw 1 0 xs.length, .int .i64 lim, .mp mp])), (nw, some (.seq 5 xs))]) .fail
def addB (lim : Int) (m old nw mp : Nat) (es xs : List SV) : CTree :=
 .ite (decide (m = es.length ∧ ((es.length + xs.length : Nat) : Int) ≤ lim ∧ lim ≤ 65536)) (.ret (.int .i64 0) [(0, some (.cells 133 [.qs nw 1 0 (es.length + xs.length), .int .i64 lim, .mp mp])), (old, none), (nw, some (.seq 5 (es ++ xs)))]) .fail
def byN : HpL → CTree
 | [(0, .cells 133 [.nils, .int .i64 lim, .mp 1]), (1, .mpc [] [])] => addA lim 2 1 []
 | [(0, .cells 133 [.qs 1 1 0 m, .int .i64 lim, .mp 2]), (1, .seq 5 es), (2, .mpc [] [])] => addB lim m 1 3 2 es []
 | _ => .fail
def byP (xs : List SV) : HpL → CTree
 | [(0, .cells 133 [.nils, .int .i64 lim, .mp 1]), (1, .mpc [] [])] => addA lim 2 1 xs
 | [(0, .cells 133 [.qs 1 1 0 m, .int .i64 lim, .mp 2]), (1, .seq 5 es), (2, .mpc [] [])] => addB lim m 1 3 2 es xs
 | _ => .fail
def byQA (k : Nat) : HpL → CTree
 | [(0, .cells 133 [.nils, .int .i64 lim, .mp 1]), (1, .mpc [] []), (2, .seq 5 xs)] => .ite (decide (k = xs.length)) (addA lim 3 1 xs) .fail
 | _ => .fail
def byQB (k : Nat) : HpL → CTree
 | [(0, .cells 133 [.qs 1 1 0 m, .int .i64 lim, .mp 2]), (1, .seq 5 es), (2, .mpc [] []), (3, .seq 5 xs)] => .ite (decide (k = xs.length)) (addB lim m 1 4 2 es xs) .fail
 | _ => .fail
def byE : HpL → CTree
 | [(0, .cells 133 [.qs 1 1 0 m, .int .i64 lim, .mp 2]), (1, .seq 5 es), (2, .mpc [] []), (3, .cells 49 [.int .i64 kind, .int .u64 rd, .int .u8 e0, .int .u8 e1, .int .u8 e2, .int .u8 e3, .int .u8 e4, .int .u8 e5, .int .u8 e6, .int .u8 e7, .int .u8 e8, .int .u8 e9, .int .u32 tag, .int .u64 mac, .int .u32 ip, .bool hip, .int .u32 pip, .int .i64 plen, .int .u32 gw, .int .u32 lab, .int .u32 lab2])] => addB lim m 1 4 2 es [.int .u8 e0, .int .u8 e1, .int .u8 e2, .int .u8 e3, .int .u8 e4, .int .u8 e5, .int .u8 e6, .int .u8 e7, .int .u8 e8, .int .u8 e9]
 | _ => .fail
def byCA : HpL → CTree
 | [(0, .cells 133 [.nils, .int .i64 lim, .mp 1]), (1, .mpc [] []), (2, .cells 91 [.int .u8 c0, .int .u8 c1, .int .u8 c2, .int .u8 c3, .int .u8 c4, .int .u8 c5, .int .u8 c6, .int .u8 c7])] => addA lim 3 1 [.int .u8 c0, .int .u8 c1, .int .u8 c2, .int .u8 c3, .int .u8 c4, .int .u8 c5, .int .u8 c6, .int .u8 c7]
 | _ => .fail
def byCB : HpL → CTree
 | [(0, .cells 133 [.qs 1 1 0 m, .int .i64 lim, .mp 2]), (1, .seq 5 es), (2, .mpc [] []), (3, .cells 91 [.int .u8 c0, .int .u8 c1, .int .u8 c2, .int .u8 c3, .int .u8 c4, .int .u8 c5, .int .u8 c6, .int .u8 c7])] => addB lim m 1 4 2 es [.int .u8 c0, .int .u8 c1, .int .u8 c2, .int .u8 c3, .int .u8 c4, .int .u8 c5, .int .u8 c6, .int .u8 c7]
 | _ => .fail
def bytes_s : CSumm := fun args H => match args with
 | [.ptr 0 0, .nils] => byN H
 | [.ptr 0 0, .psl 5 xs] => byP xs H
 | [.ptr 0 0, .qs 2 1 0 k] => byQA k H
 | [.ptr 0 0, .qs 3 1 0 k] => byQB k H
 | [.ptr 0 0, .sl 3 1 2 10] => byE H
 | [.ptr 0 0, .sl 2 1 0 8] => byCA H
 | [.ptr 0 0, .sl 3 1 0 8] => byCB H
 | _ => .fail
theorem by_1 (lim : Int) : opn (tbl []) Tryz.f84 [.ptr 0 0, .nils] [(0, .cells 133 [.nils, .int .i64 lim, .mp 1]), (1, .mpc [] [])] =
 bif decide (IntKind.i64.wrap (lim - 0) < 0) then .ret (.int .i64 7) [] else (.ret (.int .i64 0) [(0, some (.cells 133 [.qs 2 1 0 0, .int .i64 lim, .mp 1])), (2, some (.seq 5 []))]) := by kernel_rfl
theorem by_2 (lim : Int) (m : Nat) (es : List SV) : opn (tbl []) Tryz.f84 [.ptr 0 0, .nils] [(0, .cells 133 [.qs 1 1 0 m, .int .i64 lim, .mp 2]), (1, .seq 5 es), (2, .mpc [] [])] =
 bif decide (IntKind.i64.wrap (lim - (m : Int)) < 0) then .ret (.int .i64 7) [] else bif decide (m = es.length) then (bif decide (es.length + 0 ≤ 9223372036854775807) && decide ((es.length + 0) * 1 ≤ 140737488355328) then .ret (.int .i64 0) [(0, some (.cells 133 [.qs 3 1 0 (es.length + 0), .int .i64 lim, .mp 2])), (1, none), (3, some (.seq 5 (es ++ [])))] else .fail) else .fail := by kernel_rfl
theorem by_3 (lim : Int) (xs : List SV) : opn (tbl []) Tryz.f84 [.ptr 0 0, .psl 5 xs] [(0, .cells 133 [.nils, .int .i64 lim, .mp 1]), (1, .mpc [] [])] =
 bif decide (IntKind.i64.wrap (lim - 0) < (xs.length : Int)) then .ret (.int .i64 7) [] else (bif decide (0 + xs.length ≤ 9223372036854775807) && decide ((0 + xs.length) * 1 ≤ 140737488355328) then .ret (.int .i64 0) [(0, some (.cells 133 [.qs 2 1 0 (0 + xs.length), .int .i64 lim, .mp 1])), (2, some (.seq 5 (xs)))] else .fail) := by kernel_rfl
theorem by_4 (lim : Int) (m : Nat) (es xs : List SV) : opn (tbl []) Tryz.f84 [.ptr 0 0, .psl 5 xs] [(0, .cells 133 [.qs 1 1 0 m, .int .i64 lim, .mp 2]), (1, .seq 5 es), (2, .mpc [] [])] =
 bif decide (IntKind.i64.wrap (lim - (m : Int)) < (xs.length : Int)) then .ret (.int .i64 7) [] else bif decide (m = es.length) then (bif decide (es.length + xs.length ≤ 9223372036854775807) && decide ((es.length + xs.length) * 1 ≤ 140737488355328) then .ret (.int .i64 0) [(0, some (.cells 133 [.qs 3 1 0 (es.length + xs.length), .int .i64 lim, .mp 2])), (1, none), (3, some (.seq 5 (es ++ xs)))] else .fail) else .fail := by kernel_rfl
theorem by_5 (lim : Int) (k : Nat) (xs : List SV) : opn (tbl []) Tryz.f84 [.ptr 0 0, .qs 2 1 0 k] [(0, .cells 133 [.nils, .int .i64 lim, .mp 1]), (1, .mpc [] []), (2, .seq 5 xs)] =
 bif decide (IntKind.i64.wrap (lim - 0) < (k : Int)) then .ret (.int .i64 7) [] else bif decide (k = xs.length) then (bif decide (0 + xs.length ≤ 9223372036854775807) && decide ((0 + xs.length) * 1 ≤ 140737488355328) then .ret (.int .i64 0) [(0, some (.cells 133 [.qs 3 1 0 (0 + xs.length), .int .i64 lim, .mp 1])), (3, some (.seq 5 (xs)))] else .fail) else bif decide (0 + k ≤ xs.length) then (bif decide (0 + ((xs.drop 0).take k).length ≤ 9223372036854775807) && decide ((0 + ((xs.drop 0).take k).length) * 1 ≤ 140737488355328) then .ret (.int .i64 0) [(0, some (.cells 133 [.qs 3 1 0 (0 + ((xs.drop 0).take k).length), .int .i64 lim, .mp 1])), (3, some (.seq 5 (((xs.drop 0).take k))))] else .fail) else .fail := by kernel_rfl
theorem by_6 (lim : Int) (m : Nat) (es : List SV) (k : Nat) (xs : List SV) : opn (tbl []) Tryz.f84 [.ptr 0 0, .qs 3 1 0 k] [(0, .cells 133 [.qs 1 1 0 m, .int .i64 lim, .mp 2]), (1, .seq 5 es), (2, .mpc [] []), (3, .seq 5 xs)] =
 bif decide (IntKind.i64.wrap (lim - (m : Int)) < (k : Int)) then .ret (.int .i64 7) [] else bif decide (m = es.length) then (bif decide (k = xs.length) then (bif decide (es.length + xs.length ≤ 9223372036854775807) && decide ((es.length + xs.length) * 1 ≤ 140737488355328) then .ret (.int .i64 0) [(0, some (.cells 133 [.qs 4 1 0 (es.length + xs.length), .int .i64 lim, .mp 2])), (1, none), (4, some (.seq 5 (es ++ xs)))] else .fail) else bif decide (0 + k ≤ xs.length) then (bif decide (es.length + ((xs.drop 0).take k).length ≤ 9223372036854775807) && decide ((es.length + ((xs.drop 0).take k).length) * 1 ≤ 140737488355328) then .ret (.int .i64 0) [(0, some (.cells 133 [.qs 4 1 0 (es.length + ((xs.drop 0).take k).length), .int .i64 lim, .mp 2])), (1, none), (4, some (.seq 5 (es ++ ((xs.drop 0).take k))))] else .fail) else .fail) else .fail := by kernel_rfl
theorem by_7 (lim : Int) (m : Nat) (es : List SV) (kind rd e0 e1 e2 e3 e4 e5 e6 e7 e8 e9 tag mac ip : Int) (hip : Bool) (pip plen gw lab lab2 : Int) : opn (tbl []) Tryz.f84 [.ptr 0 0, .sl 3 1 2 10] [(0, .cells 133 [.qs 1 1 0 m, .int .i64 lim, .mp 2]), (1, .seq 5 es), (2, .mpc [] []), (3, .cells 49 [.int .i64 kind, .int .u64 rd, .int .u8 e0, .int .u8 e1, .int .u8 e2, .int .u8 e3, .int .u8 e4, .int .u8 e5, .int .u8 e6, .int .u8 e7, .int .u8 e8, .int .u8 e9, .int .u32 tag, .int .u64 mac, .int .u32 ip, .bool hip, .int .u32 pip, .int .i64 plen, .int .u32 gw, .int .u32 lab, .int .u32 lab2])] =
 bif decide (IntKind.i64.wrap (lim - (m : Int)) < 10) then .ret (.int .i64 7) [] else bif decide (m = es.length) then (bif decide (es.length + 10 ≤ 9223372036854775807) && decide ((es.length + 10) * 1 ≤ 140737488355328) then .ret (.int .i64 0) [(0, some (.cells 133 [.qs 4 1 0 (es.length + 10), .int .i64 lim, .mp 2])), (1, none), (4, some (.seq 5 (es ++ [.int .u8 e0, .int .u8 e1, .int .u8 e2, .int .u8 e3, .int .u8 e4, .int .u8 e5, .int .u8 e6, .int .u8 e7, .int .u8 e8, .int .u8 e9])))] else .fail) else .fail := by kernel_rfl
theorem by_8 (lim : Int) (c0 c1 c2 c3 c4 c5 c6 c7 : Int) : opn (tbl []) Tryz.f84 [.ptr 0 0, .sl 2 1 0 8] [(0, .cells 133 [.nils, .int .i64 lim, .mp 1]), (1, .mpc [] []), (2, .cells 91 [.int .u8 c0, .int .u8 c1, .int .u8 c2, .int .u8 c3, .int .u8 c4, .int .u8 c5, .int .u8 c6, .int .u8 c7])] =
 bif decide (IntKind.i64.wrap (lim - 0) < 8) then .ret (.int .i64 7) [] else (.ret (.int .i64 0) [(0, some (.cells 133 [.qs 3 1 0 8, .int .i64 lim, .mp 1])), (3, some (.seq 5 [.int .u8 c0, .int .u8 c1, .int .u8 c2, .int .u8 c3, .int .u8 c4, .int .u8 c5, .int .u8 c6, .int .u8 c7]))]) := by kernel_rfl
theorem by_9 (lim : Int) (m : Nat) (es : List SV) (c0 c1 c2 c3 c4 c5 c6 c7 : Int) : opn (tbl []) Tryz.f84 [.ptr 0 0, .sl 3 1 0 8] [(0, .cells 133 [.qs 1 1 0 m, .int .i64 lim, .mp 2]), (1, .seq 5 es), (2, .mpc [] []), (3, .cells 91 [.int .u8 c0, .int .u8 c1, .int .u8 c2, .int .u8 c3, .int .u8 c4, .int .u8 c5, .int .u8 c6, .int .u8 c7])] =
 bif decide (IntKind.i64.wrap (lim - (m : Int)) < 8) then .ret (.int .i64 7) [] else bif decide (m = es.length) then (bif decide (es.length + 8 ≤ 9223372036854775807) && decide ((es.length + 8) * 1 ≤ 140737488355328) then .ret (.int .i64 0) [(0, some (.cells 133 [.qs 4 1 0 (es.length + 8), .int .i64 lim, .mp 2])), (1, none), (4, some (.seq 5 (es ++ [.int .u8 c0, .int .u8 c1, .int .u8 c2, .int .u8 c3, .int .u8 c4, .int .u8 c5, .int .u8 c6, .int .u8 c7])))] else .fail) else .fail := by kernel_rfl
theorem byN_ok  (H : HpL) (v : SV) (ups : List (Nat × Option Chunk)) (h : crun (byN H) = some (v, ups)) : crun (opn (tbl []) Tryz.f84 [.ptr 0 0, .nils] H) = some (v, ups) := by
 unfold byN at h
 split at h
 · rename_i lim
   simp only [addA, crun_ite, cond_eq_ite] at h
   split at h
   · rename_i hc
     obtain ⟨h2, h3⟩ := of_decide_eq_true hc
     try simp only [List.length_nil] at h2
     rw [by_1, w64_id (by omega) (by omega), decide_eq_false (by omega)]
     exact h
   · cases h
 · rename_i m lim es
   simp only [addB, crun_ite, cond_eq_ite] at h
   split at h
   · rename_i hc
     obtain ⟨hm, h2, h3⟩ := of_decide_eq_true hc
     try simp only [List.length_nil] at h2
     rw [by_2, w64_id (by omega) (by omega), decide_eq_false (by omega), decide_eq_true hm, decide_eq_true (by omega), decide_eq_true (by omega)]
     exact h
   · cases h
 · cases h
theorem byP_ok (xs : List SV) (H : HpL) (v : SV) (ups : List (Nat × Option Chunk)) (h : crun (byP xs H) = some (v, ups)) : crun (opn (tbl []) Tryz.f84 [.ptr 0 0, .psl 5 xs] H) = some (v, ups) := by
 unfold byP at h
 split at h
 · rename_i lim
   simp only [addA, crun_ite, cond_eq_ite] at h
   split at h
   · rename_i hc
     obtain ⟨h2, h3⟩ := of_decide_eq_true hc
     try simp only [List.length_cons, List.length_nil] at h2
     rw [by_3, w64_id (by omega) (by omega), decide_eq_false (by omega), decide_eq_true (by omega), decide_eq_true (by omega)]
     simpa using h
   · cases h
 · rename_i m lim es
   simp only [addB, crun_ite, cond_eq_ite] at h
   split at h
   · rename_i hc
     obtain ⟨hm, h2, h3⟩ := of_decide_eq_true hc
     try simp only [List.length_cons, List.length_nil] at h2
     rw [by_4, w64_id (by omega) (by omega), decide_eq_false (by omega), decide_eq_true hm, decide_eq_true (by omega), decide_eq_true (by omega)]
     exact h
   · cases h
 · cases h
theorem byQA_ok (k : Nat) (H : HpL) (v : SV) (ups : List (Nat × Option Chunk)) (h : crun (byQA k H) = some (v, ups)) : crun (opn (tbl []) Tryz.f84 [.ptr 0 0, .qs 2 1 0 k] H) = some (v, ups) := by
 unfold byQA at h
 split at h
 · rename_i lim xs
   rw [crun_ite, cond_eq_ite] at h
   split at h
   · rename_i hk
     have hk := of_decide_eq_true hk
     subst hk
     simp only [addA, crun_ite, cond_eq_ite] at h
     split at h
     · rename_i hc
       obtain ⟨h2, h3⟩ := of_decide_eq_true hc
       try simp only [List.length_cons, List.length_nil] at h2
       rw [by_5, w64_id (by omega) (by omega), decide_eq_false (by omega), decide_eq_true rfl, decide_eq_true (by omega), decide_eq_true (by omega)]
       simpa using h
     · cases h
   · cases h
 · cases h
theorem byQB_ok (k : Nat) (H : HpL) (v : SV) (ups : List (Nat × Option Chunk)) (h : crun (byQB k H) = some (v, ups)) : crun (opn (tbl []) Tryz.f84 [.ptr 0 0, .qs 3 1 0 k] H) = some (v, ups) := by
 unfold byQB at h
 split at h
 · rename_i m lim es xs
   rw [crun_ite, cond_eq_ite] at h
   split at h
   · rename_i hk
     have hk := of_decide_eq_true hk
     subst hk
     simp only [addB, crun_ite, cond_eq_ite] at h
     split at h
     · rename_i hc
       obtain ⟨hm, h2, h3⟩ := of_decide_eq_true hc
       try simp only [List.length_cons, List.length_nil] at h2
       rw [by_6, w64_id (by omega) (by omega), decide_eq_false (by omega), decide_eq_true hm, decide_eq_true rfl, decide_eq_true (by omega), decide_eq_true (by omega)]
       exact h
     · cases h
   · cases h
 · cases h
theorem byE_ok  (H : HpL) (v : SV) (ups : List (Nat × Option Chunk)) (h : crun (byE H) = some (v, ups)) : crun (opn (tbl []) Tryz.f84 [.ptr 0 0, .sl 3 1 2 10] H) = some (v, ups) := by
 unfold byE at h
 split at h
 · rename_i m lim es kind rd e0 e1 e2 e3 e4 e5 e6 e7 e8 e9 tag mac ip hip pip plen gw lab lab2
   simp only [addB, crun_ite, cond_eq_ite] at h
   split at h
   · rename_i hc
     obtain ⟨hm, h2, h3⟩ := of_decide_eq_true hc
     try simp only [List.length_cons, List.length_nil] at h2
     rw [by_7, w64_id (by omega) (by omega), decide_eq_false (by omega), decide_eq_true hm, decide_eq_true (by omega), decide_eq_true (by omega)]
     exact h
   · cases h
 · cases h
theorem byCA_ok  (H : HpL) (v : SV) (ups : List (Nat × Option Chunk)) (h : crun (byCA H) = some (v, ups)) : crun (opn (tbl []) Tryz.f84 [.ptr 0 0, .sl 2 1 0 8] H) = some (v, ups) := by
 unfold byCA at h
 split at h
 · rename_i lim c0 c1 c2 c3 c4 c5 c6 c7
   simp only [addA, crun_ite, cond_eq_ite] at h
   split at h
   · rename_i hc
     obtain ⟨h2, h3⟩ := of_decide_eq_true hc
     try simp only [List.length_cons, List.length_nil] at h2
     rw [by_8, w64_id (by omega) (by omega), decide_eq_false (by omega)]
     exact h
   · cases h
 · cases h
theorem byCB_ok  (H : HpL) (v : SV) (ups : List (Nat × Option Chunk)) (h : crun (byCB H) = some (v, ups)) : crun (opn (tbl []) Tryz.f84 [.ptr 0 0, .sl 3 1 0 8] H) = some (v, ups) := by
 unfold byCB at h
 split at h
 · rename_i m lim es c0 c1 c2 c3 c4 c5 c6 c7
   simp only [addB, crun_ite, cond_eq_ite] at h
   split at h
   · rename_i hc
     obtain ⟨hm, h2, h3⟩ := of_decide_eq_true hc
     try simp only [List.length_cons, List.length_nil] at h2
     rw [by_9, w64_id (by omega) (by omega), decide_eq_false (by omega), decide_eq_true hm, decide_eq_true (by omega), decide_eq_true (by omega)]
     exact h
   · cases h
 · cases h
theorem bytes_k : Known Tryz.prog 84 bytes_s := (openKnown ok0 Tryz.func84 rfl).weak (by
 intro args H v ups h
 unfold bytes_s at h
 split at h
 · exact byN_ok H v ups h
 · exact byP_ok _ H v ups h
 · exact byQA_ok _ H v ups h
 · exact byQB_ok _ H v ups h
 · exact byE_ok H v ups h
 · exact byCA_ok H v ups h
 · exact byCB_ok H v ups h
 · cases h)
def out_s : CSumm := fun args H => match args, H with
 | [.ptr 0 0], [(0, .cells 133 [.nils, .int .i64 lim, .mp 1]), (1, .mpc [] [])] => .ret (.qs 2 1 0 0) [(2, some (.seq 5 []))]
 | [.ptr 0 0], [(0, .cells 133 [.qs 1 1 0 k, .int .i64 lim, .mp 2]), (1, .seq 5 xs), (2, .mpc [] [])] => .ite (decide (k = xs.length ∧ xs.length ≤ 65536)) (.ret (.qs 3 1 0 xs.length) [(3, some (.seq 5 xs))]) .fail
 | _, _ => .fail
theorem out_1 (lim : Int) (k : Nat) (xs : List SV) : opn (tbl []) Tryz.f36 [.ptr 0 0] [(0, .cells 133 [.qs 1 1 0 k, .int .i64 lim, .mp 2]), (1, .seq 5 xs), (2, .mpc [] [])] =
 bif decide (k = xs.length) then (bif decide (0 + xs.length ≤ 9223372036854775807) && decide ((0 + xs.length) * 1 ≤ 140737488355328) then .ret (.qs 3 1 0 (0 + xs.length)) [(3, some (.seq 5 xs))] else .fail)
 else bif decide (0 + k ≤ xs.length) then (bif decide (0 + ((xs.drop 0).take k).length ≤ 9223372036854775807) && decide ((0 + ((xs.drop 0).take k).length) * 1 ≤ 140737488355328) then .ret (.qs 3 1 0 (0 + ((xs.drop 0).take k).length)) [(3, some (.seq 5 ((xs.drop 0).take k)))] else .fail) else .fail := by kernel_rfl
theorem out_2 (lim : Int) : opn (tbl []) Tryz.f36 [.ptr 0 0] [(0, .cells 133 [.nils, .int .i64 lim, .mp 1]), (1, .mpc [] [])] = .ret (.qs 2 1 0 0) [(2, some (.seq 5 []))] := by kernel_rfl
theorem out_k : Known Tryz.prog 36 out_s := (openKnown ok0 Tryz.func36 rfl).weak (by
 intro args H v ups h
 unfold out_s at h
 split at h
 · rename_i lim
   rw [out_2]; exact h
 · rename_i k lim xs
   simp only [crun_ite, cond_eq_ite] at h
   split at h
   · rename_i hc
     obtain ⟨rfl, h2⟩ := of_decide_eq_true hc
     rw [out_1, decide_eq_true rfl, decide_eq_true (by omega), decide_eq_true (by omega)]
     simpa using h
   · cases h
 · cases h)
end Go.Proofs.YtdgnhaacdpmclaaGreat
/- Routes: their values are put. -/
namespace Go.Proofs.YtdgnhaacdpmclaaGreat
open Go.Am
set_option maxRecDepth 100000
abbrev κb := tbl [(79, check_s), (82, wr_s 1), (83, wr_s 2), (89, wr_s 3), (88, wr_s 4), (145, wr_s 6), (140, wr_s 8), (84, bytes_s), (36, out_s)]
theorem bOk : KOk Tryz.prog κb := tbl_cons ncheck_k (tbl_cons u8_k (tbl_cons u16_k (tbl_cons u24_k (tbl_cons u32_k (tbl_cons u48_k (tbl_cons u64_k (tbl_cons bytes_k (tbl_cons out_k ok0))))))))
structure OkP (n : Nl) : Prop where
 (rd0 : 0 ≤ n.rd) (rd1 : n.rd < 18446744073709551616) (tag0 : 0 ≤ n.tag) (tag1 : n.tag < 4294967296) (mac0 : 0 ≤ n.mac) (mac1 : n.mac < 281474976710656) (ip0 : 0 ≤ n.ip) (ip1 : n.ip < 4294967296) (pip0 : 0 ≤ n.pip) (pip1 : n.pip < 4294967296) (pl0 : 0 ≤ n.plen) (pl1 : n.plen < 256) (gw0 : 0 ≤ n.gw) (gw1 : n.gw < 4294967296) (lab0 : 0 ≤ n.lab) (lab1 : n.lab < 16777216) (lac0 : 0 ≤ n.lab2) (lac1 : n.lab2 < 16777216)
noncomputable instance okPDec (n : Nl) : Decidable (OkP n) := Classical.propDecidable _
theorem wu_id {n : Int} (h1 : 0 ≤ n) (h2 : n < 18446744073709551616) : IntKind.u64.wrap n = n := by
 simp [IntKind.wrap, IntKind.bits, IntKind.signed]; omega
def val1 (n : Nl) : List SV := be n.rd 8 ++ [.int .u8 n.e0, .int .u8 n.e1, .int .u8 n.e2, .int .u8 n.e3, .int .u8 n.e4, .int .u8 n.e5, .int .u8 n.e6, .int .u8 n.e7, .int .u8 n.e8, .int .u8 n.e9] ++ be n.tag 4 ++ be n.lab 3
def val2 (n : Nl) : List SV := be n.rd 8 ++ [.int .u8 n.e0, .int .u8 n.e1, .int .u8 n.e2, .int .u8 n.e3, .int .u8 n.e4, .int .u8 n.e5, .int .u8 n.e6, .int .u8 n.e7, .int .u8 n.e8, .int .u8 n.e9] ++ be n.tag 4 ++ be 48 1 ++ be n.mac 6 ++ (bif n.hip then be 32 1 ++ be n.ip 4 else be 0 1) ++ be n.lab 3 ++ (bif n.lab2 != 0 then be n.lab2 3 else [])
def val3 (n : Nl) : List SV := be n.rd 8 ++ be n.tag 4 ++ be 32 1 ++ be n.ip 4
def val4 (n : Nl) : List SV := be n.rd 8 ++ [.int .u8 n.e0, .int .u8 n.e1, .int .u8 n.e2, .int .u8 n.e3, .int .u8 n.e4, .int .u8 n.e5, .int .u8 n.e6, .int .u8 n.e7, .int .u8 n.e8, .int .u8 n.e9] ++ be 32 1 ++ be n.ip 4
def val5 (n : Nl) : List SV := be n.rd 8 ++ [.int .u8 n.e0, .int .u8 n.e1, .int .u8 n.e2, .int .u8 n.e3, .int .u8 n.e4, .int .u8 n.e5, .int .u8 n.e6, .int .u8 n.e7, .int .u8 n.e8, .int .u8 n.e9] ++ be n.tag 4 ++ be n.plen 1 ++ be n.pip 4 ++ be n.gw 4 ++ be n.lab 3
noncomputable def cput_s (val : Nl → List SV) : CSumm := fun args H => match args, H with
 | [.agg [], .ptr 0 0, x], [(0, .cells 133 [.nils, .int .i64 lim, .mp 1]), (1, .mpc [] [])] => match nlOf x with
  | some n => .ite (decide (lim = 40 ∧ OkP n)) (.ret (.tup []) [(0, some (.cells 133 [.qs 2 1 0 (val n).length, .int .i64 40, .mp 1])), (2, some (.seq 5 (val n)))]) .fail
  | none => .fail
 | _, _ => .fail
theorem cput_case {val : Nl → List SV} {args : List SV} {H : HpL} {v : SV} {ups : List (Nat × Option Chunk)} (h : crun (cput_s val args H) = some (v, ups)) :
  ∃ n : Nl, OkP n ∧ args = [.agg [], .ptr 0 0, n.v] ∧ H = [(0, .cells 133 [.nils, .int .i64 40, .mp 1]), (1, .mpc [] [])] ∧ v = .tup [] ∧ ups = [(0, some (.cells 133 [.qs 2 1 0 (val n).length, .int .i64 40, .mp 1])), (2, some (.seq 5 (val n)))] := by
 unfold cput_s at h
 split at h
 · rename_i x lim
   split at h
   · rename_i n hn
     rw [crun_ite, cond_eq_ite] at h
     split at h
     · rename_i hc
       have hc2 : lim = 40 ∧ OkP n := by simpa using hc
       obtain ⟨rfl, hok⟩ := hc2
       cases h
       exact ⟨n, hok, by rw [nlOf_v hn], rfl, rfl, rfl⟩
     · cases h
   · cases h
 · cases h
theorem cput_t1 (kind rd e0 e1 e2 e3 e4 e5 e6 e7 e8 e9 tag mac ip : Int) (hip : Bool) (pip plen gw lab lab2 : Int) : opn κb Tryz.f137 [.agg [], .ptr 0 0, Nl.v ⟨kind, rd, e0, e1, e2, e3, e4, e5, e6, e7, e8, e9, tag, mac, ip, hip, pip, plen, gw, lab, lab2⟩] [(0, .cells 133 [.nils, .int .i64 40, .mp 1]), (1, .mpc [] [])] =
 bif decide (0 ≤ rd ∧ rd < 256 ^ 8 ∧ ((8 : Nat) : Int) ≤ 40 ∧ (40 : Int) ≤ 65536) then (bif decide (18 = 18 ∧ 0 ≤ (IntKind.u64.wrap tag) ∧ (IntKind.u64.wrap tag) < 256 ^ 4 ∧ ((18 + 4 : Nat) : Int) ≤ 40 ∧ (40 : Int) ≤ 65536) then (bif decide (22 = 22 ∧ 0 ≤ (IntKind.u64.wrap lab) ∧ (IntKind.u64.wrap lab) < 256 ^ 3 ∧ ((22 + 3 : Nat) : Int) ≤ 40 ∧ (40 : Int) ≤ 65536) then (.ret (.tup []) [(0, some (.cells 133 [.qs 2 1 0 25, .int .i64 40, .mp 1])), (2, some (.seq 5 (be rd 8 ++ [.int .u8 e0, .int .u8 e1, .int .u8 e2, .int .u8 e3, .int .u8 e4, .int .u8 e5, .int .u8 e6, .int .u8 e7, .int .u8 e8, .int .u8 e9] ++ be (IntKind.u64.wrap tag) 4 ++ be (IntKind.u64.wrap lab) 3)))]) else .fail) else .fail) else .fail := by kernel_rfl
theorem cput_k1 : Known Tryz.prog 137 (cput_s val1) := (openKnown bOk Tryz.func137 rfl).weak (by
 intro args H v ups h
 obtain ⟨n, hok, rfl, rfl, rfl, rfl⟩ := cput_case h
 obtain ⟨kind, rd, e0, e1, e2, e3, e4, e5, e6, e7, e8, e9, tag, mac, ip, hip, pip, plen, gw, lab, lab2⟩ := n
 obtain ⟨rd0, rd1, tag0, tag1, mac0, mac1, ip0, ip1, pip0, pip1, pl0, pl1, gw0, gw1, lab0, lab1, lac0, lac1⟩ := hok
 simp only at rd0 rd1 tag0 tag1 mac0 mac1 ip0 ip1 pip0 pip1 pl0 pl1 gw0 gw1 lab0 lab1 lac0 lac1
 rw [cput_t1]
 have w1 := wu_id tag0 (by omega)
 have w2 := wu_id ip0 (by omega)
 have w3 := wu_id pip0 (by omega)
 have w4 := wu_id pl0 (by omega)
 have w5 := wu_id gw0 (by omega)
 have w6 := wu_id lab0 (by omega)
 have w7 := wu_id lac0 (by omega)
 rw [decide_eq_true (by omega), decide_eq_true (by omega), decide_eq_true (by omega)]
 simp only [w1, w2, w3, w4, w5, w6, w7]
 rfl)
theorem cput_t2 (kind rd e0 e1 e2 e3 e4 e5 e6 e7 e8 e9 tag mac ip : Int) (hip : Bool) (pip plen gw lab lab2 : Int) : opn κb Tryz.f142 [.agg [], .ptr 0 0, Nl.v ⟨kind, rd, e0, e1, e2, e3, e4, e5, e6, e7, e8, e9, tag, mac, ip, hip, pip, plen, gw, lab, lab2⟩] [(0, .cells 133 [.nils, .int .i64 40, .mp 1]), (1, .mpc [] [])] =
 bif decide (0 ≤ rd ∧ rd < 256 ^ 8 ∧ ((8 : Nat) : Int) ≤ 40 ∧ (40 : Int) ≤ 65536) then (bif decide (18 = 18 ∧ 0 ≤ (IntKind.u64.wrap tag) ∧ (IntKind.u64.wrap tag) < 256 ^ 4 ∧ ((18 + 4 : Nat) : Int) ≤ 40 ∧ (40 : Int) ≤ 65536) then (bif decide (23 = 23 ∧ 0 ≤ mac ∧ mac < 256 ^ 6 ∧ ((23 + 6 : Nat) : Int) ≤ 40 ∧ (40 : Int) ≤ 65536) then (bif hip then (bif decide (30 = 30 ∧ 0 ≤ (IntKind.u64.wrap ip) ∧ (IntKind.u64.wrap ip) < 256 ^ 4 ∧ ((30 + 4 : Nat) : Int) ≤ 40 ∧ (40 : Int) ≤ 65536) then (bif decide (34 = 34 ∧ 0 ≤ (IntKind.u64.wrap lab) ∧ (IntKind.u64.wrap lab) < 256 ^ 3 ∧ ((34 + 3 : Nat) : Int) ≤ 40 ∧ (40 : Int) ≤ 65536) then (bif lab2 != 0 then (bif decide (37 = 37 ∧ 0 ≤ (IntKind.u64.wrap lab2) ∧ (IntKind.u64.wrap lab2) < 256 ^ 3 ∧ ((37 + 3 : Nat) : Int) ≤ 40 ∧ (40 : Int) ≤ 65536) then (.ret (.tup []) [(0, some (.cells 133 [.qs 2 1 0 40, .int .i64 40, .mp 1])), (2, some (.seq 5 (be rd 8 ++ [.int .u8 e0, .int .u8 e1, .int .u8 e2, .int .u8 e3, .int .u8 e4, .int .u8 e5, .int .u8 e6, .int .u8 e7, .int .u8 e8, .int .u8 e9] ++ be (IntKind.u64.wrap tag) 4 ++ be 48 1 ++ be mac 6 ++ be 32 1 ++ be (IntKind.u64.wrap ip) 4 ++ be (IntKind.u64.wrap lab) 3 ++ be (IntKind.u64.wrap lab2) 3)))]) else .fail) else .ret (.tup []) [(0, some (.cells 133 [.qs 2 1 0 37, .int .i64 40, .mp 1])), (2, some (.seq 5 (be rd 8 ++ [.int .u8 e0, .int .u8 e1, .int .u8 e2, .int .u8 e3, .int .u8 e4, .int .u8 e5, .int .u8 e6, .int .u8 e7, .int .u8 e8, .int .u8 e9] ++ be (IntKind.u64.wrap tag) 4 ++ be 48 1 ++ be mac 6 ++ be 32 1 ++ be (IntKind.u64.wrap ip) 4 ++ be (IntKind.u64.wrap lab) 3)))]) else .fail) else .fail) else (bif decide (30 = 30 ∧ 0 ≤ (IntKind.u64.wrap lab) ∧ (IntKind.u64.wrap lab) < 256 ^ 3 ∧ ((30 + 3 : Nat) : Int) ≤ 40 ∧ (40 : Int) ≤ 65536) then (bif lab2 != 0 then (bif decide (33 = 33 ∧ 0 ≤ (IntKind.u64.wrap lab2) ∧ (IntKind.u64.wrap lab2) < 256 ^ 3 ∧ ((33 + 3 : Nat) : Int) ≤ 40 ∧ (40 : Int) ≤ 65536) then (.ret (.tup []) [(0, some (.cells 133 [.qs 2 1 0 36, .int .i64 40, .mp 1])), (2, some (.seq 5 (be rd 8 ++ [.int .u8 e0, .int .u8 e1, .int .u8 e2, .int .u8 e3, .int .u8 e4, .int .u8 e5, .int .u8 e6, .int .u8 e7, .int .u8 e8, .int .u8 e9] ++ be (IntKind.u64.wrap tag) 4 ++ be 48 1 ++ be mac 6 ++ be 0 1 ++ be (IntKind.u64.wrap lab) 3 ++ be (IntKind.u64.wrap lab2) 3)))]) else .fail) else .ret (.tup []) [(0, some (.cells 133 [.qs 2 1 0 33, .int .i64 40, .mp 1])), (2, some (.seq 5 (be rd 8 ++ [.int .u8 e0, .int .u8 e1, .int .u8 e2, .int .u8 e3, .int .u8 e4, .int .u8 e5, .int .u8 e6, .int .u8 e7, .int .u8 e8, .int .u8 e9] ++ be (IntKind.u64.wrap tag) 4 ++ be 48 1 ++ be mac 6 ++ be 0 1 ++ be (IntKind.u64.wrap lab) 3)))]) else .fail)) else .fail) else .fail) else .fail := by kernel_rfl
theorem cput_k2 : Known Tryz.prog 142 (cput_s val2) := (openKnown bOk Tryz.func142 rfl).weak (by
 intro args H v ups h
 obtain ⟨n, hok, rfl, rfl, rfl, rfl⟩ := cput_case h
 obtain ⟨kind, rd, e0, e1, e2, e3, e4, e5, e6, e7, e8, e9, tag, mac, ip, hip, pip, plen, gw, lab, lab2⟩ := n
 obtain ⟨rd0, rd1, tag0, tag1, mac0, mac1, ip0, ip1, pip0, pip1, pl0, pl1, gw0, gw1, lab0, lab1, lac0, lac1⟩ := hok
 simp only at rd0 rd1 tag0 tag1 mac0 mac1 ip0 ip1 pip0 pip1 pl0 pl1 gw0 gw1 lab0 lab1 lac0 lac1
 rw [cput_t2]
 have w1 := wu_id tag0 (by omega)
 have w2 := wu_id ip0 (by omega)
 have w3 := wu_id pip0 (by omega)
 have w4 := wu_id pl0 (by omega)
 have w5 := wu_id gw0 (by omega)
 have w6 := wu_id lab0 (by omega)
 have w7 := wu_id lac0 (by omega)
 rw [decide_eq_true (by omega), decide_eq_true (by omega), decide_eq_true (by omega)]
 cases hip with
 | true =>
  rw [cond_true, cond_true, cond_true, cond_true]
  rw [decide_eq_true (by omega), decide_eq_true (by omega)]
  cases hl : (lab2 != 0) with
  | true => rw [cond_true, cond_true, cond_true, decide_eq_true (by omega)]; simp only [val2, hl, w1, w2, w3, w4, w5, w6, w7]; rfl
  | false => simp only [val2, hl, w1, w2, w3, w4, w5, w6, w7]; rfl
 | false =>
  rw [cond_true, cond_true, cond_true, cond_false]
  rw [decide_eq_true (by omega)]
  cases hl : (lab2 != 0) with
  | true => rw [cond_true, cond_true, decide_eq_true (by omega)]; simp only [val2, hl, w1, w2, w3, w4, w5, w6, w7]; rfl
  | false => simp only [val2, hl, w1, w2, w3, w4, w5, w6, w7]; rfl)
theorem cput_t3 (kind rd e0 e1 e2 e3 e4 e5 e6 e7 e8 e9 tag mac ip : Int) (hip : Bool) (pip plen gw lab lab2 : Int) : opn κb Tryz.f148 [.agg [], .ptr 0 0, Nl.v ⟨kind, rd, e0, e1, e2, e3, e4, e5, e6, e7, e8, e9, tag, mac, ip, hip, pip, plen, gw, lab, lab2⟩] [(0, .cells 133 [.nils, .int .i64 40, .mp 1]), (1, .mpc [] [])] =
 bif decide (0 ≤ rd ∧ rd < 256 ^ 8 ∧ ((8 : Nat) : Int) ≤ 40 ∧ (40 : Int) ≤ 65536) then (bif decide (8 = 8 ∧ 0 ≤ (IntKind.u64.wrap tag) ∧ (IntKind.u64.wrap tag) < 256 ^ 4 ∧ ((8 + 4 : Nat) : Int) ≤ 40 ∧ (40 : Int) ≤ 65536) then (bif decide (13 = 13 ∧ 0 ≤ (IntKind.u64.wrap ip) ∧ (IntKind.u64.wrap ip) < 256 ^ 4 ∧ ((13 + 4 : Nat) : Int) ≤ 40 ∧ (40 : Int) ≤ 65536) then (.ret (.tup []) [(0, some (.cells 133 [.qs 2 1 0 17, .int .i64 40, .mp 1])), (2, some (.seq 5 (be rd 8 ++ be (IntKind.u64.wrap tag) 4 ++ be 32 1 ++ be (IntKind.u64.wrap ip) 4)))]) else .fail) else .fail) else .fail := by kernel_rfl
theorem cput_k3 : Known Tryz.prog 148 (cput_s val3) := (openKnown bOk Tryz.func148 rfl).weak (by
 intro args H v ups h
 obtain ⟨n, hok, rfl, rfl, rfl, rfl⟩ := cput_case h
 obtain ⟨kind, rd, e0, e1, e2, e3, e4, e5, e6, e7, e8, e9, tag, mac, ip, hip, pip, plen, gw, lab, lab2⟩ := n
 obtain ⟨rd0, rd1, tag0, tag1, mac0, mac1, ip0, ip1, pip0, pip1, pl0, pl1, gw0, gw1, lab0, lab1, lac0, lac1⟩ := hok
 simp only at rd0 rd1 tag0 tag1 mac0 mac1 ip0 ip1 pip0 pip1 pl0 pl1 gw0 gw1 lab0 lab1 lac0 lac1
 rw [cput_t3]
 have w1 := wu_id tag0 (by omega)
 have w2 := wu_id ip0 (by omega)
 have w3 := wu_id pip0 (by omega)
 have w4 := wu_id pl0 (by omega)
 have w5 := wu_id gw0 (by omega)
 have w6 := wu_id lab0 (by omega)
 have w7 := wu_id lac0 (by omega)
 rw [decide_eq_true (by omega), decide_eq_true (by omega), decide_eq_true (by omega)]
 simp only [w1, w2, w3, w4, w5, w6, w7]
 rfl)
theorem cput_t4 (kind rd e0 e1 e2 e3 e4 e5 e6 e7 e8 e9 tag mac ip : Int) (hip : Bool) (pip plen gw lab lab2 : Int) : opn κb Tryz.f150 [.agg [], .ptr 0 0, Nl.v ⟨kind, rd, e0, e1, e2, e3, e4, e5, e6, e7, e8, e9, tag, mac, ip, hip, pip, plen, gw, lab, lab2⟩] [(0, .cells 133 [.nils, .int .i64 40, .mp 1]), (1, .mpc [] [])] =
 bif decide (0 ≤ rd ∧ rd < 256 ^ 8 ∧ ((8 : Nat) : Int) ≤ 40 ∧ (40 : Int) ≤ 65536) then (bif decide (19 = 19 ∧ 0 ≤ (IntKind.u64.wrap ip) ∧ (IntKind.u64.wrap ip) < 256 ^ 4 ∧ ((19 + 4 : Nat) : Int) ≤ 40 ∧ (40 : Int) ≤ 65536) then (.ret (.tup []) [(0, some (.cells 133 [.qs 2 1 0 23, .int .i64 40, .mp 1])), (2, some (.seq 5 (be rd 8 ++ [.int .u8 e0, .int .u8 e1, .int .u8 e2, .int .u8 e3, .int .u8 e4, .int .u8 e5, .int .u8 e6, .int .u8 e7, .int .u8 e8, .int .u8 e9] ++ be 32 1 ++ be (IntKind.u64.wrap ip) 4)))]) else .fail) else .fail := by kernel_rfl
theorem cput_k4 : Known Tryz.prog 150 (cput_s val4) := (openKnown bOk Tryz.func150 rfl).weak (by
 intro args H v ups h
 obtain ⟨n, hok, rfl, rfl, rfl, rfl⟩ := cput_case h
 obtain ⟨kind, rd, e0, e1, e2, e3, e4, e5, e6, e7, e8, e9, tag, mac, ip, hip, pip, plen, gw, lab, lab2⟩ := n
 obtain ⟨rd0, rd1, tag0, tag1, mac0, mac1, ip0, ip1, pip0, pip1, pl0, pl1, gw0, gw1, lab0, lab1, lac0, lac1⟩ := hok
 simp only at rd0 rd1 tag0 tag1 mac0 mac1 ip0 ip1 pip0 pip1 pl0 pl1 gw0 gw1 lab0 lab1 lac0 lac1
 rw [cput_t4]
 have w1 := wu_id tag0 (by omega)
 have w2 := wu_id ip0 (by omega)
 have w3 := wu_id pip0 (by omega)
 have w4 := wu_id pl0 (by omega)
 have w5 := wu_id gw0 (by omega)
 have w6 := wu_id lab0 (by omega)
 have w7 := wu_id lac0 (by omega)
 rw [decide_eq_true (by omega), decide_eq_true (by omega)]
 simp only [w1, w2, w3, w4, w5, w6, w7]
 rfl)
theorem cput_t5 (kind rd e0 e1 e2 e3 e4 e5 e6 e7 e8 e9 tag mac ip : Int) (hip : Bool) (pip plen gw lab lab2 : Int) : opn κb Tryz.f152 [.agg [], .ptr 0 0, Nl.v ⟨kind, rd, e0, e1, e2, e3, e4, e5, e6, e7, e8, e9, tag, mac, ip, hip, pip, plen, gw, lab, lab2⟩] [(0, .cells 133 [.nils, .int .i64 40, .mp 1]), (1, .mpc [] [])] =
 bif decide (0 ≤ rd ∧ rd < 256 ^ 8 ∧ ((8 : Nat) : Int) ≤ 40 ∧ (40 : Int) ≤ 65536) then (bif decide (18 = 18 ∧ 0 ≤ (IntKind.u64.wrap tag) ∧ (IntKind.u64.wrap tag) < 256 ^ 4 ∧ ((18 + 4 : Nat) : Int) ≤ 40 ∧ (40 : Int) ≤ 65536) then (bif decide (22 = 22 ∧ 0 ≤ (IntKind.u64.wrap plen) ∧ (IntKind.u64.wrap plen) < 256 ^ 1 ∧ ((22 + 1 : Nat) : Int) ≤ 40 ∧ (40 : Int) ≤ 65536) then (bif decide (23 = 23 ∧ 0 ≤ (IntKind.u64.wrap pip) ∧ (IntKind.u64.wrap pip) < 256 ^ 4 ∧ ((23 + 4 : Nat) : Int) ≤ 40 ∧ (40 : Int) ≤ 65536) then (bif decide (27 = 27 ∧ 0 ≤ (IntKind.u64.wrap gw) ∧ (IntKind.u64.wrap gw) < 256 ^ 4 ∧ ((27 + 4 : Nat) : Int) ≤ 40 ∧ (40 : Int) ≤ 65536) then (bif decide (31 = 31 ∧ 0 ≤ (IntKind.u64.wrap lab) ∧ (IntKind.u64.wrap lab) < 256 ^ 3 ∧ ((31 + 3 : Nat) : Int) ≤ 40 ∧ (40 : Int) ≤ 65536) then (.ret (.tup []) [(0, some (.cells 133 [.qs 2 1 0 34, .int .i64 40, .mp 1])), (2, some (.seq 5 (be rd 8 ++ [.int .u8 e0, .int .u8 e1, .int .u8 e2, .int .u8 e3, .int .u8 e4, .int .u8 e5, .int .u8 e6, .int .u8 e7, .int .u8 e8, .int .u8 e9] ++ be (IntKind.u64.wrap tag) 4 ++ be (IntKind.u64.wrap plen) 1 ++ be (IntKind.u64.wrap pip) 4 ++ be (IntKind.u64.wrap gw) 4 ++ be (IntKind.u64.wrap lab) 3)))]) else .fail) else .fail) else .fail) else .fail) else .fail) else .fail := by kernel_rfl
theorem cput_k5 : Known Tryz.prog 152 (cput_s val5) := (openKnown bOk Tryz.func152 rfl).weak (by
 intro args H v ups h
 obtain ⟨n, hok, rfl, rfl, rfl, rfl⟩ := cput_case h
 obtain ⟨kind, rd, e0, e1, e2, e3, e4, e5, e6, e7, e8, e9, tag, mac, ip, hip, pip, plen, gw, lab, lab2⟩ := n
 obtain ⟨rd0, rd1, tag0, tag1, mac0, mac1, ip0, ip1, pip0, pip1, pl0, pl1, gw0, gw1, lab0, lab1, lac0, lac1⟩ := hok
 simp only at rd0 rd1 tag0 tag1 mac0 mac1 ip0 ip1 pip0 pip1 pl0 pl1 gw0 gw1 lab0 lab1 lac0 lac1
 rw [cput_t5]
 have w1 := wu_id tag0 (by omega)
 have w2 := wu_id ip0 (by omega)
 have w3 := wu_id pip0 (by omega)
 have w4 := wu_id pl0 (by omega)
 have w5 := wu_id gw0 (by omega)
 have w6 := wu_id lab0 (by omega)
 have w7 := wu_id lac0 (by omega)
 rw [decide_eq_true (by omega), decide_eq_true (by omega), decide_eq_true (by omega), decide_eq_true (by omega), decide_eq_true (by omega), decide_eq_true (by omega)]
 simp only [w1, w2, w3, w4, w5, w6, w7]
 rfl)
end Go.Proofs.YtdgnhaacdpmclaaGreat
/- Routes: their bytes. -/
namespace Go.Proofs.YtdgnhaacdpmclaaGreat
open Go.Am
set_option maxRecDepth 100000
noncomputable abbrev κc := tbl [(79, check_s), (137, cput_s val1), (142, cput_s val2), (148, cput_s val3), (150, cput_s val4), (152, cput_s val5), (36, out_s)]
theorem cOk : KOk Tryz.prog κc := tbl_cons ncheck_k (tbl_cons cput_k1 (tbl_cons cput_k2 (tbl_cons cput_k3 (tbl_cons cput_k4 (tbl_cons cput_k5 (tbl_cons out_k ok0))))))
def encL (val : Nl → List SV) (n : Nl) : List SV := [.int .u8 (IntKind.u8.wrap n.kind), .int .u8 (IntKind.u8.wrap ((val n).length : Int))] ++ val n
noncomputable def encT (val : Nl → List SV) (n : Nl) : CTree :=
 bif decide ((40 : Int) = 40 ∧ OkP n) then bif decide ((val n).length = (val n).length ∧ (val n).length ≤ 65536) then
  (bif decide ((val n).length = (val n).length) then
   (bif decide (2 + (val n).length ≤ 9223372036854775807) && decide ((2 + (val n).length) * 1 ≤ 140737488355328) then .ret (.qs 0 1 0 (2 + (val n).length)) [(0, some (.seq 5 (encL val n)))] else .fail)
   else bif decide (0 + (val n).length ≤ (val n).length) then
    (bif decide (2 + (((val n).drop 0).take (val n).length).length ≤ 9223372036854775807) && decide ((2 + (((val n).drop 0).take (val n).length).length) * 1 ≤ 140737488355328) then .ret (.qs 0 1 0 (2 + (((val n).drop 0).take (val n).length).length)) [(0, some (.seq 5 ([.int .u8 (IntKind.u8.wrap n.kind), .int .u8 (IntKind.u8.wrap ((val n).length : Int))] ++ (((val n).drop 0).take (val n).length))))] else .fail) else .fail)
  else .fail else .fail
theorem val_len (n : Nl) : (val1 n).length ≤ 40 ∧ (val2 n).length ≤ 40 ∧ (val3 n).length ≤ 40 ∧ (val4 n).length ≤ 40 ∧ (val5 n).length ≤ 40 := by
 refine ⟨by simp [val1, be_len], ?_, by simp [val3, be_len], by simp [val4, be_len], by simp [val5, be_len]⟩
 cases h : n.hip <;> cases h2 : (n.lab2 != 0) <;> simp [val2, be_len, h, h2]
theorem encT_ok {val : Nl → List SV} {n : Nl} (hl : (val n).length ≤ 40) (hok : OkP n) : crun (encT val n) = some (.qs 0 1 0 (encL val n).length, [(0, some (.seq 5 (encL val n)))]) := by
 unfold encT
 rw [decide_eq_true (show (40 : Int) = 40 ∧ OkP n from ⟨rfl, hok⟩), decide_eq_true (show _ ∧ (val n).length ≤ 65536 from ⟨rfl, by omega⟩), decide_eq_true rfl, decide_eq_true (by omega), decide_eq_true (by omega)]
 simp [crun, encL, Nat.add_comm]; omega
theorem enc_t1 (kind rd e0 e1 e2 e3 e4 e5 e6 e7 e8 e9 tag mac ip : Int) (hip : Bool) (pip plen gw lab lab2 : Int) : opn κc Tryz.f100 [Nl.v ⟨kind, rd, e0, e1, e2, e3, e4, e5, e6, e7, e8, e9, tag, mac, ip, hip, pip, plen, gw, lab, lab2⟩, .iface 171 (.agg [])] [] = encT val1 ⟨kind, rd, e0, e1, e2, e3, e4, e5, e6, e7, e8, e9, tag, mac, ip, hip, pip, plen, gw, lab, lab2⟩ := by kernel_rfl
theorem enc_t2 (kind rd e0 e1 e2 e3 e4 e5 e6 e7 e8 e9 tag mac ip : Int) (hip : Bool) (pip plen gw lab lab2 : Int) : opn κc Tryz.f100 [Nl.v ⟨kind, rd, e0, e1, e2, e3, e4, e5, e6, e7, e8, e9, tag, mac, ip, hip, pip, plen, gw, lab, lab2⟩, .iface 172 (.agg [])] [] = encT val2 ⟨kind, rd, e0, e1, e2, e3, e4, e5, e6, e7, e8, e9, tag, mac, ip, hip, pip, plen, gw, lab, lab2⟩ := by kernel_rfl
theorem enc_t3 (kind rd e0 e1 e2 e3 e4 e5 e6 e7 e8 e9 tag mac ip : Int) (hip : Bool) (pip plen gw lab lab2 : Int) : opn κc Tryz.f100 [Nl.v ⟨kind, rd, e0, e1, e2, e3, e4, e5, e6, e7, e8, e9, tag, mac, ip, hip, pip, plen, gw, lab, lab2⟩, .iface 173 (.agg [])] [] = encT val3 ⟨kind, rd, e0, e1, e2, e3, e4, e5, e6, e7, e8, e9, tag, mac, ip, hip, pip, plen, gw, lab, lab2⟩ := by kernel_rfl
theorem enc_t4 (kind rd e0 e1 e2 e3 e4 e5 e6 e7 e8 e9 tag mac ip : Int) (hip : Bool) (pip plen gw lab lab2 : Int) : opn κc Tryz.f100 [Nl.v ⟨kind, rd, e0, e1, e2, e3, e4, e5, e6, e7, e8, e9, tag, mac, ip, hip, pip, plen, gw, lab, lab2⟩, .iface 174 (.agg [])] [] = encT val4 ⟨kind, rd, e0, e1, e2, e3, e4, e5, e6, e7, e8, e9, tag, mac, ip, hip, pip, plen, gw, lab, lab2⟩ := by kernel_rfl
theorem enc_t5 (kind rd e0 e1 e2 e3 e4 e5 e6 e7 e8 e9 tag mac ip : Int) (hip : Bool) (pip plen gw lab lab2 : Int) : opn κc Tryz.f100 [Nl.v ⟨kind, rd, e0, e1, e2, e3, e4, e5, e6, e7, e8, e9, tag, mac, ip, hip, pip, plen, gw, lab, lab2⟩, .iface 175 (.agg [])] [] = encT val5 ⟨kind, rd, e0, e1, e2, e3, e4, e5, e6, e7, e8, e9, tag, mac, ip, hip, pip, plen, gw, lab, lab2⟩ := by kernel_rfl
def valOf (t : Nat) : Option (Nl → List SV) := bif Nat.beq t 171 then some val1 else bif Nat.beq t 172 then some val2 else bif Nat.beq t 173 then some val3 else bif Nat.beq t 174 then some val4 else bif Nat.beq t 175 then some val5 else none
noncomputable def encode_s : CSumm := fun args H => match args, H with
 | [x, .iface t (.agg [])], [] => match nlOf x, valOf t with
  | some n, some val => .ite (decide (OkP n)) (.ret (.qs 0 1 0 (encL val n).length) [(0, some (.seq 5 (encL val n)))]) .fail
  | _, _ => .fail
 | _, _ => .fail
theorem encode_k : Known Tryz.prog 100 encode_s := (openKnown cOk Tryz.func100 rfl).weak (by
 intro args H v ups h
 unfold encode_s at h
 split at h
 · rename_i x t
   split at h
   · rename_i n val hn hv
     rw [crun_ite, cond_eq_ite] at h
     split at h
     · rename_i hc
       have hok : OkP n := by simpa using hc
       rw [nlOf_v hn]
       obtain ⟨kind, rd, e0, e1, e2, e3, e4, e5, e6, e7, e8, e9, tag, mac, ip, hip, pip, plen, gw, lab, lab2⟩ := n
       obtain ⟨l1, l2, l3, l4, l5⟩ := val_len ⟨kind, rd, e0, e1, e2, e3, e4, e5, e6, e7, e8, e9, tag, mac, ip, hip, pip, plen, gw, lab, lab2⟩
       unfold valOf at hv
       cases h1 : Nat.beq t 171 with
       | true => rw [h1] at hv; cases hv; cases Nat.eq_of_beq_eq_true h1; rw [enc_t1, encT_ok l1 hok]; exact h
       | false =>
       cases h2 : Nat.beq t 172 with
       | true => rw [h1, h2] at hv; cases hv; cases Nat.eq_of_beq_eq_true h2; rw [enc_t2, encT_ok l2 hok]; exact h
       | false =>
       cases h3 : Nat.beq t 173 with
       | true => rw [h1, h2, h3] at hv; cases hv; cases Nat.eq_of_beq_eq_true h3; rw [enc_t3, encT_ok l3 hok]; exact h
       | false =>
       cases h4 : Nat.beq t 174 with
       | true => rw [h1, h2, h3, h4] at hv; cases hv; cases Nat.eq_of_beq_eq_true h4; rw [enc_t4, encT_ok l4 hok]; exact h
       | false =>
       cases h5 : Nat.beq t 175 with
       | true => rw [h1, h2, h3, h4, h5] at hv; cases hv; cases Nat.eq_of_beq_eq_true h5; rw [enc_t5, encT_ok l5 hok]; exact h
       | false => rw [h1, h2, h3, h4, h5] at hv; cases hv
     · cases h
   · cases h
 · cases h)
def nb (n : Nl) : List SV := bif n.kind == 1 then encL val1 n else bif n.kind == 2 then encL val2 n else bif n.kind == 3 then encL val3 n else bif n.kind == 4 then encL val4 n else encL val5 n
noncomputable def nbytes_s : CSumm := fun args H => match args, H with
 | [x], [] => match nlOf x with
  | some n => .ite (decide (chk n = 0 ∧ OkP n)) (.ret (.tup [.qs 0 1 0 (nb n).length, .int .i64 0]) [(0, some (.seq 5 (nb n)))]) .fail
  | none => .fail
 | _, _ => .fail
theorem nbytes_case {args : List SV} {H : HpL} {v : SV} {ups : List (Nat × Option Chunk)} (h : crun (nbytes_s args H) = some (v, ups)) :
  ∃ n : Nl, chk n = 0 ∧ OkP n ∧ args = [n.v] ∧ H = [] ∧ v = .tup [.qs 0 1 0 (nb n).length, .int .i64 0] ∧ ups = [(0, some (.seq 5 (nb n)))] := by
 unfold nbytes_s at h
 split at h
 · rename_i x
   split at h
   · rename_i n hn
     rw [crun_ite, cond_eq_ite] at h
     split at h
     · rename_i hc
       have hc2 : chk n = 0 ∧ OkP n := by simpa using hc
       cases h
       exact ⟨n, hc2.1, hc2.2, by rw [nlOf_v hn], rfl, rfl, rfl⟩
     · cases h
   · cases h
 · cases h
theorem chk_kind {n : Nl} (h : chk n = 0) : n.kind = 1 ∨ n.kind = 2 ∨ n.kind = 3 ∨ n.kind = 4 ∨ n.kind = 5 := by
 by_cases hk : 1 ≤ n.kind ∧ n.kind ≤ 5
 · omega
 · exfalso
   have hc : (decide (n.kind < 1) || decide (n.kind > 5)) = true := by
    simp only [Bool.or_eq_true, decide_eq_true_eq]; omega
   unfold chk at h
   rw [hc] at h
   cases h
end Go.Proofs.YtdgnhaacdpmclaaGreat
/- The reference's numbers. -/
namespace Go.Proofs.YtdgnhaacdpmclaaGreat
open Go.Am
set_option maxRecDepth 100000
theorem rbyte (n : Int) (k : Nat) : IntKind.u8.wrap (n.fdiv (256 ^ k)) = n / 256 ^ k % 256 := by
 rw [w8_eq, Int.fdiv_eq_ediv_of_nonneg _ (Int.pow_nonneg (by decide))]
def lenOk (k : Nat) : Bool := decide (k ≤ 9223372036854775807) && decide (k * 1 ≤ 140737488355328)
theorem lenOk_t {k : Nat} (h : k ≤ 1000000) : lenOk k = true := by
 unfold lenOk
 rw [decide_eq_true (by omega), decide_eq_true (by omega)]; rfl
def putR (n : Int) (nw : Nat) (ups : List (Nat × Option Chunk)) : Nat → Nat → List SV → CTree
 | 0, m, es => .ret (.qs nw 1 0 m) (ups ++ [(nw, some (.seq 5 es))])
 | k + 1, m, es => bif decide (m = es.length) then bif lenOk (es.length + 1) then putR n nw ups k (es.length + 1) (es ++ [.int .u8 (IntKind.u8.wrap (n.fdiv (256 ^ k)))]) else .fail else .fail
theorem putR_ok (n : Int) (nw : Nat) (ups : List (Nat × Option Chunk)) : ∀ (k : Nat) (es : List SV), es.length + k ≤ 1000000 → putR n nw ups k es.length es = .ret (.qs nw 1 0 (es.length + k)) (ups ++ [(nw, some (.seq 5 (es ++ be n k)))])
 | 0, es, _ => by simp [putR, be]
 | k + 1, es, h => by
  rw [putR, decide_eq_true rfl, lenOk_t (by omega), rbyte]
  have := putR_ok n nw ups k (es ++ [.int .u8 (n / 256 ^ k % 256)]) (by simp; omega)
  rw [List.length_append] at this
  rw [cond_true, cond_true]
  refine this.trans ?_
  simp [be, Nat.add_assoc, Nat.add_comm 1 k]
theorem p4_a2 (n : Int) : opn (tbl []) Tryz.f38 [.nils, .int .u64 n, .int .i64 2] [] = putR n 0 [] 2 0 [] := by kernel_rfl
theorem p4_b2 (n : Int) (m : Nat) (es : List SV) : opn (tbl []) Tryz.f38 [.qs 0 1 0 m, .int .u64 n, .int .i64 2] [(0, .seq 5 es)] = putR n 1 [(0, none)] 2 m es := by kernel_rfl
theorem p4_c2 (n a b : Int) : opn (tbl []) Tryz.f38 [.sl 0 1 0 2, .int .u64 n, .int .i64 2] [(0, .cells 5 [.int .u8 a, .int .u8 b])] = putR n 1 [(0, none)] 2 2 [.int .u8 a, .int .u8 b] := by kernel_rfl
theorem p4_a3 (n : Int) : opn (tbl []) Tryz.f38 [.nils, .int .u64 n, .int .i64 3] [] = putR n 0 [] 3 0 [] := by kernel_rfl
theorem p4_b3 (n : Int) (m : Nat) (es : List SV) : opn (tbl []) Tryz.f38 [.qs 0 1 0 m, .int .u64 n, .int .i64 3] [(0, .seq 5 es)] = putR n 1 [(0, none)] 3 m es := by kernel_rfl
theorem p4_c3 (n a b : Int) : opn (tbl []) Tryz.f38 [.sl 0 1 0 2, .int .u64 n, .int .i64 3] [(0, .cells 5 [.int .u8 a, .int .u8 b])] = putR n 1 [(0, none)] 3 2 [.int .u8 a, .int .u8 b] := by kernel_rfl
theorem p4_a4 (n : Int) : opn (tbl []) Tryz.f38 [.nils, .int .u64 n, .int .i64 4] [] = putR n 0 [] 4 0 [] := by kernel_rfl
theorem p4_b4 (n : Int) (m : Nat) (es : List SV) : opn (tbl []) Tryz.f38 [.qs 0 1 0 m, .int .u64 n, .int .i64 4] [(0, .seq 5 es)] = putR n 1 [(0, none)] 4 m es := by kernel_rfl
theorem p4_c4 (n a b : Int) : opn (tbl []) Tryz.f38 [.sl 0 1 0 2, .int .u64 n, .int .i64 4] [(0, .cells 5 [.int .u8 a, .int .u8 b])] = putR n 1 [(0, none)] 4 2 [.int .u8 a, .int .u8 b] := by kernel_rfl
theorem p4_a6 (n : Int) : opn (tbl []) Tryz.f38 [.nils, .int .u64 n, .int .i64 6] [] = putR n 0 [] 6 0 [] := by kernel_rfl
theorem p4_b6 (n : Int) (m : Nat) (es : List SV) : opn (tbl []) Tryz.f38 [.qs 0 1 0 m, .int .u64 n, .int .i64 6] [(0, .seq 5 es)] = putR n 1 [(0, none)] 6 m es := by kernel_rfl
theorem p4_c6 (n a b : Int) : opn (tbl []) Tryz.f38 [.sl 0 1 0 2, .int .u64 n, .int .i64 6] [(0, .cells 5 [.int .u8 a, .int .u8 b])] = putR n 1 [(0, none)] 6 2 [.int .u8 a, .int .u8 b] := by kernel_rfl
theorem p4_a8 (n : Int) : opn (tbl []) Tryz.f38 [.nils, .int .u64 n, .int .i64 8] [] = putR n 0 [] 8 0 [] := by kernel_rfl
theorem p4_b8 (n : Int) (m : Nat) (es : List SV) : opn (tbl []) Tryz.f38 [.qs 0 1 0 m, .int .u64 n, .int .i64 8] [(0, .seq 5 es)] = putR n 1 [(0, none)] 8 m es := by kernel_rfl
theorem p4_c8 (n a b : Int) : opn (tbl []) Tryz.f38 [.sl 0 1 0 2, .int .u64 n, .int .i64 8] [(0, .cells 5 [.int .u8 a, .int .u8 b])] = putR n 1 [(0, none)] 8 2 [.int .u8 a, .int .u8 b] := by kernel_rfl
def rputT (n : Int) (k : Nat) (x : SV) (H : HpL) : CTree := match x, H with
 | .nils, [] => .ret (.qs 0 1 0 k) [(0, some (.seq 5 (be n k)))]
 | .qs 0 1 0 m, [(0, .seq 5 es)] => .ite (decide (m = es.length ∧ es.length ≤ 100000)) (.ret (.qs 1 1 0 (es.length + k)) [(0, none), (1, some (.seq 5 (es ++ be n k)))]) .fail
 | .sl 0 1 0 2, [(0, .cells 5 [.int .u8 a, .int .u8 b])] => .ret (.qs 1 1 0 (2 + k)) [(0, none), (1, some (.seq 5 ([.int .u8 a, .int .u8 b] ++ be n k)))]
 | _, _ => .fail
def rput_s : CSumm := fun args H => match args with
 | [x, .int .u64 n, .int .i64 k] => .ite (k == 2 || k == 3 || k == 4 || k == 6 || k == 8) (rputT n k.toNat x H) .fail
 | _ => .fail
theorem p4_ok2 {n : Int} {x : SV} {H : HpL} {v : SV} {ups : List (Nat × Option Chunk)} (h : crun (rputT n 2 x H) = some (v, ups)) : crun (opn (tbl []) Tryz.f38 [x, .int .u64 n, .int .i64 2] H) = some (v, ups) := by
 unfold rputT at h
 split at h
 · rw [p4_a2]; rw [← h]; have := putR_ok n 0 [] 2 [] (by simp); simp only [List.length_nil, List.nil_append, Nat.zero_add] at this; rw [this]
 · rename_i m es
   rw [crun_ite, cond_eq_ite] at h
   split at h
   · rename_i hc
     obtain ⟨rfl, h2⟩ := of_decide_eq_true hc
     rw [p4_b2, putR_ok n 1 _ 2 es (by omega)]; exact h
   · cases h
 · rename_i a b
   rw [p4_c2]; rw [← h]; exact congrArg crun (putR_ok n 1 [(0, none)] 2 [.int .u8 a, .int .u8 b] (by simp))
 · cases h
theorem p4_ok3 {n : Int} {x : SV} {H : HpL} {v : SV} {ups : List (Nat × Option Chunk)} (h : crun (rputT n 3 x H) = some (v, ups)) : crun (opn (tbl []) Tryz.f38 [x, .int .u64 n, .int .i64 3] H) = some (v, ups) := by
 unfold rputT at h
 split at h
 · rw [p4_a3]; rw [← h]; have := putR_ok n 0 [] 3 [] (by simp); simp only [List.length_nil, List.nil_append, Nat.zero_add] at this; rw [this]
 · rename_i m es
   rw [crun_ite, cond_eq_ite] at h
   split at h
   · rename_i hc
     obtain ⟨rfl, h2⟩ := of_decide_eq_true hc
     rw [p4_b3, putR_ok n 1 _ 3 es (by omega)]; exact h
   · cases h
 · rename_i a b
   rw [p4_c3]; rw [← h]; exact congrArg crun (putR_ok n 1 [(0, none)] 3 [.int .u8 a, .int .u8 b] (by simp))
 · cases h
theorem p4_ok4 {n : Int} {x : SV} {H : HpL} {v : SV} {ups : List (Nat × Option Chunk)} (h : crun (rputT n 4 x H) = some (v, ups)) : crun (opn (tbl []) Tryz.f38 [x, .int .u64 n, .int .i64 4] H) = some (v, ups) := by
 unfold rputT at h
 split at h
 · rw [p4_a4]; rw [← h]; have := putR_ok n 0 [] 4 [] (by simp); simp only [List.length_nil, List.nil_append, Nat.zero_add] at this; rw [this]
 · rename_i m es
   rw [crun_ite, cond_eq_ite] at h
   split at h
   · rename_i hc
     obtain ⟨rfl, h2⟩ := of_decide_eq_true hc
     rw [p4_b4, putR_ok n 1 _ 4 es (by omega)]; exact h
   · cases h
 · rename_i a b
   rw [p4_c4]; rw [← h]; exact congrArg crun (putR_ok n 1 [(0, none)] 4 [.int .u8 a, .int .u8 b] (by simp))
 · cases h
theorem p4_ok6 {n : Int} {x : SV} {H : HpL} {v : SV} {ups : List (Nat × Option Chunk)} (h : crun (rputT n 6 x H) = some (v, ups)) : crun (opn (tbl []) Tryz.f38 [x, .int .u64 n, .int .i64 6] H) = some (v, ups) := by
 unfold rputT at h
 split at h
 · rw [p4_a6]; rw [← h]; have := putR_ok n 0 [] 6 [] (by simp); simp only [List.length_nil, List.nil_append, Nat.zero_add] at this; rw [this]
 · rename_i m es
   rw [crun_ite, cond_eq_ite] at h
   split at h
   · rename_i hc
     obtain ⟨rfl, h2⟩ := of_decide_eq_true hc
     rw [p4_b6, putR_ok n 1 _ 6 es (by omega)]; exact h
   · cases h
 · rename_i a b
   rw [p4_c6]; rw [← h]; exact congrArg crun (putR_ok n 1 [(0, none)] 6 [.int .u8 a, .int .u8 b] (by simp))
 · cases h
theorem p4_ok8 {n : Int} {x : SV} {H : HpL} {v : SV} {ups : List (Nat × Option Chunk)} (h : crun (rputT n 8 x H) = some (v, ups)) : crun (opn (tbl []) Tryz.f38 [x, .int .u64 n, .int .i64 8] H) = some (v, ups) := by
 unfold rputT at h
 split at h
 · rw [p4_a8]; rw [← h]; have := putR_ok n 0 [] 8 [] (by simp); simp only [List.length_nil, List.nil_append, Nat.zero_add] at this; rw [this]
 · rename_i m es
   rw [crun_ite, cond_eq_ite] at h
   split at h
   · rename_i hc
     obtain ⟨rfl, h2⟩ := of_decide_eq_true hc
     rw [p4_b8, putR_ok n 1 _ 8 es (by omega)]; exact h
   · cases h
 · rename_i a b
   rw [p4_c8]; rw [← h]; exact congrArg crun (putR_ok n 1 [(0, none)] 8 [.int .u8 a, .int .u8 b] (by simp))
 · cases h
theorem p4_k : Known Tryz.prog 38 rput_s := (openKnown ok0 Tryz.func38 rfl).weak (by
 intro args H v ups h
 unfold rput_s at h
 split at h
 · rename_i x n k
   rw [crun_ite, cond_eq_ite] at h
   split at h
   · rename_i hc
     simp only [Bool.or_eq_true, beq_iff_eq] at hc
     obtain (((rfl | rfl) | rfl) | rfl) | rfl := hc
     · exact p4_ok2 h
     · exact p4_ok3 h
     · exact p4_ok4 h
     · exact p4_ok6 h
     · exact p4_ok8 h
   · cases h
 · cases h)
end Go.Proofs.YtdgnhaacdpmclaaGreat
