/- Writers of bytes: numbers of each size, bytes, what is out. -/
import Derived.Test.YtecdpdjcojgajaaGreatPart1
set_option linter.unusedVariables false
set_option linter.unusedSimpArgs false
namespace Go.Proofs.YtecdpdjcojgajaaGreat
open Go.Am
set_option maxRecDepth 100000
def putW (n : Int) (k : Nat) : HpL → CTree
 | [(0, .cells 151 [.nils, .int .i64 lim, .mp 1]), (1, .mpc [] [])] =>
  .ite (decide (0 ≤ n ∧ n < 256 ^ k ∧ (k : Int) ≤ lim ∧ lim ≤ 65536)) (.ret (.int .i64 0) [(0, some (.cells 151 [.qs 2 1 0 k, .int .i64 lim, .mp 1])), (2, some (.seq 5 (be n k)))]) .fail
 | [(0, .cells 151 [.qs 1 1 0 m, .int .i64 lim, .mp 2]), (1, .seq 5 es), (2, .mpc [] [])] =>
  .ite (decide (m = es.length ∧ 0 ≤ n ∧ n < 256 ^ k ∧ ((es.length + k : Nat) : Int) ≤ lim ∧ lim ≤ 65536)) (.ret (.int .i64 0) [(1, none), (0, some (.cells 151 [.qs 3 1 0 (es.length + k), .int .i64 lim, .mp 2])), (3, some (.seq 5 (es ++ be n k)))]) .fail
 | _ => .fail
def wr_s (k : Nat) : CSumm := fun args H => match args with
 | [.ptr 0 0, .int .u64 n] => putW n k H
 | _ => .fail
theorem wrOk : KOk Tryz.prog (tbl [(81, put_s)]) := tbl_cons put_k ok0
theorem u8_a (n lim : Int) : opn (tbl [(81, put_s)]) Tryz.f56 [.ptr 0 0, .int .u64 n] [(0, .cells 151 [.nils, .int .i64 lim, .mp 1]), (1, .mpc [] [])] =
 bif decide (0 ≤ n ∧ n < 256 ^ 1 ∧ ((1 : Nat) : Int) ≤ lim ∧ lim ≤ 65536) then .ret (.int .i64 0) [(0, some (.cells 151 [.qs 2 1 0 1, .int .i64 lim, .mp 1])), (2, some (.seq 5 (be n 1)))] else .fail := by kernel_rfl
theorem u8_b (n lim : Int) (m : Nat) (es : List SV) : opn (tbl [(81, put_s)]) Tryz.f56 [.ptr 0 0, .int .u64 n] [(0, .cells 151 [.qs 1 1 0 m, .int .i64 lim, .mp 2]), (1, .seq 5 es), (2, .mpc [] [])] =
 bif decide (m = es.length ∧ 0 ≤ n ∧ n < 256 ^ 1 ∧ ((es.length + 1 : Nat) : Int) ≤ lim ∧ lim ≤ 65536) then .ret (.int .i64 0) [(1, none), (0, some (.cells 151 [.qs 3 1 0 (es.length + 1), .int .i64 lim, .mp 2])), (3, some (.seq 5 (es ++ be n 1)))] else .fail := by kernel_rfl
theorem u8_k : Known Tryz.prog 56 (wr_s 1) := (openKnown wrOk Tryz.func56 rfl).weak (by
 intro args H v ups h
 unfold wr_s at h
 split at h
 · rename_i n
   unfold putW at h
   split at h
   · rename_i lim
     rw [u8_a, crun_cond]; rw [crun_ite] at h; exact h
   · rename_i m lim es
     rw [u8_b, crun_cond]; rw [crun_ite] at h; exact h
   · cases h
 · cases h)
theorem u16_a (n lim : Int) : opn (tbl [(81, put_s)]) Tryz.f55 [.ptr 0 0, .int .u64 n] [(0, .cells 151 [.nils, .int .i64 lim, .mp 1]), (1, .mpc [] [])] =
 bif decide (0 ≤ n ∧ n < 256 ^ 2 ∧ ((2 : Nat) : Int) ≤ lim ∧ lim ≤ 65536) then .ret (.int .i64 0) [(0, some (.cells 151 [.qs 2 1 0 2, .int .i64 lim, .mp 1])), (2, some (.seq 5 (be n 2)))] else .fail := by kernel_rfl
theorem u16_b (n lim : Int) (m : Nat) (es : List SV) : opn (tbl [(81, put_s)]) Tryz.f55 [.ptr 0 0, .int .u64 n] [(0, .cells 151 [.qs 1 1 0 m, .int .i64 lim, .mp 2]), (1, .seq 5 es), (2, .mpc [] [])] =
 bif decide (m = es.length ∧ 0 ≤ n ∧ n < 256 ^ 2 ∧ ((es.length + 2 : Nat) : Int) ≤ lim ∧ lim ≤ 65536) then .ret (.int .i64 0) [(1, none), (0, some (.cells 151 [.qs 3 1 0 (es.length + 2), .int .i64 lim, .mp 2])), (3, some (.seq 5 (es ++ be n 2)))] else .fail := by kernel_rfl
theorem u16_k : Known Tryz.prog 55 (wr_s 2) := (openKnown wrOk Tryz.func55 rfl).weak (by
 intro args H v ups h
 unfold wr_s at h
 split at h
 · rename_i n
   unfold putW at h
   split at h
   · rename_i lim
     rw [u16_a, crun_cond]; rw [crun_ite] at h; exact h
   · rename_i m lim es
     rw [u16_b, crun_cond]; rw [crun_ite] at h; exact h
   · cases h
 · cases h)
theorem u24_a (n lim : Int) : opn (tbl [(81, put_s)]) Tryz.f134 [.ptr 0 0, .int .u64 n] [(0, .cells 151 [.nils, .int .i64 lim, .mp 1]), (1, .mpc [] [])] =
 bif decide (0 ≤ n ∧ n < 256 ^ 3 ∧ ((3 : Nat) : Int) ≤ lim ∧ lim ≤ 65536) then .ret (.int .i64 0) [(0, some (.cells 151 [.qs 2 1 0 3, .int .i64 lim, .mp 1])), (2, some (.seq 5 (be n 3)))] else .fail := by kernel_rfl
theorem u24_b (n lim : Int) (m : Nat) (es : List SV) : opn (tbl [(81, put_s)]) Tryz.f134 [.ptr 0 0, .int .u64 n] [(0, .cells 151 [.qs 1 1 0 m, .int .i64 lim, .mp 2]), (1, .seq 5 es), (2, .mpc [] [])] =
 bif decide (m = es.length ∧ 0 ≤ n ∧ n < 256 ^ 3 ∧ ((es.length + 3 : Nat) : Int) ≤ lim ∧ lim ≤ 65536) then .ret (.int .i64 0) [(1, none), (0, some (.cells 151 [.qs 3 1 0 (es.length + 3), .int .i64 lim, .mp 2])), (3, some (.seq 5 (es ++ be n 3)))] else .fail := by kernel_rfl
theorem u24_k : Known Tryz.prog 134 (wr_s 3) := (openKnown wrOk Tryz.func134 rfl).weak (by
 intro args H v ups h
 unfold wr_s at h
 split at h
 · rename_i n
   unfold putW at h
   split at h
   · rename_i lim
     rw [u24_a, crun_cond]; rw [crun_ite] at h; exact h
   · rename_i m lim es
     rw [u24_b, crun_cond]; rw [crun_ite] at h; exact h
   · cases h
 · cases h)
theorem u32_a (n lim : Int) : opn (tbl [(81, put_s)]) Tryz.f76 [.ptr 0 0, .int .u64 n] [(0, .cells 151 [.nils, .int .i64 lim, .mp 1]), (1, .mpc [] [])] =
 bif decide (0 ≤ n ∧ n < 256 ^ 4 ∧ ((4 : Nat) : Int) ≤ lim ∧ lim ≤ 65536) then .ret (.int .i64 0) [(0, some (.cells 151 [.qs 2 1 0 4, .int .i64 lim, .mp 1])), (2, some (.seq 5 (be n 4)))] else .fail := by kernel_rfl
theorem u32_b (n lim : Int) (m : Nat) (es : List SV) : opn (tbl [(81, put_s)]) Tryz.f76 [.ptr 0 0, .int .u64 n] [(0, .cells 151 [.qs 1 1 0 m, .int .i64 lim, .mp 2]), (1, .seq 5 es), (2, .mpc [] [])] =
 bif decide (m = es.length ∧ 0 ≤ n ∧ n < 256 ^ 4 ∧ ((es.length + 4 : Nat) : Int) ≤ lim ∧ lim ≤ 65536) then .ret (.int .i64 0) [(1, none), (0, some (.cells 151 [.qs 3 1 0 (es.length + 4), .int .i64 lim, .mp 2])), (3, some (.seq 5 (es ++ be n 4)))] else .fail := by kernel_rfl
theorem u32_k : Known Tryz.prog 76 (wr_s 4) := (openKnown wrOk Tryz.func76 rfl).weak (by
 intro args H v ups h
 unfold wr_s at h
 split at h
 · rename_i n
   unfold putW at h
   split at h
   · rename_i lim
     rw [u32_a, crun_cond]; rw [crun_ite] at h; exact h
   · rename_i m lim es
     rw [u32_b, crun_cond]; rw [crun_ite] at h; exact h
   · cases h
 · cases h)
theorem u64_a (n lim : Int) : opn (tbl [(81, put_s)]) Tryz.f155 [.ptr 0 0, .int .u64 n] [(0, .cells 151 [.nils, .int .i64 lim, .mp 1]), (1, .mpc [] [])] =
 bif decide (0 ≤ n ∧ n < 256 ^ 8 ∧ ((8 : Nat) : Int) ≤ lim ∧ lim ≤ 65536) then .ret (.int .i64 0) [(0, some (.cells 151 [.qs 2 1 0 8, .int .i64 lim, .mp 1])), (2, some (.seq 5 (be n 8)))] else .fail := by kernel_rfl
theorem u64_b (n lim : Int) (m : Nat) (es : List SV) : opn (tbl [(81, put_s)]) Tryz.f155 [.ptr 0 0, .int .u64 n] [(0, .cells 151 [.qs 1 1 0 m, .int .i64 lim, .mp 2]), (1, .seq 5 es), (2, .mpc [] [])] =
 bif decide (m = es.length ∧ 0 ≤ n ∧ n < 256 ^ 8 ∧ ((es.length + 8 : Nat) : Int) ≤ lim ∧ lim ≤ 65536) then .ret (.int .i64 0) [(1, none), (0, some (.cells 151 [.qs 3 1 0 (es.length + 8), .int .i64 lim, .mp 2])), (3, some (.seq 5 (es ++ be n 8)))] else .fail := by kernel_rfl
theorem u64_k : Known Tryz.prog 155 (wr_s 8) := (openKnown wrOk Tryz.func155 rfl).weak (by
 intro args H v ups h
 unfold wr_s at h
 split at h
 · rename_i n
   unfold putW at h
   split at h
   · rename_i lim
     rw [u64_a, crun_cond]; rw [crun_ite] at h; exact h
   · rename_i m lim es
     rw [u64_b, crun_cond]; rw [crun_ite] at h; exact h
   · cases h
 · cases h)
def addA (lim : Int) (nw mp : Nat) (xs : List SV) : CTree :=
 .ite (decide ((xs.length : Int) ≤ lim ∧ lim ≤ 65536)) (.ret (.int .i64 0) [(0, some (.cells 151 [.qs nw 1 0 xs.length, .int .i64 lim, .mp mp])), (nw, some (.seq 5 xs))]) .fail
def addB (lim : Int) (m old nw mp : Nat) (es xs : List SV) : CTree :=
 .ite (decide (m = es.length ∧ ((es.length + xs.length : Nat) : Int) ≤ lim ∧ lim ≤ 65536)) (.ret (.int .i64 0) [(0, some (.cells 151 [.qs nw 1 0 (es.length + xs.length), .int .i64 lim, .mp mp])), (old, none), (nw, some (.seq 5 (es ++ xs)))]) .fail
def byN : HpL → CTree
 | [(0, .cells 151 [.nils, .int .i64 lim, .mp 1]), (1, .mpc [] [])] => addA lim 2 1 []
 | [(0, .cells 151 [.qs 1 1 0 m, .int .i64 lim, .mp 2]), (1, .seq 5 es), (2, .mpc [] [])] => addB lim m 1 3 2 es []
 | _ => .fail
def byP (xs : List SV) : HpL → CTree
 | [(0, .cells 151 [.nils, .int .i64 lim, .mp 1]), (1, .mpc [] [])] => addA lim 2 1 xs
 | [(0, .cells 151 [.qs 1 1 0 m, .int .i64 lim, .mp 2]), (1, .seq 5 es), (2, .mpc [] [])] => addB lim m 1 3 2 es xs
 | _ => .fail
def byQA (k : Nat) : HpL → CTree
 | [(0, .cells 151 [.nils, .int .i64 lim, .mp 1]), (1, .mpc [] []), (2, .seq 5 xs)] => .ite (decide (k = xs.length)) (addA lim 3 1 xs) .fail
 | _ => .fail
def byQB (k : Nat) : HpL → CTree
 | [(0, .cells 151 [.qs 1 1 0 m, .int .i64 lim, .mp 2]), (1, .seq 5 es), (2, .mpc [] []), (3, .seq 5 xs)] => .ite (decide (k = xs.length)) (addB lim m 1 4 2 es xs) .fail
 | _ => .fail
def byE : HpL → CTree
 | [(0, .cells 151 [.qs 1 1 0 m, .int .i64 lim, .mp 2]), (1, .seq 5 es), (2, .mpc [] []), (3, .cells 32 [.int .i64 kind, .int .u64 rd, .int .u8 e0, .int .u8 e1, .int .u8 e2, .int .u8 e3, .int .u8 e4, .int .u8 e5, .int .u8 e6, .int .u8 e7, .int .u8 e8, .int .u8 e9, .int .u32 tag, .int .u64 mac, .int .u32 ip, .bool hip, .int .u32 pip, .int .i64 plen, .int .u32 gw, .int .u32 lab, .int .u32 lab2])] => addB lim m 1 4 2 es [.int .u8 e0, .int .u8 e1, .int .u8 e2, .int .u8 e3, .int .u8 e4, .int .u8 e5, .int .u8 e6, .int .u8 e7, .int .u8 e8, .int .u8 e9]
 | _ => .fail
def byCA : HpL → CTree
 | [(0, .cells 151 [.nils, .int .i64 lim, .mp 1]), (1, .mpc [] []), (2, .cells 80 [.int .u8 c0, .int .u8 c1, .int .u8 c2, .int .u8 c3, .int .u8 c4, .int .u8 c5, .int .u8 c6, .int .u8 c7])] => addA lim 3 1 [.int .u8 c0, .int .u8 c1, .int .u8 c2, .int .u8 c3, .int .u8 c4, .int .u8 c5, .int .u8 c6, .int .u8 c7]
 | _ => .fail
def byCB : HpL → CTree
 | [(0, .cells 151 [.qs 1 1 0 m, .int .i64 lim, .mp 2]), (1, .seq 5 es), (2, .mpc [] []), (3, .cells 80 [.int .u8 c0, .int .u8 c1, .int .u8 c2, .int .u8 c3, .int .u8 c4, .int .u8 c5, .int .u8 c6, .int .u8 c7])] => addB lim m 1 4 2 es [.int .u8 c0, .int .u8 c1, .int .u8 c2, .int .u8 c3, .int .u8 c4, .int .u8 c5, .int .u8 c6, .int .u8 c7]
 | _ => .fail
def bytes_s : CSumm := fun args H => match args with
 | [.ptr 0 0, .nils] => byN H
 | [.ptr 0 0, .psl 5 xs] => byP xs H
 | [.ptr 0 0, .qs 2 1 0 k] => byQA k H
 | [.ptr 0 0, .qs 3 1 0 k] => byQB k H
 | [.ptr 0 0, .sl 3 1 2 10] => byE H
 | [.ptr 0 0, .sl 2 1 0 8] => byCA H
 | [.ptr 0 0, .sl 3 1 0 8] => byCB H
 | _ => .fail
theorem by_1 (lim : Int) : opn (tbl []) Tryz.f53 [.ptr 0 0, .nils] [(0, .cells 151 [.nils, .int .i64 lim, .mp 1]), (1, .mpc [] [])] =
 bif decide (IntKind.i64.wrap (lim - 0) < 0) then .ret (.int .i64 7) [] else (.ret (.int .i64 0) [(0, some (.cells 151 [.qs 2 1 0 0, .int .i64 lim, .mp 1])), (2, some (.seq 5 []))]) := by kernel_rfl
theorem by_2 (lim : Int) (m : Nat) (es : List SV) : opn (tbl []) Tryz.f53 [.ptr 0 0, .nils] [(0, .cells 151 [.qs 1 1 0 m, .int .i64 lim, .mp 2]), (1, .seq 5 es), (2, .mpc [] [])] =
 bif decide (IntKind.i64.wrap (lim - (m : Int)) < 0) then .ret (.int .i64 7) [] else bif decide (m = es.length) then (bif decide (es.length + 0 ≤ 9223372036854775807) && decide ((es.length + 0) * 1 ≤ 140737488355328) then .ret (.int .i64 0) [(0, some (.cells 151 [.qs 3 1 0 (es.length + 0), .int .i64 lim, .mp 2])), (1, none), (3, some (.seq 5 (es ++ [])))] else .fail) else .fail := by kernel_rfl
theorem by_3 (lim : Int) (xs : List SV) : opn (tbl []) Tryz.f53 [.ptr 0 0, .psl 5 xs] [(0, .cells 151 [.nils, .int .i64 lim, .mp 1]), (1, .mpc [] [])] =
 bif decide (IntKind.i64.wrap (lim - 0) < (xs.length : Int)) then .ret (.int .i64 7) [] else (bif decide (0 + xs.length ≤ 9223372036854775807) && decide ((0 + xs.length) * 1 ≤ 140737488355328) then .ret (.int .i64 0) [(0, some (.cells 151 [.qs 2 1 0 (0 + xs.length), .int .i64 lim, .mp 1])), (2, some (.seq 5 (xs)))] else .fail) := by kernel_rfl
theorem by_4 (lim : Int) (m : Nat) (es xs : List SV) : opn (tbl []) Tryz.f53 [.ptr 0 0, .psl 5 xs] [(0, .cells 151 [.qs 1 1 0 m, .int .i64 lim, .mp 2]), (1, .seq 5 es), (2, .mpc [] [])] =
 bif decide (IntKind.i64.wrap (lim - (m : Int)) < (xs.length : Int)) then .ret (.int .i64 7) [] else bif decide (m = es.length) then (bif decide (es.length + xs.length ≤ 9223372036854775807) && decide ((es.length + xs.length) * 1 ≤ 140737488355328) then .ret (.int .i64 0) [(0, some (.cells 151 [.qs 3 1 0 (es.length + xs.length), .int .i64 lim, .mp 2])), (1, none), (3, some (.seq 5 (es ++ xs)))] else .fail) else .fail := by kernel_rfl
theorem by_5 (lim : Int) (k : Nat) (xs : List SV) : opn (tbl []) Tryz.f53 [.ptr 0 0, .qs 2 1 0 k] [(0, .cells 151 [.nils, .int .i64 lim, .mp 1]), (1, .mpc [] []), (2, .seq 5 xs)] =
 bif decide (IntKind.i64.wrap (lim - 0) < (k : Int)) then .ret (.int .i64 7) [] else bif decide (k = xs.length) then (bif decide (0 + xs.length ≤ 9223372036854775807) && decide ((0 + xs.length) * 1 ≤ 140737488355328) then .ret (.int .i64 0) [(0, some (.cells 151 [.qs 3 1 0 (0 + xs.length), .int .i64 lim, .mp 1])), (3, some (.seq 5 (xs)))] else .fail) else bif decide (0 + k ≤ xs.length) then (bif decide (0 + ((xs.drop 0).take k).length ≤ 9223372036854775807) && decide ((0 + ((xs.drop 0).take k).length) * 1 ≤ 140737488355328) then .ret (.int .i64 0) [(0, some (.cells 151 [.qs 3 1 0 (0 + ((xs.drop 0).take k).length), .int .i64 lim, .mp 1])), (3, some (.seq 5 (((xs.drop 0).take k))))] else .fail) else .fail := by kernel_rfl
theorem by_6 (lim : Int) (m : Nat) (es : List SV) (k : Nat) (xs : List SV) : opn (tbl []) Tryz.f53 [.ptr 0 0, .qs 3 1 0 k] [(0, .cells 151 [.qs 1 1 0 m, .int .i64 lim, .mp 2]), (1, .seq 5 es), (2, .mpc [] []), (3, .seq 5 xs)] =
 bif decide (IntKind.i64.wrap (lim - (m : Int)) < (k : Int)) then .ret (.int .i64 7) [] else bif decide (m = es.length) then (bif decide (k = xs.length) then (bif decide (es.length + xs.length ≤ 9223372036854775807) && decide ((es.length + xs.length) * 1 ≤ 140737488355328) then .ret (.int .i64 0) [(0, some (.cells 151 [.qs 4 1 0 (es.length + xs.length), .int .i64 lim, .mp 2])), (1, none), (4, some (.seq 5 (es ++ xs)))] else .fail) else bif decide (0 + k ≤ xs.length) then (bif decide (es.length + ((xs.drop 0).take k).length ≤ 9223372036854775807) && decide ((es.length + ((xs.drop 0).take k).length) * 1 ≤ 140737488355328) then .ret (.int .i64 0) [(0, some (.cells 151 [.qs 4 1 0 (es.length + ((xs.drop 0).take k).length), .int .i64 lim, .mp 2])), (1, none), (4, some (.seq 5 (es ++ ((xs.drop 0).take k))))] else .fail) else .fail) else .fail := by kernel_rfl
theorem by_7 (lim : Int) (m : Nat) (es : List SV) (kind rd e0 e1 e2 e3 e4 e5 e6 e7 e8 e9 tag mac ip : Int) (hip : Bool) (pip plen gw lab lab2 : Int) : opn (tbl []) Tryz.f53 [.ptr 0 0, .sl 3 1 2 10] [(0, .cells 151 [.qs 1 1 0 m, .int .i64 lim, .mp 2]), (1, .seq 5 es), (2, .mpc [] []), (3, .cells 32 [.int .i64 kind, .int .u64 rd, .int .u8 e0, .int .u8 e1, .int .u8 e2, .int .u8 e3, .int .u8 e4, .int .u8 e5, .int .u8 e6, .int .u8 e7, .int .u8 e8, .int .u8 e9, .int .u32 tag, .int .u64 mac, .int .u32 ip, .bool hip, .int .u32 pip, .int .i64 plen, .int .u32 gw, .int .u32 lab, .int .u32 lab2])] =
 bif decide (IntKind.i64.wrap (lim - (m : Int)) < 10) then .ret (.int .i64 7) [] else bif decide (m = es.length) then (bif decide (es.length + 10 ≤ 9223372036854775807) && decide ((es.length + 10) * 1 ≤ 140737488355328) then .ret (.int .i64 0) [(0, some (.cells 151 [.qs 4 1 0 (es.length + 10), .int .i64 lim, .mp 2])), (1, none), (4, some (.seq 5 (es ++ [.int .u8 e0, .int .u8 e1, .int .u8 e2, .int .u8 e3, .int .u8 e4, .int .u8 e5, .int .u8 e6, .int .u8 e7, .int .u8 e8, .int .u8 e9])))] else .fail) else .fail := by kernel_rfl
theorem by_8 (lim : Int) (c0 c1 c2 c3 c4 c5 c6 c7 : Int) : opn (tbl []) Tryz.f53 [.ptr 0 0, .sl 2 1 0 8] [(0, .cells 151 [.nils, .int .i64 lim, .mp 1]), (1, .mpc [] []), (2, .cells 80 [.int .u8 c0, .int .u8 c1, .int .u8 c2, .int .u8 c3, .int .u8 c4, .int .u8 c5, .int .u8 c6, .int .u8 c7])] =
 bif decide (IntKind.i64.wrap (lim - 0) < 8) then .ret (.int .i64 7) [] else (.ret (.int .i64 0) [(0, some (.cells 151 [.qs 3 1 0 8, .int .i64 lim, .mp 1])), (3, some (.seq 5 [.int .u8 c0, .int .u8 c1, .int .u8 c2, .int .u8 c3, .int .u8 c4, .int .u8 c5, .int .u8 c6, .int .u8 c7]))]) := by kernel_rfl
theorem by_9 (lim : Int) (m : Nat) (es : List SV) (c0 c1 c2 c3 c4 c5 c6 c7 : Int) : opn (tbl []) Tryz.f53 [.ptr 0 0, .sl 3 1 0 8] [(0, .cells 151 [.qs 1 1 0 m, .int .i64 lim, .mp 2]), (1, .seq 5 es), (2, .mpc [] []), (3, .cells 80 [.int .u8 c0, .int .u8 c1, .int .u8 c2, .int .u8 c3, .int .u8 c4, .int .u8 c5, .int .u8 c6, .int .u8 c7])] =
 bif decide (IntKind.i64.wrap (lim - (m : Int)) < 8) then .ret (.int .i64 7) [] else bif decide (m = es.length) then (bif decide (es.length + 8 ≤ 9223372036854775807) && decide ((es.length + 8) * 1 ≤ 140737488355328) then .ret (.int .i64 0) [(0, some (.cells 151 [.qs 4 1 0 (es.length + 8), .int .i64 lim, .mp 2])), (1, none), (4, some (.seq 5 (es ++ [.int .u8 c0, .int .u8 c1, .int .u8 c2, .int .u8 c3, .int .u8 c4, .int .u8 c5, .int .u8 c6, .int .u8 c7])))] else .fail) else .fail := by kernel_rfl
theorem byN_ok  (H : HpL) (v : SV) (ups : List (Nat × Option Chunk)) (h : crun (byN H) = some (v, ups)) : crun (opn (tbl []) Tryz.f53 [.ptr 0 0, .nils] H) = some (v, ups) := by
 unfold byN at h
 split at h
 · rename_i lim
   simp only [addA, crun_ite, cond_eq_ite] at h
   split at h
   · rename_i hc
     obtain ⟨h2, h3⟩ := of_decide_eq_true hc
     try simp only [List.length_nil] at h2
     rw [by_1, w64_id (by omega) (by omega), decide_eq_false (by omega)]
     exact h
   · cases h
 · rename_i m lim es
   simp only [addB, crun_ite, cond_eq_ite] at h
   split at h
   · rename_i hc
     obtain ⟨hm, h2, h3⟩ := of_decide_eq_true hc
     try simp only [List.length_nil] at h2
     rw [by_2, w64_id (by omega) (by omega), decide_eq_false (by omega), decide_eq_true hm, decide_eq_true (by omega), decide_eq_true (by omega)]
     exact h
   · cases h
 · cases h
theorem byP_ok (xs : List SV) (H : HpL) (v : SV) (ups : List (Nat × Option Chunk)) (h : crun (byP xs H) = some (v, ups)) : crun (opn (tbl []) Tryz.f53 [.ptr 0 0, .psl 5 xs] H) = some (v, ups) := by
 unfold byP at h
 split at h
 · rename_i lim
   simp only [addA, crun_ite, cond_eq_ite] at h
   split at h
   · rename_i hc
     obtain ⟨h2, h3⟩ := of_decide_eq_true hc
     try simp only [List.length_cons, List.length_nil] at h2
     rw [by_3, w64_id (by omega) (by omega), decide_eq_false (by omega), decide_eq_true (by omega), decide_eq_true (by omega)]
     simpa using h
   · cases h
 · rename_i m lim es
   simp only [addB, crun_ite, cond_eq_ite] at h
   split at h
   · rename_i hc
     obtain ⟨hm, h2, h3⟩ := of_decide_eq_true hc
     try simp only [List.length_cons, List.length_nil] at h2
     rw [by_4, w64_id (by omega) (by omega), decide_eq_false (by omega), decide_eq_true hm, decide_eq_true (by omega), decide_eq_true (by omega)]
     exact h
   · cases h
 · cases h
theorem byQA_ok (k : Nat) (H : HpL) (v : SV) (ups : List (Nat × Option Chunk)) (h : crun (byQA k H) = some (v, ups)) : crun (opn (tbl []) Tryz.f53 [.ptr 0 0, .qs 2 1 0 k] H) = some (v, ups) := by
 unfold byQA at h
 split at h
 · rename_i lim xs
   rw [crun_ite, cond_eq_ite] at h
   split at h
   · rename_i hk
     have hk := of_decide_eq_true hk
     subst hk
     simp only [addA, crun_ite, cond_eq_ite] at h
     split at h
     · rename_i hc
       obtain ⟨h2, h3⟩ := of_decide_eq_true hc
       try simp only [List.length_cons, List.length_nil] at h2
       rw [by_5, w64_id (by omega) (by omega), decide_eq_false (by omega), decide_eq_true rfl, decide_eq_true (by omega), decide_eq_true (by omega)]
       simpa using h
     · cases h
   · cases h
 · cases h
theorem byQB_ok (k : Nat) (H : HpL) (v : SV) (ups : List (Nat × Option Chunk)) (h : crun (byQB k H) = some (v, ups)) : crun (opn (tbl []) Tryz.f53 [.ptr 0 0, .qs 3 1 0 k] H) = some (v, ups) := by
 unfold byQB at h
 split at h
 · rename_i m lim es xs
   rw [crun_ite, cond_eq_ite] at h
   split at h
   · rename_i hk
     have hk := of_decide_eq_true hk
     subst hk
     simp only [addB, crun_ite, cond_eq_ite] at h
     split at h
     · rename_i hc
       obtain ⟨hm, h2, h3⟩ := of_decide_eq_true hc
       try simp only [List.length_cons, List.length_nil] at h2
       rw [by_6, w64_id (by omega) (by omega), decide_eq_false (by omega), decide_eq_true hm, decide_eq_true rfl, decide_eq_true (by omega), decide_eq_true (by omega)]
       exact h
     · cases h
   · cases h
 · cases h
theorem byE_ok  (H : HpL) (v : SV) (ups : List (Nat × Option Chunk)) (h : crun (byE H) = some (v, ups)) : crun (opn (tbl []) Tryz.f53 [.ptr 0 0, .sl 3 1 2 10] H) = some (v, ups) := by
 unfold byE at h
 split at h
 · rename_i m lim es kind rd e0 e1 e2 e3 e4 e5 e6 e7 e8 e9 tag mac ip hip pip plen gw lab lab2
   simp only [addB, crun_ite, cond_eq_ite] at h
   split at h
   · rename_i hc
     obtain ⟨hm, h2, h3⟩ := of_decide_eq_true hc
     try simp only [List.length_cons, List.length_nil] at h2
     rw [by_7, w64_id (by omega) (by omega), decide_eq_false (by omega), decide_eq_true hm, decide_eq_true (by omega), decide_eq_true (by omega)]
     exact h
   · cases h
 · cases h
theorem byCA_ok  (H : HpL) (v : SV) (ups : List (Nat × Option Chunk)) (h : crun (byCA H) = some (v, ups)) : crun (opn (tbl []) Tryz.f53 [.ptr 0 0, .sl 2 1 0 8] H) = some (v, ups) := by
 unfold byCA at h
 split at h
 · rename_i lim c0 c1 c2 c3 c4 c5 c6 c7
   simp only [addA, crun_ite, cond_eq_ite] at h
   split at h
   · rename_i hc
     obtain ⟨h2, h3⟩ := of_decide_eq_true hc
     try simp only [List.length_cons, List.length_nil] at h2
     rw [by_8, w64_id (by omega) (by omega), decide_eq_false (by omega)]
     exact h
   · cases h
 · cases h
theorem byCB_ok  (H : HpL) (v : SV) (ups : List (Nat × Option Chunk)) (h : crun (byCB H) = some (v, ups)) : crun (opn (tbl []) Tryz.f53 [.ptr 0 0, .sl 3 1 0 8] H) = some (v, ups) := by
 unfold byCB at h
 split at h
 · rename_i m lim es c0 c1 c2 c3 c4 c5 c6 c7
   simp only [addB, crun_ite, cond_eq_ite] at h
   split at h
   · rename_i hc
     obtain ⟨hm, h2, h3⟩ := of_decide_eq_true hc
     try simp only [List.length_cons, List.length_nil] at h2
     rw [by_9, w64_id (by omega) (by omega), decide_eq_false (by omega), decide_eq_true hm, decide_eq_true (by omega), decide_eq_true (by omega)]
     exact h
   · cases h
 · cases h
theorem bytes_k : Known Tryz.prog 53 bytes_s := (openKnown ok0 Tryz.func53 rfl).weak (by
 intro args H v ups h
 unfold bytes_s at h
 split at h
 · exact byN_ok H v ups h
 · exact byP_ok _ H v ups h
 · exact byQA_ok _ H v ups h
 · exact byQB_ok _ H v ups h
 · exact byE_ok H v ups h
 · exact byCA_ok H v ups h
 · exact byCB_ok H v ups h
 · cases h)
def out_s : CSumm := fun args H => match args, H with
 | [.ptr 0 0], [(0, .cells 151 [.nils, .int .i64 lim, .mp 1]), (1, .mpc [] [])] => .ret (.qs 2 1 0 0) [(2, some (.seq 5 []))]
 | [.ptr 0 0], [(0, .cells 151 [.qs 1 1 0 k, .int .i64 lim, .mp 2]), (1, .seq 5 xs), (2, .mpc [] [])] => .ite (decide (k = xs.length ∧ xs.length ≤ 65536)) (.ret (.qs 3 1 0 xs.length) [(3, some (.seq 5 xs))]) .fail
 | _, _ => .fail
theorem out_1 (lim : Int) (k : Nat) (xs : List SV) : opn (tbl []) Tryz.f57 [.ptr 0 0] [(0, .cells 151 [.qs 1 1 0 k, .int .i64 lim, .mp 2]), (1, .seq 5 xs), (2, .mpc [] [])] =
 bif decide (k = xs.length) then (bif decide (0 + xs.length ≤ 9223372036854775807) && decide ((0 + xs.length) * 1 ≤ 140737488355328) then .ret (.qs 3 1 0 (0 + xs.length)) [(3, some (.seq 5 xs))] else .fail)
 else bif decide (0 + k ≤ xs.length) then (bif decide (0 + ((xs.drop 0).take k).length ≤ 9223372036854775807) && decide ((0 + ((xs.drop 0).take k).length) * 1 ≤ 140737488355328) then .ret (.qs 3 1 0 (0 + ((xs.drop 0).take k).length)) [(3, some (.seq 5 ((xs.drop 0).take k)))] else .fail) else .fail := by kernel_rfl
theorem out_2 (lim : Int) : opn (tbl []) Tryz.f57 [.ptr 0 0] [(0, .cells 151 [.nils, .int .i64 lim, .mp 1]), (1, .mpc [] [])] = .ret (.qs 2 1 0 0) [(2, some (.seq 5 []))] := by kernel_rfl
theorem out_k : Known Tryz.prog 57 out_s := (openKnown ok0 Tryz.func57 rfl).weak (by
 intro args H v ups h
 unfold out_s at h
 split at h
 · rename_i lim
   rw [out_2]; exact h
 · rename_i k lim xs
   simp only [crun_ite, cond_eq_ite] at h
   split at h
   · rename_i hc
     obtain ⟨rfl, h2⟩ := of_decide_eq_true hc
     rw [out_1, decide_eq_true rfl, decide_eq_true (by omega), decide_eq_true (by omega)]
     simpa using h
   · cases h
 · cases h)
end Go.Proofs.YtecdpdjcojgajaaGreat
/- Copies of lists, in each shape they come in. -/
namespace Go.Proofs.YtecdpdjcojgajaaGreat
open Go.Am
set_option maxRecDepth 100000
theorem bytes26 : Tryz.prog.types[26].bytes = 4 := by kernel_rfl
theorem bytes28 : Tryz.prog.types[28].bytes = 4 := by kernel_rfl
theorem bytes80 : Tryz.prog.types[80].bytes = 8 := by kernel_rfl
theorem grow_run {b n : Nat} {es : List SV} {v : SV} {u : List (Nat × Option Chunk)} {t : CTree} (h : bndE b es = true) (ht : t = bif decide (0 + es.length ≤ 9223372036854775807) && decide ((0 + es.length) * n ≤ 140737488355328) then .ret v u else .fail) (hb : n = b) : crun t = some (v, u) := by
 subst hb
 rw [ht]
 unfold bndE at h
 rw [Nat.zero_add, h]
 rfl
noncomputable abbrev b0 (fn : Func) : CSumm := bodyS Tryz.prog (tbl []) fn
theorem valid0 {f : FuncId} {fn : Func} (hf : Tryz.prog.funcs[f]? = some fn) : ValidC Tryz.prog f (b0 fn) := body_valid ok0 mixTry hf
theorem cl31_k : Known Tryz.prog 31 (cloneS 26 4) := known_clone (sz := 1) noNumTry mixTry Tryz.func31 rfl (valid0 Tryz.func31) (by
 have h : b0 Tryz.f31 [.nils] [] = .ret .nils [] := by kernel_rfl
 rw [h]; rfl) (fun es h => grow_run h (by kernel_rfl) bytes26)
theorem cl32_k : Known Tryz.prog 32 (cloneS 28 4) := known_clone (sz := 1) noNumTry mixTry Tryz.func32 rfl (valid0 Tryz.func32) (by
 have h : b0 Tryz.f32 [.nils] [] = .ret .nils [] := by kernel_rfl
 rw [h]; rfl) (fun es h => grow_run h (by kernel_rfl) bytes28)
theorem cl33_k : Known Tryz.prog 33 (cloneS 80 8) := known_clone (sz := 8) noNumTry mixTry Tryz.func33 rfl (valid0 Tryz.func33) (by
 have h : b0 Tryz.f33 [.nils] [] = .ret .nils [] := by kernel_rfl
 rw [h]; rfl) (fun es h => grow_run h (by kernel_rfl) bytes80)
def orS (p : List SV → Bool) (a b : CSumm) : CSumm := fun args H => bif p args then a args H else b args H
theorem known_orS {f : FuncId} {p : List SV → Bool} {a b : CSumm} (ha : Known Tryz.prog f a) (hb : Known Tryz.prog f b) : Known Tryz.prog f (orS p a b) := by
 refine ⟨ha.fn, ?_⟩
 intro args H v ups h
 unfold orS at h
 cases hp : p args with
 | true => rw [hp] at h; exact ha.ok args H v ups h
 | false => rw [hp] at h; exact hb.ok args H v ups h
def isPsl : List SV → Bool
 | [.psl _ _] => true
 | _ => false
noncomputable def c31 : CSumm := orS isPsl (cloneS 26 4) (b0 Tryz.f31)
noncomputable def c32 : CSumm := orS isPsl (cloneS 28 4) (b0 Tryz.f32)
noncomputable def c33 : CSumm := orS isPsl (cloneS 80 8) (b0 Tryz.f33)
theorem kb0 {f : FuncId} {fn : Func} (hf : Tryz.prog.funcs[f]? = some fn) (hb : fn.body.isNone = false) : Known Tryz.prog f (b0 fn) := ⟨⟨fn, hf, noNum_at noNumTry hf, hb⟩, valid0 hf⟩
theorem c31_k : Known Tryz.prog 31 c31 := known_orS cl31_k (kb0 Tryz.func31 rfl)
theorem c32_k : Known Tryz.prog 32 c32 := known_orS cl32_k (kb0 Tryz.func32 rfl)
theorem c33_k : Known Tryz.prog 33 c33 := known_orS cl33_k (kb0 Tryz.func33 rfl)
end Go.Proofs.YtecdpdjcojgajaaGreat
