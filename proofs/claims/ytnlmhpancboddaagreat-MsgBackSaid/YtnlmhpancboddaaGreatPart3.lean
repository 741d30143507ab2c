/- Writers of bytes: numbers of each size, bytes, what is out. -/
import Derived.Test.YtnlmhpancboddaaGreatPart2
set_option linter.unusedVariables false
set_option linter.unusedSimpArgs false
namespace Go.Proofs.YtnlmhpancboddaaGreat
open Go.Am
set_option maxRecDepth 100000
def wP(n:Int)(k:Nat):HpL->CTree
 | [(0,.cells 111 [.nils,.int .i64 lim,.mp 1]),(1,.mpc [] [])]=>
  .ite (decide (0<=n/\n < 256 ^ k/\(k:Int)<=lim/\lim<=65536)) (.ret (.int .i64 0) [(0,some (.cells 111 [.qs 2 1 0 k,.int .i64 lim,.mp 1])),(2,some (.seq 5 (be n k)))]) .fail
 | [(0,.cells 111 [.qs 1 1 0 m,.int .i64 lim,.mp 2]),(1,.seq 5 es),(2,.mpc [] [])]=>
  .ite (decide (m=es.length/\0<=n/\n < 256 ^ k/\((es.length+k:Nat):Int)<=lim/\lim<=65536)) (.ret (.int .i64 0) [(1,none),(0,some (.cells 111 [.qs 3 1 0 (es.length+k),.int .i64 lim,.mp 2])),(3,some (.seq 5 (es++be n k)))]) .fail
 | _=>.fail
def dA(k:Nat):ag:=fun args H=>match args with
 | [.ptr 0 0,.int .u64 n]=>wP n k H
 | _=>.fail
theorem zS:KOk Tryz.prog (tbl [(46,gb)]):=ac LK ok0
theorem NC(n lim:Int):opn (tbl [(46,gb)]) Tryz.f27 [.ptr 0 0,.int .u64 n] [(0,.cells 111 [.nils,.int .i64 lim,.mp 1]),(1,.mpc [] [])]=
 bif decide (0<=n/\n < 256 ^ 1/\((1:Nat):Int)<=lim/\lim<=65536)then .ret (.int .i64 0) [(0,some (.cells 111 [.qs 2 1 0 1,.int .i64 lim,.mp 1])),(2,some (.seq 5 (be n 1)))]else .fail:=by kernel_rfl
theorem ND(n lim:Int)(m:Nat)(es:List SV):opn (tbl [(46,gb)]) Tryz.f27 [.ptr 0 0,.int .u64 n] [(0,.cells 111 [.qs 1 1 0 m,.int .i64 lim,.mp 2]),(1,.seq 5 es),(2,.mpc [] [])]=
 bif decide (m=es.length/\0<=n/\n < 256 ^ 1/\((es.length+1:Nat):Int)<=lim/\lim<=65536)then .ret (.int .i64 0) [(1,none),(0,some (.cells 111 [.qs 3 1 0 (es.length+1),.int .i64 lim,.mp 2])),(3,some (.seq 5 (es++be n 1)))]else .fail:=by kernel_rfl
theorem EL  :Known Tryz.prog 27 (dA   1):=(aj        zS   Tryz.func27 rfl).weak (by
 intro args H v ups h
 unfold dA at h
 split at h
 . rename_i n
   unfold wP at h
   split at h
   . rename_i lim
     rw[NC,bu];rw[aa]at h;exact h
   . rename_i m lim es
     rw[ND,bu];rw[aa]at h;exact h
   . cases h
 . cases h)
theorem Lw(n lim:Int):opn (tbl [(46,gb)]) Tryz.f26 [.ptr 0 0,.int .u64 n] [(0,.cells 111 [.nils,.int .i64 lim,.mp 1]),(1,.mpc [] [])]=
 bif decide (0<=n/\n < 256 ^ 2/\((2:Nat):Int)<=lim/\lim<=65536)then .ret (.int .i64 0) [(0,some (.cells 111 [.qs 2 1 0 2,.int .i64 lim,.mp 1])),(2,some (.seq 5 (be n 2)))]else .fail:=by kernel_rfl
theorem Lx(n lim:Int)(m:Nat)(es:List SV):opn (tbl [(46,gb)]) Tryz.f26 [.ptr 0 0,.int .u64 n] [(0,.cells 111 [.qs 1 1 0 m,.int .i64 lim,.mp 2]),(1,.seq 5 es),(2,.mpc [] [])]=
 bif decide (m=es.length/\0<=n/\n < 256 ^ 2/\((es.length+2:Nat):Int)<=lim/\lim<=65536)then .ret (.int .i64 0) [(1,none),(0,some (.cells 111 [.qs 3 1 0 (es.length+2),.int .i64 lim,.mp 2])),(3,some (.seq 5 (es++be n 2)))]else .fail:=by kernel_rfl
theorem ya   :Known Tryz.prog 26 (dA   2):=(aj        zS   Tryz.func26 rfl).weak (by
 intro args H v ups h
 unfold dA at h
 split at h
 . rename_i n
   unfold wP at h
   split at h
   . rename_i lim
     rw[Lw,bu];rw[aa]at h;exact h
   . rename_i m lim es
     rw[Lx,bu];rw[aa]at h;exact h
   . cases h
 . cases h)
theorem Ly(n lim:Int):opn (tbl [(46,gb)]) Tryz.f108 [.ptr 0 0,.int .u64 n] [(0,.cells 111 [.nils,.int .i64 lim,.mp 1]),(1,.mpc [] [])]=
 bif decide (0<=n/\n < 256 ^ 3/\((3:Nat):Int)<=lim/\lim<=65536)then .ret (.int .i64 0) [(0,some (.cells 111 [.qs 2 1 0 3,.int .i64 lim,.mp 1])),(2,some (.seq 5 (be n 3)))]else .fail:=by kernel_rfl
theorem Lz(n lim:Int)(m:Nat)(es:List SV):opn (tbl [(46,gb)]) Tryz.f108 [.ptr 0 0,.int .u64 n] [(0,.cells 111 [.qs 1 1 0 m,.int .i64 lim,.mp 2]),(1,.seq 5 es),(2,.mpc [] [])]=
 bif decide (m=es.length/\0<=n/\n < 256 ^ 3/\((es.length+3:Nat):Int)<=lim/\lim<=65536)then .ret (.int .i64 0) [(1,none),(0,some (.cells 111 [.qs 3 1 0 (es.length+3),.int .i64 lim,.mp 2])),(3,some (.seq 5 (es++be n 3)))]else .fail:=by kernel_rfl
theorem Hp   :Known Tryz.prog 108 (dA   3):=(aj        zS   Tryz.func108 rfl).weak (by
 intro args H v ups h
 unfold dA at h
 split at h
 . rename_i n
   unfold wP at h
   split at h
   . rename_i lim
     rw[Ly,bu];rw[aa]at h;exact h
   . rename_i m lim es
     rw[Lz,bu];rw[aa]at h;exact h
   . cases h
 . cases h)
theorem LA(n lim:Int):opn (tbl [(46,gb)]) Tryz.f41 [.ptr 0 0,.int .u64 n] [(0,.cells 111 [.nils,.int .i64 lim,.mp 1]),(1,.mpc [] [])]=
 bif decide (0<=n/\n < 256 ^ 4/\((4:Nat):Int)<=lim/\lim<=65536)then .ret (.int .i64 0) [(0,some (.cells 111 [.qs 2 1 0 4,.int .i64 lim,.mp 1])),(2,some (.seq 5 (be n 4)))]else .fail:=by kernel_rfl
theorem LB(n lim:Int)(m:Nat)(es:List SV):opn (tbl [(46,gb)]) Tryz.f41 [.ptr 0 0,.int .u64 n] [(0,.cells 111 [.qs 1 1 0 m,.int .i64 lim,.mp 2]),(1,.seq 5 es),(2,.mpc [] [])]=
 bif decide (m=es.length/\0<=n/\n < 256 ^ 4/\((es.length+4:Nat):Int)<=lim/\lim<=65536)then .ret (.int .i64 0) [(1,none),(0,some (.cells 111 [.qs 3 1 0 (es.length+4),.int .i64 lim,.mp 2])),(3,some (.seq 5 (es++be n 4)))]else .fail:=by kernel_rfl
theorem Bp   :Known Tryz.prog 41 (dA   4):=(aj        zS   Tryz.func41 rfl).weak (by
 intro args H v ups h
 unfold dA at h
 split at h
 . rename_i n
   unfold wP at h
   split at h
   . rename_i lim
     rw[LA,bu];rw[aa]at h;exact h
   . rename_i m lim es
     rw[LB,bu];rw[aa]at h;exact h
   . cases h
 . cases h)
theorem LC(n lim:Int):opn (tbl [(46,gb)]) Tryz.f177 [.ptr 0 0,.int .u64 n] [(0,.cells 111 [.nils,.int .i64 lim,.mp 1]),(1,.mpc [] [])]=
 bif decide (0<=n/\n < 256 ^ 6/\((6:Nat):Int)<=lim/\lim<=65536)then .ret (.int .i64 0) [(0,some (.cells 111 [.qs 2 1 0 6,.int .i64 lim,.mp 1])),(2,some (.seq 5 (be n 6)))]else .fail:=by kernel_rfl
theorem LD(n lim:Int)(m:Nat)(es:List SV):opn (tbl [(46,gb)]) Tryz.f177 [.ptr 0 0,.int .u64 n] [(0,.cells 111 [.qs 1 1 0 m,.int .i64 lim,.mp 2]),(1,.seq 5 es),(2,.mpc [] [])]=
 bif decide (m=es.length/\0<=n/\n < 256 ^ 6/\((es.length+6:Nat):Int)<=lim/\lim<=65536)then .ret (.int .i64 0) [(1,none),(0,some (.cells 111 [.qs 3 1 0 (es.length+6),.int .i64 lim,.mp 2])),(3,some (.seq 5 (es++be n 6)))]else .fail:=by kernel_rfl
theorem LE   :Known Tryz.prog 177 (dA   6):=(aj        zS   Tryz.func177 rfl).weak (by
 intro args H v ups h
 unfold dA at h
 split at h
 . rename_i n
   unfold wP at h
   split at h
   . rename_i lim
     rw[LC,bu];rw[aa]at h;exact h
   . rename_i m lim es
     rw[LD,bu];rw[aa]at h;exact h
   . cases h
 . cases h)
theorem LF(n lim:Int):opn (tbl [(46,gb)]) Tryz.f172 [.ptr 0 0,.int .u64 n] [(0,.cells 111 [.nils,.int .i64 lim,.mp 1]),(1,.mpc [] [])]=
 bif decide (0<=n/\n < 256 ^ 8/\((8:Nat):Int)<=lim/\lim<=65536)then .ret (.int .i64 0) [(0,some (.cells 111 [.qs 2 1 0 8,.int .i64 lim,.mp 1])),(2,some (.seq 5 (be n 8)))]else .fail:=by kernel_rfl
theorem LG(n lim:Int)(m:Nat)(es:List SV):opn (tbl [(46,gb)]) Tryz.f172 [.ptr 0 0,.int .u64 n] [(0,.cells 111 [.qs 1 1 0 m,.int .i64 lim,.mp 2]),(1,.seq 5 es),(2,.mpc [] [])]=
 bif decide (m=es.length/\0<=n/\n < 256 ^ 8/\((es.length+8:Nat):Int)<=lim/\lim<=65536)then .ret (.int .i64 0) [(1,none),(0,some (.cells 111 [.qs 3 1 0 (es.length+8),.int .i64 lim,.mp 2])),(3,some (.seq 5 (es++be n 8)))]else .fail:=by kernel_rfl
theorem LH   :Known Tryz.prog 172 (dA   8):=(aj        zS   Tryz.func172 rfl).weak (by
 intro args H v ups h
 unfold dA at h
 split at h
 . rename_i n
   unfold wP at h
   split at h
   . rename_i lim
     rw[LF,bu];rw[aa]at h;exact h
   . rename_i m lim es
     rw[LG,bu];rw[aa]at h;exact h
   . cases h
 . cases h)
def tV(lim:Int)(nw mp:Nat)(xs:List SV):CTree:=
 .ite (decide ((xs.length:Int)<=lim/\lim<=65536)) (.ret (.int .i64 0) [(0,some (.cells 111 [.qs nw 1 0 xs.length,.int .i64 lim,.mp mp])),(nw,some (.seq 5 xs))]) .fail
def q9(lim:Int)(m old nw mp:Nat)(es xs:List SV):CTree:=
 .ite (decide (m=es.length/\((es.length+xs.length:Nat):Int)<=lim/\lim<=65536)) (.ret (.int .i64 0) [(0,some (.cells 111 [.qs nw 1 0 (es.length+xs.length),.int .i64 lim,.mp mp])),(old,none),(nw,some (.seq 5 (es++xs)))]) .fail
def byN:HpL->CTree
 | [(0,.cells 111 [.nils,.int .i64 lim,.mp 1]),(1,.mpc [] [])]=>tV lim 2 1 []
 | [(0,.cells 111 [.qs 1 1 0 m,.int .i64 lim,.mp 2]),(1,.seq 5 es),(2,.mpc [] [])]=>q9 lim m 1 3 2 es []
 | _=>.fail
def byP(xs:List SV):HpL->CTree
 | [(0,.cells 111 [.nils,.int .i64 lim,.mp 1]),(1,.mpc [] [])]=>tV lim 2 1 xs
 | [(0,.cells 111 [.qs 1 1 0 m,.int .i64 lim,.mp 2]),(1,.seq 5 es),(2,.mpc [] [])]=>q9 lim m 1 3 2 es xs
 | _=>.fail
def Ik(k:Nat):HpL->CTree
 | [(0,.cells 111 [.nils,.int .i64 lim,.mp 1]),(1,.mpc [] []),(2,.seq 5 xs)]=>.ite (decide (k=xs.length)) (tV lim 3 1 xs) .fail
 | _=>.fail
def Il(k:Nat):HpL->CTree
 | [(0,.cells 111 [.qs 1 1 0 m,.int .i64 lim,.mp 2]),(1,.seq 5 es),(2,.mpc [] []),(3,.seq 5 xs)]=>.ite (decide (k=xs.length)) (q9 lim m 1 4 2 es xs) .fail
 | _=>.fail
def byE:HpL->CTree
 | [(0,.cells 111 [.qs 1 1 0 m,.int .i64 lim,.mp 2]),(1,.seq 5 es),(2,.mpc [] []),(3,.cells 88 [.int .i64 kind,.int .u64 rd,.int .u8 e0,.int .u8 e1,.int .u8 e2,.int .u8 e3,.int .u8 e4,.int .u8 e5,.int .u8 e6,.int .u8 e7,.int .u8 e8,.int .u8 e9,.int .u32 tag,.int .u64 mac,.int .u32 ip,.bool hip,.int .u32 pip,.int .i64 plen,.int .u32 gw,.int .u32 lab,.int .u32 lab2])]=>q9 lim m 1 4 2 es [.int .u8 e0,.int .u8 e1,.int .u8 e2,.int .u8 e3,.int .u8 e4,.int .u8 e5,.int .u8 e6,.int .u8 e7,.int .u8 e8,.int .u8 e9]
 | _=>.fail
def Io:HpL->CTree
 | [(0,.cells 111 [.nils,.int .i64 lim,.mp 1]),(1,.mpc [] []),(2,.cells 136 [.int .u8 c0,.int .u8 c1,.int .u8 c2,.int .u8 c3,.int .u8 c4,.int .u8 c5,.int .u8 c6,.int .u8 c7])]=>tV lim 3 1 [.int .u8 c0,.int .u8 c1,.int .u8 c2,.int .u8 c3,.int .u8 c4,.int .u8 c5,.int .u8 c6,.int .u8 c7]
 | _=>.fail
def Ip:HpL->CTree
 | [(0,.cells 111 [.qs 1 1 0 m,.int .i64 lim,.mp 2]),(1,.seq 5 es),(2,.mpc [] []),(3,.cells 136 [.int .u8 c0,.int .u8 c1,.int .u8 c2,.int .u8 c3,.int .u8 c4,.int .u8 c5,.int .u8 c6,.int .u8 c7])]=>q9 lim m 1 4 2 es [.int .u8 c0,.int .u8 c1,.int .u8 c2,.int .u8 c3,.int .u8 c4,.int .u8 c5,.int .u8 c6,.int .u8 c7]
 | _=>.fail
def gy:ag:=fun args H=>match args with
 | [.ptr 0 0,.nils]=>byN H
 | [.ptr 0 0,.psl 5 xs]=>byP xs H
 | [.ptr 0 0,.qs 2 1 0 k]=>Ik k H
 | [.ptr 0 0,.qs 3 1 0 k]=>Il k H
 | [.ptr 0 0,.sl 3 1 2 10]=>byE H
 | [.ptr 0 0,.sl 2 1 0 8]=>Io H
 | [.ptr 0 0,.sl 3 1 0 8]=>Ip H
 | _=>.fail
theorem NE(lim:Int):opn (tbl []) Tryz.f24 [.ptr 0 0,.nils] [(0,.cells 111 [.nils,.int .i64 lim,.mp 1]),(1,.mpc [] [])]=
 bif decide (IntKind.i64.wrap (lim - 0) < 0)then .ret (.int .i64 7) []else(.ret (.int .i64 0) [(0,some (.cells 111 [.qs 2 1 0 0,.int .i64 lim,.mp 1])),(2,some (.seq 5 []))]):=by kernel_rfl
theorem NF(lim:Int)(m:Nat)(es:List SV):opn (tbl []) Tryz.f24 [.ptr 0 0,.nils] [(0,.cells 111 [.qs 1 1 0 m,.int .i64 lim,.mp 2]),(1,.seq 5 es),(2,.mpc [] [])]=
 bif decide (IntKind.i64.wrap (lim - (m:Int)) < 0)then .ret (.int .i64 7) []else bif decide (m=es.length)then(bif decide (es.length+0<=9223372036854775807)&&decide ((es.length+0) * 1<=140737488355328)then .ret (.int .i64 0) [(0,some (.cells 111 [.qs 3 1 0 (es.length+0),.int .i64 lim,.mp 2])),(1,none),(3,some (.seq 5 (es++[])))]else .fail)else .fail:=by kernel_rfl
theorem NG(lim:Int)(xs:List SV):opn (tbl []) Tryz.f24 [.ptr 0 0,.psl 5 xs] [(0,.cells 111 [.nils,.int .i64 lim,.mp 1]),(1,.mpc [] [])]=
 bif decide (IntKind.i64.wrap (lim - 0) < (xs.length:Int))then .ret (.int .i64 7) []else(bif decide (0+xs.length<=9223372036854775807)&&decide ((0+xs.length) * 1<=140737488355328)then .ret (.int .i64 0) [(0,some (.cells 111 [.qs 2 1 0 (0+xs.length),.int .i64 lim,.mp 1])),(2,some (.seq 5 (xs)))]else .fail):=by kernel_rfl
theorem NH(lim:Int)(m:Nat)(es xs:List SV):opn (tbl []) Tryz.f24 [.ptr 0 0,.psl 5 xs] [(0,.cells 111 [.qs 1 1 0 m,.int .i64 lim,.mp 2]),(1,.seq 5 es),(2,.mpc [] [])]=
 bif decide (IntKind.i64.wrap (lim - (m:Int)) < (xs.length:Int))then .ret (.int .i64 7) []else bif decide (m=es.length)then(bif decide (es.length+xs.length<=9223372036854775807)&&decide ((es.length+xs.length) * 1<=140737488355328)then .ret (.int .i64 0) [(0,some (.cells 111 [.qs 3 1 0 (es.length+xs.length),.int .i64 lim,.mp 2])),(1,none),(3,some (.seq 5 (es++xs)))]else .fail)else .fail:=by kernel_rfl
theorem NI(lim:Int)(k:Nat)(xs:List SV):opn (tbl []) Tryz.f24 [.ptr 0 0,.qs 2 1 0 k] [(0,.cells 111 [.nils,.int .i64 lim,.mp 1]),(1,.mpc [] []),(2,.seq 5 xs)]=
 bif decide (IntKind.i64.wrap (lim - 0) < (k:Int))then .ret (.int .i64 7) []else bif decide (k=xs.length)then(bif decide (0+xs.length<=9223372036854775807)&&decide ((0+xs.length) * 1<=140737488355328)then .ret (.int .i64 0) [(0,some (.cells 111 [.qs 3 1 0 (0+xs.length),.int .i64 lim,.mp 1])),(3,some (.seq 5 (xs)))]else .fail)else bif decide (0+k<=xs.length)then(bif decide (0+((xs.drop 0).take k).length<=9223372036854775807)&&decide ((0+((xs.drop 0).take k).length) * 1<=140737488355328)then .ret (.int .i64 0) [(0,some (.cells 111 [.qs 3 1 0 (0+((xs.drop 0).take k).length),.int .i64 lim,.mp 1])),(3,some (.seq 5 (((xs.drop 0).take k))))]else .fail)else .fail:=by kernel_rfl
theorem NJ(lim:Int)(m:Nat)(es:List SV)(k:Nat)(xs:List SV):opn (tbl []) Tryz.f24 [.ptr 0 0,.qs 3 1 0 k] [(0,.cells 111 [.qs 1 1 0 m,.int .i64 lim,.mp 2]),(1,.seq 5 es),(2,.mpc [] []),(3,.seq 5 xs)]=
 bif decide (IntKind.i64.wrap (lim - (m:Int)) < (k:Int))then .ret (.int .i64 7) []else bif decide (m=es.length)then(bif decide (k=xs.length)then(bif decide (es.length+xs.length<=9223372036854775807)&&decide ((es.length+xs.length) * 1<=140737488355328)then .ret (.int .i64 0) [(0,some (.cells 111 [.qs 4 1 0 (es.length+xs.length),.int .i64 lim,.mp 2])),(1,none),(4,some (.seq 5 (es++xs)))]else .fail)else bif decide (0+k<=xs.length)then(bif decide (es.length+((xs.drop 0).take k).length<=9223372036854775807)&&decide ((es.length+((xs.drop 0).take k).length) * 1<=140737488355328)then .ret (.int .i64 0) [(0,some (.cells 111 [.qs 4 1 0 (es.length+((xs.drop 0).take k).length),.int .i64 lim,.mp 2])),(1,none),(4,some (.seq 5 (es++((xs.drop 0).take k))))]else .fail)else .fail)else .fail:=by kernel_rfl
theorem NL(lim:Int)(m:Nat)(es:List SV)(kind rd e0 e1 e2 e3 e4 e5 e6 e7 e8 e9 tag mac ip:Int)(hip:Bool)(pip plen gw lab lab2:Int):opn (tbl []) Tryz.f24 [.ptr 0 0,.sl 3 1 2 10] [(0,.cells 111 [.qs 1 1 0 m,.int .i64 lim,.mp 2]),(1,.seq 5 es),(2,.mpc [] []),(3,.cells 88 [.int .i64 kind,.int .u64 rd,.int .u8 e0,.int .u8 e1,.int .u8 e2,.int .u8 e3,.int .u8 e4,.int .u8 e5,.int .u8 e6,.int .u8 e7,.int .u8 e8,.int .u8 e9,.int .u32 tag,.int .u64 mac,.int .u32 ip,.bool hip,.int .u32 pip,.int .i64 plen,.int .u32 gw,.int .u32 lab,.int .u32 lab2])]=
 bif decide (IntKind.i64.wrap (lim - (m:Int)) < 10)then .ret (.int .i64 7) []else bif decide (m=es.length)then(bif decide (es.length+10<=9223372036854775807)&&decide ((es.length+10) * 1<=140737488355328)then .ret (.int .i64 0) [(0,some (.cells 111 [.qs 4 1 0 (es.length+10),.int .i64 lim,.mp 2])),(1,none),(4,some (.seq 5 (es++[.int .u8 e0,.int .u8 e1,.int .u8 e2,.int .u8 e3,.int .u8 e4,.int .u8 e5,.int .u8 e6,.int .u8 e7,.int .u8 e8,.int .u8 e9])))]else .fail)else .fail:=by kernel_rfl
theorem NM(lim:Int)(c0 c1 c2 c3 c4 c5 c6 c7:Int):opn (tbl []) Tryz.f24 [.ptr 0 0,.sl 2 1 0 8] [(0,.cells 111 [.nils,.int .i64 lim,.mp 1]),(1,.mpc [] []),(2,.cells 136 [.int .u8 c0,.int .u8 c1,.int .u8 c2,.int .u8 c3,.int .u8 c4,.int .u8 c5,.int .u8 c6,.int .u8 c7])]=
 bif decide (IntKind.i64.wrap (lim - 0) < 8)then .ret (.int .i64 7) []else(.ret (.int .i64 0) [(0,some (.cells 111 [.qs 3 1 0 8,.int .i64 lim,.mp 1])),(3,some (.seq 5 [.int .u8 c0,.int .u8 c1,.int .u8 c2,.int .u8 c3,.int .u8 c4,.int .u8 c5,.int .u8 c6,.int .u8 c7]))]):=by kernel_rfl
theorem NO(lim:Int)(m:Nat)(es:List SV)(c0 c1 c2 c3 c4 c5 c6 c7:Int):opn (tbl []) Tryz.f24 [.ptr 0 0,.sl 3 1 0 8] [(0,.cells 111 [.qs 1 1 0 m,.int .i64 lim,.mp 2]),(1,.seq 5 es),(2,.mpc [] []),(3,.cells 136 [.int .u8 c0,.int .u8 c1,.int .u8 c2,.int .u8 c3,.int .u8 c4,.int .u8 c5,.int .u8 c6,.int .u8 c7])]=
 bif decide (IntKind.i64.wrap (lim - (m:Int)) < 8)then .ret (.int .i64 7) []else bif decide (m=es.length)then(bif decide (es.length+8<=9223372036854775807)&&decide ((es.length+8) * 1<=140737488355328)then .ret (.int .i64 0) [(0,some (.cells 111 [.qs 4 1 0 (es.length+8),.int .i64 lim,.mp 2])),(1,none),(4,some (.seq 5 (es++[.int .u8 c0,.int .u8 c1,.int .u8 c2,.int .u8 c3,.int .u8 c4,.int .u8 c5,.int .u8 c6,.int .u8 c7])))]else .fail)else .fail:=by kernel_rfl
theorem Iq    (H:HpL)(v:SV)(ups:List (Nat × Option Chunk))(h:ae   (byN H)=some (v,ups)):ae   (opn (tbl []) Tryz.f24 [.ptr 0 0,.nils] H)=some (v,ups):=by
 unfold byN at h
 split at h
 . rename_i lim
   simp only[tV,aa,cond_eq_ite]at h
   split at h
   . rename_i hc
     obtain⟨h2,h3⟩:=of_decide_eq_true hc
     try simp only[List.length_nil]at h2
     rw[NE,am (by omega) (by omega),dF0 (by omega)]
     exact h
   . cases h
 . rename_i m lim es
   simp only[q9,aa,cond_eq_ite]at h
   split at h
   . rename_i hc
     obtain⟨hm,h2,h3⟩:=of_decide_eq_true hc
     try simp only[List.length_nil]at h2
     rw[NF,am (by omega) (by omega),dF0 (by omega),dT0 hm,dT0 (by omega),dT0 (by omega)]
     exact h
   . cases h
 . cases h
theorem Ir    (xs:List SV)(H:HpL)(v:SV)(ups:List (Nat × Option Chunk))(h:ae   (byP xs H)=some (v,ups)):ae   (opn (tbl []) Tryz.f24 [.ptr 0 0,.psl 5 xs] H)=some (v,ups):=by
 unfold byP at h
 split at h
 . rename_i lim
   simp only[tV,aa,cond_eq_ite]at h
   split at h
   . rename_i hc
     obtain⟨h2,h3⟩:=of_decide_eq_true hc
     try simp only[List.length_cons,List.length_nil]at h2
     rw[NG,am (by omega) (by omega),dF0 (by omega),dT0 (by omega),dT0 (by omega)]
     simpa using h
   . cases h
 . rename_i m lim es
   simp only[q9,aa,cond_eq_ite]at h
   split at h
   . rename_i hc
     obtain⟨hm,h2,h3⟩:=of_decide_eq_true hc
     try simp only[List.length_cons,List.length_nil]at h2
     rw[NH,am (by omega) (by omega),dF0 (by omega),dT0 hm,dT0 (by omega),dT0 (by omega)]
     exact h
   . cases h
 . cases h
theorem EM     (k:Nat)(H:HpL)(v:SV)(ups:List (Nat × Option Chunk))(h:ae   (Ik   k H)=some (v,ups)):ae   (opn (tbl []) Tryz.f24 [.ptr 0 0,.qs 2 1 0 k] H)=some (v,ups):=by
 unfold Ik at h
 split at h
 . rename_i lim xs
   rw[aa,cond_eq_ite]at h
   split at h
   . rename_i hk
     have hk:=of_decide_eq_true hk
     subst hk
     simp only[tV,aa,cond_eq_ite]at h
     split at h
     . rename_i hc
       obtain⟨h2,h3⟩:=of_decide_eq_true hc
       try simp only[List.length_cons,List.length_nil]at h2
       rw[NI,am (by omega) (by omega),dF0 (by omega),dT0 rfl,dT0 (by omega),dT0 (by omega)]
       simpa using h
     . cases h
   . cases h
 . cases h
theorem EN     (k:Nat)(H:HpL)(v:SV)(ups:List (Nat × Option Chunk))(h:ae   (Il   k H)=some (v,ups)):ae   (opn (tbl []) Tryz.f24 [.ptr 0 0,.qs 3 1 0 k] H)=some (v,ups):=by
 unfold Il at h
 split at h
 . rename_i m lim es xs
   rw[aa,cond_eq_ite]at h
   split at h
   . rename_i hk
     have hk:=of_decide_eq_true hk
     subst hk
     simp only[q9,aa,cond_eq_ite]at h
     split at h
     . rename_i hc
       obtain⟨hm,h2,h3⟩:=of_decide_eq_true hc
       try simp only[List.length_cons,List.length_nil]at h2
       rw[NJ,am (by omega) (by omega),dF0 (by omega),dT0 hm,dT0 rfl,dT0 (by omega),dT0 (by omega)]
       exact h
     . cases h
   . cases h
 . cases h
theorem Is    (H:HpL)(v:SV)(ups:List (Nat × Option Chunk))(h:ae   (byE H)=some (v,ups)):ae   (opn (tbl []) Tryz.f24 [.ptr 0 0,.sl 3 1 2 10] H)=some (v,ups):=by
 unfold byE at h
 split at h
 . rename_i m lim es kind rd e0 e1 e2 e3 e4 e5 e6 e7 e8 e9 tag mac ip hip pip plen gw lab lab2
   simp only[q9,aa,cond_eq_ite]at h
   split at h
   . rename_i hc
     obtain⟨hm,h2,h3⟩:=of_decide_eq_true hc
     try simp only[List.length_cons,List.length_nil]at h2
     rw[NL,am (by omega) (by omega),dF0 (by omega),dT0 hm,dT0 (by omega),dT0 (by omega)]
     exact h
   . cases h
 . cases h
theorem EO     (H:HpL)(v:SV)(ups:List (Nat × Option Chunk))(h:ae   (Io   H)=some (v,ups)):ae   (opn (tbl []) Tryz.f24 [.ptr 0 0,.sl 2 1 0 8] H)=some (v,ups):=by
 unfold Io at h
 split at h
 . rename_i lim c0 c1 c2 c3 c4 c5 c6 c7
   simp only[tV,aa,cond_eq_ite]at h
   split at h
   . rename_i hc
     obtain⟨h2,h3⟩:=of_decide_eq_true hc
     try simp only[List.length_cons,List.length_nil]at h2
     rw[NM,am (by omega) (by omega),dF0 (by omega)]
     exact h
   . cases h
 . cases h
theorem EP     (H:HpL)(v:SV)(ups:List (Nat × Option Chunk))(h:ae   (Ip   H)=some (v,ups)):ae   (opn (tbl []) Tryz.f24 [.ptr 0 0,.sl 3 1 0 8] H)=some (v,ups):=by
 unfold Ip at h
 split at h
 . rename_i m lim es c0 c1 c2 c3 c4 c5 c6 c7
   simp only[q9,aa,cond_eq_ite]at h
   split at h
   . rename_i hc
     obtain⟨hm,h2,h3⟩:=of_decide_eq_true hc
     try simp only[List.length_cons,List.length_nil]at h2
     rw[NO,am (by omega) (by omega),dF0 (by omega),dT0 hm,dT0 (by omega),dT0 (by omega)]
     exact h
   . cases h
 . cases h
theorem oC:Known Tryz.prog 24 gy:=(aj ok0 Tryz.func24 rfl).weak (by
 intro args H v ups h
 unfold gy at h
 split at h
 . exact Iq H v ups h
 . exact Ir _ H v ups h
 . exact EM _ H v ups h
 . exact EN _ H v ups h
 . exact Is H v ups h
 . exact EO H v ups h
 . exact EP H v ups h
 . cases h)
def kz:ag:=fun args H=>match args,H with
 | [.ptr 0 0],[(0,.cells 111 [.nils,.int .i64 lim,.mp 1]),(1,.mpc [] [])]=>.ret (.qs 2 1 0 0) [(2,some (.seq 5 []))]
 | [.ptr 0 0],[(0,.cells 111 [.qs 1 1 0 k,.int .i64 lim,.mp 2]),(1,.seq 5 xs),(2,.mpc [] [])]=>.ite (decide (k=xs.length/\xs.length<=65536)) (.ret (.qs 3 1 0 xs.length) [(3,some (.seq 5 xs))]) .fail
 | _,_=>.fail
theorem LI(lim:Int)(k:Nat)(xs:List SV):opn (tbl []) Tryz.f28 [.ptr 0 0] [(0,.cells 111 [.qs 1 1 0 k,.int .i64 lim,.mp 2]),(1,.seq 5 xs),(2,.mpc [] [])]=
 bif decide (k=xs.length)then(bif decide (0+xs.length<=9223372036854775807)&&decide ((0+xs.length) * 1<=140737488355328)then .ret (.qs 3 1 0 (0+xs.length)) [(3,some (.seq 5 xs))]else .fail)
 else bif decide (0+k<=xs.length)then(bif decide (0+((xs.drop 0).take k).length<=9223372036854775807)&&decide ((0+((xs.drop 0).take k).length) * 1<=140737488355328)then .ret (.qs 3 1 0 (0+((xs.drop 0).take k).length)) [(3,some (.seq 5 ((xs.drop 0).take k)))]else .fail)else .fail:=by kernel_rfl
theorem LJ(lim:Int):opn (tbl []) Tryz.f28 [.ptr 0 0] [(0,.cells 111 [.nils,.int .i64 lim,.mp 1]),(1,.mpc [] [])]= .ret (.qs 2 1 0 0) [(2,some (.seq 5 []))]:=by kernel_rfl
theorem rA   :Known Tryz.prog 28 kz   :=(aj        ok0 Tryz.func28 rfl).weak (by
 intro args H v ups h
 unfold kz at h
 split at h
 . rename_i lim
   rw[LJ];exact h
 . rename_i k lim xs
   simp only[aa,cond_eq_ite]at h
   split at h
   . rename_i hc
     obtain⟨rfl,h2⟩:=of_decide_eq_true hc
     rw[LI,dT0 rfl,dT0 (by omega),dT0 (by omega)]
     simpa using h
   . cases h
 . cases h)
end Go.Proofs.YtnlmhpancboddaaGreat
