/- Writers of bytes: a number is put. -/
import Derived.Test.YtnlmhpancboddaaGreatPart1
import Derived.Test.YtnlmhpancboddaaGreatMachine5
set_option linter.unusedVariables false
set_option linter.unusedSimpArgs false
namespace Go.Proofs.YtnlmhpancboddaaGreat
open Go.Am
set_option maxRecDepth 100000
def be(n:Int):Nat->List SV
 | 0=>[]
 | k+1=>.int .u8 (n / 256 ^ k % 256) :: be n k
def dv(n:Int):Nat->Int
 | 0=>n
 | k+1=>(dv n k).fdiv 256
def rb(n:Int):Nat->List SV
 | 0=>[]
 | k+1=>.int .u8 (IntKind.u8.wrap (dv n k)) :: rb n k
theorem tX(n:Int):IntKind.u8.wrap n=n % 256:=by
 simp[IntKind.wrap,IntKind.bits,IntKind.signed]
theorem Hq(n:Int):∀ k,dv n k=n / 256 ^ k
 | 0=>by simp[dv]
 | k+1=>by
  rw[dv,Hq n k,Int.fdiv_eq_ediv_of_nonneg _ (by decide),Int.ediv_ediv_of_nonneg (Int.pow_nonneg (by decide)),Int.pow_succ]
theorem fv(n:Int):∀ k,rb n k=be n k
 | 0=>rfl
 | k+1=>by rw[rb,be,fv n k,tX,Hq]
theorem ah(n:Int):∀ k,(be n k).length=k
 | 0=>rfl
 | k+1=>by simp[be,ah n k]
theorem kn{n:Int}{m:Int}(h0:0<=n)(h1:n < m):(n.fdiv m !=0)=false:=by
 rw[Int.fdiv_eq_ediv_of_nonneg _ (by omega),Int.ediv_eq_zero_of_lt h0 h1];rfl
def je(n:Int)(k:Nat):HpL->CTree
 | [(0,.cells 111 [.nils,.int .i64 lim,.mp 1]),(1,.mpc [] [])]=>
  .ite (decide (0<=n/\n < 256 ^ k/\(k:Int)<=lim/\lim<=65536)) (.ret (.int .i64 0) [(0,some (.cells 111 [.qs 2 1 0 k,.int .i64 lim,.mp 1])),(2,some (.seq 5 (be n k)))]) .fail
 | [(0,.cells 111 [.qs 1 1 0 m,.int .i64 lim,.mp 2]),(1,.seq 5 es),(2,.mpc [] [])]=>
  .ite (decide (m=es.length/\0<=n/\n < 256 ^ k/\((es.length+k:Nat):Int)<=lim/\lim<=65536)) (.ret (.int .i64 0) [(0,some (.cells 111 [.qs 3 1 0 (es.length+k),.int .i64 lim,.mp 2])),(1,none),(3,some (.seq 5 (es++be n k)))]) .fail
 | _=>.fail
theorem Iv(n lim:Int):opn (tbl []) Tryz.f46 [.ptr 0 0,.int .u64 n,.int .i64 1] [(0,.cells 111 [.nils,.int .i64 lim,.mp 1]),(1,.mpc [] [])]=
 bif n.fdiv 256 !=0 then .ret (.int .i64 2) []else bif decide (IntKind.i64.wrap (lim - 0) < 1)then .ret (.int .i64 7) []else
 .ret (.int .i64 0) [(0,some (.cells 111 [.qs 2 1 0 1,.int .i64 lim,.mp 1])),(2,some (.seq 5 (rb n 1)))]:=by kernel_rfl
theorem Iw(n lim:Int)(m:Nat)(es:List SV):opn (tbl []) Tryz.f46 [.ptr 0 0,.int .u64 n,.int .i64 1] [(0,.cells 111 [.qs 1 1 0 m,.int .i64 lim,.mp 2]),(1,.seq 5 es),(2,.mpc [] [])]=
 bif n.fdiv 256 !=0 then .ret (.int .i64 2) []else bif decide (IntKind.i64.wrap (lim - (m:Int)) < 1)then .ret (.int .i64 7) []else
 bif decide (m=es.length)then bif decide (es.length+1<=9223372036854775807)&&decide ((es.length+1) * 1<=140737488355328)then
 .ret (.int .i64 0) [(0,some (.cells 111 [.qs 3 1 0 (es.length+1),.int .i64 lim,.mp 2])),(1,none),(3,some (.seq 5 (es++rb n 1)))]else .fail else .fail:=by kernel_rfl
theorem ET     (n:Int)(H:HpL)(v:SV)(ups:List (Nat × Option Chunk))(h:ae   (je   n 1 H)=some (v,ups)):ae   (opn (tbl []) Tryz.f46 [.ptr 0 0,.int .u64 n,.int .i64 1] H)=some (v,ups):=by
 unfold je at h
 split at h
 . rename_i lim
   rw[aa,cond_eq_ite]at h
   split at h
   . rename_i hc
     obtain⟨h0,h1,h2,h3⟩:=of_decide_eq_true hc
     rw[Iv,kn h0 (by simpa using h1),am (by omega) (by omega),dF0 (by omega),fv]
     exact h
   . cases h
 . rename_i m lim es
   rw[aa,cond_eq_ite]at h
   split at h
   . rename_i hc
     obtain⟨hm,h0,h1,h2,h3⟩:=of_decide_eq_true hc
     rw[Iw,kn h0 (by simpa using h1),am (by omega) (by omega),dF0 (by omega),fv,dT0 hm,dT0 (by omega),dT0 (by omega)]
     exact h
   . cases h
 . cases h
theorem Ix(n lim:Int):opn (tbl []) Tryz.f46 [.ptr 0 0,.int .u64 n,.int .i64 2] [(0,.cells 111 [.nils,.int .i64 lim,.mp 1]),(1,.mpc [] [])]=
 bif n.fdiv 65536 !=0 then .ret (.int .i64 2) []else bif decide (IntKind.i64.wrap (lim - 0) < 2)then .ret (.int .i64 7) []else
 .ret (.int .i64 0) [(0,some (.cells 111 [.qs 2 1 0 2,.int .i64 lim,.mp 1])),(2,some (.seq 5 (rb n 2)))]:=by kernel_rfl
theorem Iy(n lim:Int)(m:Nat)(es:List SV):opn (tbl []) Tryz.f46 [.ptr 0 0,.int .u64 n,.int .i64 2] [(0,.cells 111 [.qs 1 1 0 m,.int .i64 lim,.mp 2]),(1,.seq 5 es),(2,.mpc [] [])]=
 bif n.fdiv 65536 !=0 then .ret (.int .i64 2) []else bif decide (IntKind.i64.wrap (lim - (m:Int)) < 2)then .ret (.int .i64 7) []else
 bif decide (m=es.length)then bif decide (es.length+2<=9223372036854775807)&&decide ((es.length+2) * 1<=140737488355328)then
 .ret (.int .i64 0) [(0,some (.cells 111 [.qs 3 1 0 (es.length+2),.int .i64 lim,.mp 2])),(1,none),(3,some (.seq 5 (es++rb n 2)))]else .fail else .fail:=by kernel_rfl
theorem EU     (n:Int)(H:HpL)(v:SV)(ups:List (Nat × Option Chunk))(h:ae   (je   n 2 H)=some (v,ups)):ae   (opn (tbl []) Tryz.f46 [.ptr 0 0,.int .u64 n,.int .i64 2] H)=some (v,ups):=by
 unfold je at h
 split at h
 . rename_i lim
   rw[aa,cond_eq_ite]at h
   split at h
   . rename_i hc
     obtain⟨h0,h1,h2,h3⟩:=of_decide_eq_true hc
     rw[Ix,kn h0 (by simpa using h1),am (by omega) (by omega),dF0 (by omega),fv]
     exact h
   . cases h
 . rename_i m lim es
   rw[aa,cond_eq_ite]at h
   split at h
   . rename_i hc
     obtain⟨hm,h0,h1,h2,h3⟩:=of_decide_eq_true hc
     rw[Iy,kn h0 (by simpa using h1),am (by omega) (by omega),dF0 (by omega),fv,dT0 hm,dT0 (by omega),dT0 (by omega)]
     exact h
   . cases h
 . cases h
theorem Iz(n lim:Int):opn (tbl []) Tryz.f46 [.ptr 0 0,.int .u64 n,.int .i64 3] [(0,.cells 111 [.nils,.int .i64 lim,.mp 1]),(1,.mpc [] [])]=
 bif n.fdiv 16777216 !=0 then .ret (.int .i64 2) []else bif decide (IntKind.i64.wrap (lim - 0) < 3)then .ret (.int .i64 7) []else
 .ret (.int .i64 0) [(0,some (.cells 111 [.qs 2 1 0 3,.int .i64 lim,.mp 1])),(2,some (.seq 5 (rb n 3)))]:=by kernel_rfl
theorem IA(n lim:Int)(m:Nat)(es:List SV):opn (tbl []) Tryz.f46 [.ptr 0 0,.int .u64 n,.int .i64 3] [(0,.cells 111 [.qs 1 1 0 m,.int .i64 lim,.mp 2]),(1,.seq 5 es),(2,.mpc [] [])]=
 bif n.fdiv 16777216 !=0 then .ret (.int .i64 2) []else bif decide (IntKind.i64.wrap (lim - (m:Int)) < 3)then .ret (.int .i64 7) []else
 bif decide (m=es.length)then bif decide (es.length+3<=9223372036854775807)&&decide ((es.length+3) * 1<=140737488355328)then
 .ret (.int .i64 0) [(0,some (.cells 111 [.qs 3 1 0 (es.length+3),.int .i64 lim,.mp 2])),(1,none),(3,some (.seq 5 (es++rb n 3)))]else .fail else .fail:=by kernel_rfl
theorem EV     (n:Int)(H:HpL)(v:SV)(ups:List (Nat × Option Chunk))(h:ae   (je   n 3 H)=some (v,ups)):ae   (opn (tbl []) Tryz.f46 [.ptr 0 0,.int .u64 n,.int .i64 3] H)=some (v,ups):=by
 unfold je at h
 split at h
 . rename_i lim
   rw[aa,cond_eq_ite]at h
   split at h
   . rename_i hc
     obtain⟨h0,h1,h2,h3⟩:=of_decide_eq_true hc
     rw[Iz,kn h0 (by simpa using h1),am (by omega) (by omega),dF0 (by omega),fv]
     exact h
   . cases h
 . rename_i m lim es
   rw[aa,cond_eq_ite]at h
   split at h
   . rename_i hc
     obtain⟨hm,h0,h1,h2,h3⟩:=of_decide_eq_true hc
     rw[IA,kn h0 (by simpa using h1),am (by omega) (by omega),dF0 (by omega),fv,dT0 hm,dT0 (by omega),dT0 (by omega)]
     exact h
   . cases h
 . cases h
theorem IB(n lim:Int):opn (tbl []) Tryz.f46 [.ptr 0 0,.int .u64 n,.int .i64 4] [(0,.cells 111 [.nils,.int .i64 lim,.mp 1]),(1,.mpc [] [])]=
 bif n.fdiv 4294967296 !=0 then .ret (.int .i64 2) []else bif decide (IntKind.i64.wrap (lim - 0) < 4)then .ret (.int .i64 7) []else
 .ret (.int .i64 0) [(0,some (.cells 111 [.qs 2 1 0 4,.int .i64 lim,.mp 1])),(2,some (.seq 5 (rb n 4)))]:=by kernel_rfl
theorem IC(n lim:Int)(m:Nat)(es:List SV):opn (tbl []) Tryz.f46 [.ptr 0 0,.int .u64 n,.int .i64 4] [(0,.cells 111 [.qs 1 1 0 m,.int .i64 lim,.mp 2]),(1,.seq 5 es),(2,.mpc [] [])]=
 bif n.fdiv 4294967296 !=0 then .ret (.int .i64 2) []else bif decide (IntKind.i64.wrap (lim - (m:Int)) < 4)then .ret (.int .i64 7) []else
 bif decide (m=es.length)then bif decide (es.length+4<=9223372036854775807)&&decide ((es.length+4) * 1<=140737488355328)then
 .ret (.int .i64 0) [(0,some (.cells 111 [.qs 3 1 0 (es.length+4),.int .i64 lim,.mp 2])),(1,none),(3,some (.seq 5 (es++rb n 4)))]else .fail else .fail:=by kernel_rfl
theorem EW     (n:Int)(H:HpL)(v:SV)(ups:List (Nat × Option Chunk))(h:ae   (je   n 4 H)=some (v,ups)):ae   (opn (tbl []) Tryz.f46 [.ptr 0 0,.int .u64 n,.int .i64 4] H)=some (v,ups):=by
 unfold je at h
 split at h
 . rename_i lim
   rw[aa,cond_eq_ite]at h
   split at h
   . rename_i hc
     obtain⟨h0,h1,h2,h3⟩:=of_decide_eq_true hc
     rw[IB,kn h0 (by simpa using h1),am (by omega) (by omega),dF0 (by omega),fv]
     exact h
   . cases h
 . rename_i m lim es
   rw[aa,cond_eq_ite]at h
   split at h
   . rename_i hc
     obtain⟨hm,h0,h1,h2,h3⟩:=of_decide_eq_true hc
     rw[IC,kn h0 (by simpa using h1),am (by omega) (by omega),dF0 (by omega),fv,dT0 hm,dT0 (by omega),dT0 (by omega)]
     exact h
   . cases h
 . cases h
theorem ID(n lim:Int):opn (tbl []) Tryz.f46 [.ptr 0 0,.int .u64 n,.int .i64 5] [(0,.cells 111 [.nils,.int .i64 lim,.mp 1]),(1,.mpc [] [])]=
 bif n.fdiv 1099511627776 !=0 then .ret (.int .i64 2) []else bif decide (IntKind.i64.wrap (lim - 0) < 5)then .ret (.int .i64 7) []else
 .ret (.int .i64 0) [(0,some (.cells 111 [.qs 2 1 0 5,.int .i64 lim,.mp 1])),(2,some (.seq 5 (rb n 5)))]:=by kernel_rfl
theorem IE(n lim:Int)(m:Nat)(es:List SV):opn (tbl []) Tryz.f46 [.ptr 0 0,.int .u64 n,.int .i64 5] [(0,.cells 111 [.qs 1 1 0 m,.int .i64 lim,.mp 2]),(1,.seq 5 es),(2,.mpc [] [])]=
 bif n.fdiv 1099511627776 !=0 then .ret (.int .i64 2) []else bif decide (IntKind.i64.wrap (lim - (m:Int)) < 5)then .ret (.int .i64 7) []else
 bif decide (m=es.length)then bif decide (es.length+5<=9223372036854775807)&&decide ((es.length+5) * 1<=140737488355328)then
 .ret (.int .i64 0) [(0,some (.cells 111 [.qs 3 1 0 (es.length+5),.int .i64 lim,.mp 2])),(1,none),(3,some (.seq 5 (es++rb n 5)))]else .fail else .fail:=by kernel_rfl
theorem EX     (n:Int)(H:HpL)(v:SV)(ups:List (Nat × Option Chunk))(h:ae   (je   n 5 H)=some (v,ups)):ae   (opn (tbl []) Tryz.f46 [.ptr 0 0,.int .u64 n,.int .i64 5] H)=some (v,ups):=by
 unfold je at h
 split at h
 . rename_i lim
   rw[aa,cond_eq_ite]at h
   split at h
   . rename_i hc
     obtain⟨h0,h1,h2,h3⟩:=of_decide_eq_true hc
     rw[ID,kn h0 (by simpa using h1),am (by omega) (by omega),dF0 (by omega),fv]
     exact h
   . cases h
 . rename_i m lim es
   rw[aa,cond_eq_ite]at h
   split at h
   . rename_i hc
     obtain⟨hm,h0,h1,h2,h3⟩:=of_decide_eq_true hc
     rw[IE,kn h0 (by simpa using h1),am (by omega) (by omega),dF0 (by omega),fv,dT0 hm,dT0 (by omega),dT0 (by omega)]
     exact h
   . cases h
 . cases h
theorem IF(n lim:Int):opn (tbl []) Tryz.f46 [.ptr 0 0,.int .u64 n,.int .i64 6] [(0,.cells 111 [.nils,.int .i64 lim,.mp 1]),(1,.mpc [] [])]=
 bif n.fdiv 281474976710656 !=0 then .ret (.int .i64 2) []else bif decide (IntKind.i64.wrap (lim - 0) < 6)then .ret (.int .i64 7) []else
 .ret (.int .i64 0) [(0,some (.cells 111 [.qs 2 1 0 6,.int .i64 lim,.mp 1])),(2,some (.seq 5 (rb n 6)))]:=by kernel_rfl
theorem IG(n lim:Int)(m:Nat)(es:List SV):opn (tbl []) Tryz.f46 [.ptr 0 0,.int .u64 n,.int .i64 6] [(0,.cells 111 [.qs 1 1 0 m,.int .i64 lim,.mp 2]),(1,.seq 5 es),(2,.mpc [] [])]=
 bif n.fdiv 281474976710656 !=0 then .ret (.int .i64 2) []else bif decide (IntKind.i64.wrap (lim - (m:Int)) < 6)then .ret (.int .i64 7) []else
 bif decide (m=es.length)then bif decide (es.length+6<=9223372036854775807)&&decide ((es.length+6) * 1<=140737488355328)then
 .ret (.int .i64 0) [(0,some (.cells 111 [.qs 3 1 0 (es.length+6),.int .i64 lim,.mp 2])),(1,none),(3,some (.seq 5 (es++rb n 6)))]else .fail else .fail:=by kernel_rfl
theorem EY     (n:Int)(H:HpL)(v:SV)(ups:List (Nat × Option Chunk))(h:ae   (je   n 6 H)=some (v,ups)):ae   (opn (tbl []) Tryz.f46 [.ptr 0 0,.int .u64 n,.int .i64 6] H)=some (v,ups):=by
 unfold je at h
 split at h
 . rename_i lim
   rw[aa,cond_eq_ite]at h
   split at h
   . rename_i hc
     obtain⟨h0,h1,h2,h3⟩:=of_decide_eq_true hc
     rw[IF,kn h0 (by simpa using h1),am (by omega) (by omega),dF0 (by omega),fv]
     exact h
   . cases h
 . rename_i m lim es
   rw[aa,cond_eq_ite]at h
   split at h
   . rename_i hc
     obtain⟨hm,h0,h1,h2,h3⟩:=of_decide_eq_true hc
     rw[IG,kn h0 (by simpa using h1),am (by omega) (by omega),dF0 (by omega),fv,dT0 hm,dT0 (by omega),dT0 (by omega)]
     exact h
   . cases h
 . cases h
theorem IH(n lim:Int):opn (tbl []) Tryz.f46 [.ptr 0 0,.int .u64 n,.int .i64 7] [(0,.cells 111 [.nils,.int .i64 lim,.mp 1]),(1,.mpc [] [])]=
 bif n.fdiv 72057594037927936 !=0 then .ret (.int .i64 2) []else bif decide (IntKind.i64.wrap (lim - 0) < 7)then .ret (.int .i64 7) []else
 .ret (.int .i64 0) [(0,some (.cells 111 [.qs 2 1 0 7,.int .i64 lim,.mp 1])),(2,some (.seq 5 (rb n 7)))]:=by kernel_rfl
theorem II(n lim:Int)(m:Nat)(es:List SV):opn (tbl []) Tryz.f46 [.ptr 0 0,.int .u64 n,.int .i64 7] [(0,.cells 111 [.qs 1 1 0 m,.int .i64 lim,.mp 2]),(1,.seq 5 es),(2,.mpc [] [])]=
 bif n.fdiv 72057594037927936 !=0 then .ret (.int .i64 2) []else bif decide (IntKind.i64.wrap (lim - (m:Int)) < 7)then .ret (.int .i64 7) []else
 bif decide (m=es.length)then bif decide (es.length+7<=9223372036854775807)&&decide ((es.length+7) * 1<=140737488355328)then
 .ret (.int .i64 0) [(0,some (.cells 111 [.qs 3 1 0 (es.length+7),.int .i64 lim,.mp 2])),(1,none),(3,some (.seq 5 (es++rb n 7)))]else .fail else .fail:=by kernel_rfl
theorem EZ     (n:Int)(H:HpL)(v:SV)(ups:List (Nat × Option Chunk))(h:ae   (je   n 7 H)=some (v,ups)):ae   (opn (tbl []) Tryz.f46 [.ptr 0 0,.int .u64 n,.int .i64 7] H)=some (v,ups):=by
 unfold je at h
 split at h
 . rename_i lim
   rw[aa,cond_eq_ite]at h
   split at h
   . rename_i hc
     obtain⟨h0,h1,h2,h3⟩:=of_decide_eq_true hc
     rw[IH,kn h0 (by simpa using h1),am (by omega) (by omega),dF0 (by omega),fv]
     exact h
   . cases h
 . rename_i m lim es
   rw[aa,cond_eq_ite]at h
   split at h
   . rename_i hc
     obtain⟨hm,h0,h1,h2,h3⟩:=of_decide_eq_true hc
     rw[II,kn h0 (by simpa using h1),am (by omega) (by omega),dF0 (by omega),fv,dT0 hm,dT0 (by omega),dT0 (by omega)]
     exact h
   . cases h
 . cases h
theorem IJ(n lim:Int):opn (tbl []) Tryz.f46 [.ptr 0 0,.int .u64 n,.int .i64 8] [(0,.cells 111 [.nils,.int .i64 lim,.mp 1]),(1,.mpc [] [])]=
 bif n.fdiv 18446744073709551616 !=0 then .ret (.int .i64 2) []else bif decide (IntKind.i64.wrap (lim - 0) < 8)then .ret (.int .i64 7) []else
 .ret (.int .i64 0) [(0,some (.cells 111 [.qs 2 1 0 8,.int .i64 lim,.mp 1])),(2,some (.seq 5 (rb n 8)))]:=by kernel_rfl
theorem IK(n lim:Int)(m:Nat)(es:List SV):opn (tbl []) Tryz.f46 [.ptr 0 0,.int .u64 n,.int .i64 8] [(0,.cells 111 [.qs 1 1 0 m,.int .i64 lim,.mp 2]),(1,.seq 5 es),(2,.mpc [] [])]=
 bif n.fdiv 18446744073709551616 !=0 then .ret (.int .i64 2) []else bif decide (IntKind.i64.wrap (lim - (m:Int)) < 8)then .ret (.int .i64 7) []else
 bif decide (m=es.length)then bif decide (es.length+8<=9223372036854775807)&&decide ((es.length+8) * 1<=140737488355328)then
 .ret (.int .i64 0) [(0,some (.cells 111 [.qs 3 1 0 (es.length+8),.int .i64 lim,.mp 2])),(1,none),(3,some (.seq 5 (es++rb n 8)))]else .fail else .fail:=by kernel_rfl
theorem E0     (n:Int)(H:HpL)(v:SV)(ups:List (Nat × Option Chunk))(h:ae   (je   n 8 H)=some (v,ups)):ae   (opn (tbl []) Tryz.f46 [.ptr 0 0,.int .u64 n,.int .i64 8] H)=some (v,ups):=by
 unfold je at h
 split at h
 . rename_i lim
   rw[aa,cond_eq_ite]at h
   split at h
   . rename_i hc
     obtain⟨h0,h1,h2,h3⟩:=of_decide_eq_true hc
     rw[IJ,kn h0 (by simpa using h1),am (by omega) (by omega),dF0 (by omega),fv]
     exact h
   . cases h
 . rename_i m lim es
   rw[aa,cond_eq_ite]at h
   split at h
   . rename_i hc
     obtain⟨hm,h0,h1,h2,h3⟩:=of_decide_eq_true hc
     rw[IK,kn h0 (by simpa using h1),am (by omega) (by omega),dF0 (by omega),fv,dT0 hm,dT0 (by omega),dT0 (by omega)]
     exact h
   . cases h
 . cases h
def gb:ag:=fun args H=>match args with
 | [.ptr 0 0,.int .u64 n,.int .i64 k]=>.ite (decide (1<=k/\k<=8)) (je n k.toNat H) .fail
 | _=>.fail
theorem LK   :Known Tryz.prog 46 gb   :=(aj        ok0 Tryz.func46 rfl).weak (by
 intro args H v ups h
 unfold gb at h
 split at h
 . rename_i n k
   rw[aa,cond_eq_ite]at h
   split at h
   . rename_i hc
     obtain⟨h1,h8⟩:=of_decide_eq_true hc
     obtain rfl | rfl | rfl | rfl | rfl | rfl | rfl | rfl:k=1\/k=2\/k=3\/k=4\/k=5\/k=6\/k=7\/k=8:=by omega
     . exact ET n H v ups h
     . exact EU n H v ups h
     . exact EV n H v ups h
     . exact EW n H v ups h
     . exact EX n H v ups h
     . exact EY n H v ups h
     . exact EZ n H v ups h
     . exact E0 n H v ups h
   . cases h
 . cases h)
end Go.Proofs.YtnlmhpancboddaaGreat
