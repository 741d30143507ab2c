/- The reference's route of a value: what has been written is read. -/
import Derived.Test.YtnlmhpancboddaaGreatPart9
set_option linter.unusedVariables false
set_option linter.unusedSimpArgs false
namespace Go.Proofs.YtnlmhpancboddaaGreat
open Go.Am
set_option maxRecDepth 100000
def aB(p:List SV):Nat:=if 18<=p.length then 18 else 8
def idN(p:List SV)(n:Nl):Nl:=if 18<=p.length then ids ((p.drop 8).take 10) n else n
def VN1(p:List SV):Nl:=V1 p (aB p) (idN p (rd1 p 1))
def VN2(p:List SV):Nl:=bif tkP p (aB p+11) 1==32 then V2a p (aB p) (idN p (rd1 p 2))else V2b p (aB p) (idN p (rd1 p 2))
def VN3(p:List SV):Nl:=V3 p (rd1 p 3)
def VN4(p:List SV):Nl:=V4 p (aB p) (idN p (rd1 p 4))
def VN5(p:List SV):Nl:=V5 p (aB p) (idN p (rd1 p 5))
def tj(k:Int):List SV->Nl:=bif k==1 then VN1 else bif k==2 then VN2 else bif k==3 then VN3 else bif k==4 then VN4 else VN5
theorem MY{rd e0 e1 e2 e3 e4 e5 e6 e7 e8 e9 tag lab:Int}(ho:OkP ⟨1,rd,e0,e1,e2,e3,e4,e5,e6,e7,e8,e9,tag,0,0,false,0,0,0,lab,0⟩):VN1 (g8 ⟨1,rd,e0,e1,e2,e3,e4,e5,e6,e7,e8,e9,tag,0,0,false,0,0,0,lab,0⟩)=⟨1,rd,e0,e1,e2,e3,e4,e5,e6,e7,e8,e9,tag,0,0,false,0,0,0,lab,0⟩:=by
 have hx':g8 ⟨1,rd,e0,e1,e2,e3,e4,e5,e6,e7,e8,e9,tag,0,0,false,0,0,0,lab,0⟩=be rd 8++[.int .u8 e0,.int .u8 e1,.int .u8 e2,.int .u8 e3,.int .u8 e4,.int .u8 e5,.int .u8 e6,.int .u8 e7,.int .u8 e8,.int .u8 e9]++be tag 4++be lab 3:=by simp[g8]
 have hl:(g8 ⟨1,rd,e0,e1,e2,e3,e4,e5,e6,e7,e8,e9,tag,0,0,false,0,0,0,lab,0⟩).length=25:=by rw[hx'];simp[ap]
 generalize hx:g8 ⟨1,rd,e0,e1,e2,e3,e4,e5,e6,e7,e8,e9,tag,0,0,false,0,0,0,lab,0⟩=xs at hl hx'
 have t0:tkN xs 0 8=rd:=aK (pre:=[]) (by rw[hx'];simp only[nA,aA,List.append_nil];rfl) (by simp[ap]) ho.rd0 ho.rd1
 have u0:tkP xs 0 8=rd:=by unfold tkP;rw[if_pos (by omega),t0]
 have t1:(xs.drop 8).take 10=[.int .u8 e0,.int .u8 e1,.int .u8 e2,.int .u8 e3,.int .u8 e4,.int .u8 e5,.int .u8 e6,.int .u8 e7,.int .u8 e8,.int .u8 e9]:=by rw[hx'];rfl
 have t2:tkN xs 18 4=tag:=aK (pre:=be rd 8++[.int .u8 e0,.int .u8 e1,.int .u8 e2,.int .u8 e3,.int .u8 e4,.int .u8 e5,.int .u8 e6,.int .u8 e7,.int .u8 e8,.int .u8 e9]) (by rw[hx'];simp only[nA,aA,List.append_nil];rfl) (by simp[ap]) ho.tag0 ho.tag1
 have u2:tkP xs 18 4=tag:=by unfold tkP;rw[if_pos (by omega),t2]
 have t3:tkN xs 22 3=lab:=aK (pre:=be rd 8++[.int .u8 e0,.int .u8 e1,.int .u8 e2,.int .u8 e3,.int .u8 e4,.int .u8 e5,.int .u8 e6,.int .u8 e7,.int .u8 e8,.int .u8 e9]++be tag 4) (post:=[]) (by rw[hx'];simp only[nA,aA,List.append_nil]) (by simp[ap]) ho.lab0 ho.lab1
 have u3:tkP xs 22 3=lab:=by unfold tkP;rw[if_pos (by omega),t3]
 unfold VN1 V1
 rw[show aB xs=18 from if_pos (by omega),show idN xs (rd1 xs 1)=ids ((xs.drop 8).take 10) (rd1 xs 1)from if_pos (by omega)]
 unfold ids rd1
 simp only[Nat.reduceAdd,u0,t1,u2,u3]
 rw[bc (n:=tag) ho.tag0 ho.tag1,bc (n:=lab) ho.lab0 (Int.lt_trans ho.lab1 (by decide))]
 rfl
theorem MZ{rd e0 e1 e2 e3 e4 e5 e6 e7 e8 e9 tag pip plen gw lab:Int}(ho:OkP ⟨5,rd,e0,e1,e2,e3,e4,e5,e6,e7,e8,e9,tag,0,0,false,pip,plen,gw,lab,0⟩):VN5 (hO ⟨5,rd,e0,e1,e2,e3,e4,e5,e6,e7,e8,e9,tag,0,0,false,pip,plen,gw,lab,0⟩)=⟨5,rd,e0,e1,e2,e3,e4,e5,e6,e7,e8,e9,tag,0,0,false,pip,plen,gw,lab,0⟩:=by
 have hx':hO ⟨5,rd,e0,e1,e2,e3,e4,e5,e6,e7,e8,e9,tag,0,0,false,pip,plen,gw,lab,0⟩=be rd 8++[.int .u8 e0,.int .u8 e1,.int .u8 e2,.int .u8 e3,.int .u8 e4,.int .u8 e5,.int .u8 e6,.int .u8 e7,.int .u8 e8,.int .u8 e9]++be tag 4++be plen 1++be pip 4++be gw 4++be lab 3:=by simp[hO]
 have hl:(hO ⟨5,rd,e0,e1,e2,e3,e4,e5,e6,e7,e8,e9,tag,0,0,false,pip,plen,gw,lab,0⟩).length=34:=by rw[hx'];simp[ap]
 generalize hx:hO ⟨5,rd,e0,e1,e2,e3,e4,e5,e6,e7,e8,e9,tag,0,0,false,pip,plen,gw,lab,0⟩=xs at hl hx'
 have t0:tkN xs 0 8=rd:=aK (pre:=[]) (by rw[hx'];simp only[nA,aA,List.append_nil];rfl) (by simp[ap]) ho.rd0 ho.rd1
 have u0:tkP xs 0 8=rd:=by unfold tkP;rw[if_pos (by omega),t0]
 have t1:(xs.drop 8).take 10=[.int .u8 e0,.int .u8 e1,.int .u8 e2,.int .u8 e3,.int .u8 e4,.int .u8 e5,.int .u8 e6,.int .u8 e7,.int .u8 e8,.int .u8 e9]:=by rw[hx'];rfl
 have t2:tkN xs 18 4=tag:=aK (pre:=be rd 8++[.int .u8 e0,.int .u8 e1,.int .u8 e2,.int .u8 e3,.int .u8 e4,.int .u8 e5,.int .u8 e6,.int .u8 e7,.int .u8 e8,.int .u8 e9]) (by rw[hx'];simp only[nA,aA,List.append_nil];rfl) (by simp[ap]) ho.tag0 ho.tag1
 have u2:tkP xs 18 4=tag:=by unfold tkP;rw[if_pos (by omega),t2]
 have t3:tkN xs 22 1=plen:=aK (pre:=be rd 8++[.int .u8 e0,.int .u8 e1,.int .u8 e2,.int .u8 e3,.int .u8 e4,.int .u8 e5,.int .u8 e6,.int .u8 e7,.int .u8 e8,.int .u8 e9]++be tag 4) (by rw[hx'];simp only[nA,aA,List.append_nil];rfl) (by simp[ap]) ho.pl0 ho.pl1
 have u3:tkP xs 22 1=plen:=by unfold tkP;rw[if_pos (by omega),t3]
 have t4:tkN xs 23 4=pip:=aK (pre:=be rd 8++[.int .u8 e0,.int .u8 e1,.int .u8 e2,.int .u8 e3,.int .u8 e4,.int .u8 e5,.int .u8 e6,.int .u8 e7,.int .u8 e8,.int .u8 e9]++be tag 4++be plen 1) (by rw[hx'];simp only[nA,aA,List.append_nil];rfl) (by simp[ap]) ho.pip0 ho.pip1
 have u4:tkP xs 23 4=pip:=by unfold tkP;rw[if_pos (by omega),t4]
 have t5:tkN xs 27 4=gw:=aK (pre:=be rd 8++[.int .u8 e0,.int .u8 e1,.int .u8 e2,.int .u8 e3,.int .u8 e4,.int .u8 e5,.int .u8 e6,.int .u8 e7,.int .u8 e8,.int .u8 e9]++be tag 4++be plen 1++be pip 4) (by rw[hx'];simp only[nA,aA,List.append_nil];rfl) (by simp[ap]) ho.gw0 ho.gw1
 have u5:tkP xs 27 4=gw:=by unfold tkP;rw[if_pos (by omega),t5]
 have t6:tkN xs 31 3=lab:=aK (pre:=be rd 8++[.int .u8 e0,.int .u8 e1,.int .u8 e2,.int .u8 e3,.int .u8 e4,.int .u8 e5,.int .u8 e6,.int .u8 e7,.int .u8 e8,.int .u8 e9]++be tag 4++be plen 1++be pip 4++be gw 4) (post:=[]) (by rw[hx'];simp only[nA,aA,List.append_nil]) (by simp[ap]) ho.lab0 ho.lab1
 have u6:tkP xs 31 3=lab:=by unfold tkP;rw[if_pos (by omega),t6]
 unfold VN5 V5
 rw[show aB xs=18 from if_pos (by omega),show idN xs (rd1 xs 5)=ids ((xs.drop 8).take 10) (rd1 xs 5)from if_pos (by omega)]
 unfold ids rd1
 simp only[Nat.reduceAdd,u0,t1,u2,u3,u4,u5,u6]
 rw[bc (n:=tag) ho.tag0 ho.tag1,bc (n:=pip) ho.pip0 ho.pip1,bc (n:=gw) ho.gw0 ho.gw1,bc (n:=lab) ho.lab0 (Int.lt_trans ho.lab1 (by decide)),ai (n:=plen) (by have:=ho.pl0;simp only at this;omega) (by have:=ho.pl1;simp only at this;omega)]
 rfl
theorem M0{rd tag ip:Int}(ho:OkP ⟨3,rd,0,0,0,0,0,0,0,0,0,0,tag,0,ip,true,0,0,0,0,0⟩):VN3 (g9 ⟨3,rd,0,0,0,0,0,0,0,0,0,0,tag,0,ip,true,0,0,0,0,0⟩)=⟨3,rd,0,0,0,0,0,0,0,0,0,0,tag,0,ip,true,0,0,0,0,0⟩:=by
 have hx':g9 ⟨3,rd,0,0,0,0,0,0,0,0,0,0,tag,0,ip,true,0,0,0,0,0⟩=be rd 8++be tag 4++be 32 1++be ip 4:=by simp[g9]
 have hl:(g9 ⟨3,rd,0,0,0,0,0,0,0,0,0,0,tag,0,ip,true,0,0,0,0,0⟩).length=17:=by rw[hx'];simp[ap]
 generalize hx:g9 ⟨3,rd,0,0,0,0,0,0,0,0,0,0,tag,0,ip,true,0,0,0,0,0⟩=xs at hl hx'
 have t0:tkN xs 0 8=rd:=aK (pre:=[]) (by rw[hx'];simp only[nA,aA,List.append_nil];rfl) (by simp[ap]) ho.rd0 ho.rd1
 have u0:tkP xs 0 8=rd:=by unfold tkP;rw[if_pos (by omega),t0]
 have t1:tkN xs 8 4=tag:=aK (pre:=be rd 8) (by rw[hx'];simp only[nA,aA,List.append_nil];rfl) (by simp[ap]) ho.tag0 ho.tag1
 have u1:tkP xs 8 4=tag:=by unfold tkP;rw[if_pos (by omega),t1]
 have t2:tkN xs 12 1=32:=aK (pre:=be rd 8++be tag 4) (by rw[hx'];simp only[nA,aA,List.append_nil];rfl) (by simp[ap]) (by decide) (by decide)
 have u2:tkP xs 12 1=32:=by unfold tkP;rw[if_pos (by omega),t2]
 have t3:tkN xs 13 4=ip:=aK (pre:=be rd 8++be tag 4++be 32 1) (post:=[]) (by rw[hx'];simp only[nA,aA,List.append_nil]) (by simp[ap]) ho.ip0 ho.ip1
 have u3:tkP xs 13 4=ip:=by unfold tkP;rw[if_pos (by omega),t3]
 unfold VN3 V3
 unfold rd1
 simp only[Nat.reduceAdd,u0,u1,u2,u3,beq_self_eq_true,cT]
 rw[bc (n:=tag) ho.tag0 ho.tag1,bc (n:=ip) ho.ip0 ho.ip1]
 rfl
theorem M1{rd e0 e1 e2 e3 e4 e5 e6 e7 e8 e9 ip:Int}(ho:OkP ⟨4,rd,e0,e1,e2,e3,e4,e5,e6,e7,e8,e9,0,0,ip,true,0,0,0,0,0⟩):VN4 (hJ ⟨4,rd,e0,e1,e2,e3,e4,e5,e6,e7,e8,e9,0,0,ip,true,0,0,0,0,0⟩)=⟨4,rd,e0,e1,e2,e3,e4,e5,e6,e7,e8,e9,0,0,ip,true,0,0,0,0,0⟩:=by
 have hx':hJ ⟨4,rd,e0,e1,e2,e3,e4,e5,e6,e7,e8,e9,0,0,ip,true,0,0,0,0,0⟩=be rd 8++[.int .u8 e0,.int .u8 e1,.int .u8 e2,.int .u8 e3,.int .u8 e4,.int .u8 e5,.int .u8 e6,.int .u8 e7,.int .u8 e8,.int .u8 e9]++be 32 1++be ip 4:=by simp[hJ]
 have hl:(hJ ⟨4,rd,e0,e1,e2,e3,e4,e5,e6,e7,e8,e9,0,0,ip,true,0,0,0,0,0⟩).length=23:=by rw[hx'];simp[ap]
 generalize hx:hJ ⟨4,rd,e0,e1,e2,e3,e4,e5,e6,e7,e8,e9,0,0,ip,true,0,0,0,0,0⟩=xs at hl hx'
 have t0:tkN xs 0 8=rd:=aK (pre:=[]) (by rw[hx'];simp only[nA,aA,List.append_nil];rfl) (by simp[ap]) ho.rd0 ho.rd1
 have u0:tkP xs 0 8=rd:=by unfold tkP;rw[if_pos (by omega),t0]
 have t1:(xs.drop 8).take 10=[.int .u8 e0,.int .u8 e1,.int .u8 e2,.int .u8 e3,.int .u8 e4,.int .u8 e5,.int .u8 e6,.int .u8 e7,.int .u8 e8,.int .u8 e9]:=by rw[hx'];rfl
 have t2:tkN xs 18 1=32:=aK (pre:=be rd 8++[.int .u8 e0,.int .u8 e1,.int .u8 e2,.int .u8 e3,.int .u8 e4,.int .u8 e5,.int .u8 e6,.int .u8 e7,.int .u8 e8,.int .u8 e9]) (by rw[hx'];simp only[nA,aA,List.append_nil];rfl) (by simp[ap]) (by decide) (by decide)
 have u2:tkP xs 18 1=32:=by unfold tkP;rw[if_pos (by omega),t2]
 have t3:tkN xs 19 4=ip:=aK (pre:=be rd 8++[.int .u8 e0,.int .u8 e1,.int .u8 e2,.int .u8 e3,.int .u8 e4,.int .u8 e5,.int .u8 e6,.int .u8 e7,.int .u8 e8,.int .u8 e9]++be 32 1) (post:=[]) (by rw[hx'];simp only[nA,aA,List.append_nil]) (by simp[ap]) ho.ip0 ho.ip1
 have u3:tkP xs 19 4=ip:=by unfold tkP;rw[if_pos (by omega),t3]
 unfold VN4 V4
 rw[show aB xs=18 from if_pos (by omega),show idN xs (rd1 xs 4)=ids ((xs.drop 8).take 10) (rd1 xs 4)from if_pos (by omega)]
 unfold ids rd1
 simp only[Nat.reduceAdd,u0,t1,u2,u3,beq_self_eq_true,cT]
 rw[bc (n:=ip) ho.ip0 ho.ip1]
 rfl
theorem J1{rd e0 e1 e2 e3 e4 e5 e6 e7 e8 e9 tag mac ip lab:Int}(ho:OkP ⟨2,rd,e0,e1,e2,e3,e4,e5,e6,e7,e8,e9,tag,mac,ip,true,0,0,0,lab,0⟩):VN2 (bI ⟨2,rd,e0,e1,e2,e3,e4,e5,e6,e7,e8,e9,tag,mac,ip,true,0,0,0,lab,0⟩)=⟨2,rd,e0,e1,e2,e3,e4,e5,e6,e7,e8,e9,tag,mac,ip,true,0,0,0,lab,0⟩:=by
 have hx':bI ⟨2,rd,e0,e1,e2,e3,e4,e5,e6,e7,e8,e9,tag,mac,ip,true,0,0,0,lab,0⟩=be rd 8++[.int .u8 e0,.int .u8 e1,.int .u8 e2,.int .u8 e3,.int .u8 e4,.int .u8 e5,.int .u8 e6,.int .u8 e7,.int .u8 e8,.int .u8 e9]++be tag 4++be 48 1++be mac 6++be 32 1++be ip 4++be lab 3:=by simp[bI]
 have hl:(bI ⟨2,rd,e0,e1,e2,e3,e4,e5,e6,e7,e8,e9,tag,mac,ip,true,0,0,0,lab,0⟩).length=37:=by rw[hx'];simp[ap]
 generalize hx:bI ⟨2,rd,e0,e1,e2,e3,e4,e5,e6,e7,e8,e9,tag,mac,ip,true,0,0,0,lab,0⟩=xs at hl hx'
 have t0:tkN xs 0 8=rd:=aK (pre:=[]) (by rw[hx'];simp only[nA,aA,List.append_nil];rfl) (by simp[ap]) ho.rd0 ho.rd1
 have u0:tkP xs 0 8=rd:=by unfold tkP;rw[if_pos (by omega),t0]
 have t1:(xs.drop 8).take 10=[.int .u8 e0,.int .u8 e1,.int .u8 e2,.int .u8 e3,.int .u8 e4,.int .u8 e5,.int .u8 e6,.int .u8 e7,.int .u8 e8,.int .u8 e9]:=by rw[hx'];rfl
 have t2:tkN xs 18 4=tag:=aK (pre:=be rd 8++[.int .u8 e0,.int .u8 e1,.int .u8 e2,.int .u8 e3,.int .u8 e4,.int .u8 e5,.int .u8 e6,.int .u8 e7,.int .u8 e8,.int .u8 e9]) (by rw[hx'];simp only[nA,aA,List.append_nil];rfl) (by simp[ap]) ho.tag0 ho.tag1
 have u2:tkP xs 18 4=tag:=by unfold tkP;rw[if_pos (by omega),t2]
 have t3:tkN xs 22 1=48:=aK (pre:=be rd 8++[.int .u8 e0,.int .u8 e1,.int .u8 e2,.int .u8 e3,.int .u8 e4,.int .u8 e5,.int .u8 e6,.int .u8 e7,.int .u8 e8,.int .u8 e9]++be tag 4) (by rw[hx'];simp only[nA,aA,List.append_nil];rfl) (by simp[ap]) (by decide) (by decide)
 have u3:tkP xs 22 1=48:=by unfold tkP;rw[if_pos (by omega),t3]
 have t4:tkN xs 23 6=mac:=aK (pre:=be rd 8++[.int .u8 e0,.int .u8 e1,.int .u8 e2,.int .u8 e3,.int .u8 e4,.int .u8 e5,.int .u8 e6,.int .u8 e7,.int .u8 e8,.int .u8 e9]++be tag 4++be 48 1) (by rw[hx'];simp only[nA,aA,List.append_nil];rfl) (by simp[ap]) ho.mac0 ho.mac1
 have u4:tkP xs 23 6=mac:=by unfold tkP;rw[if_pos (by omega),t4]
 have t5:tkN xs 29 1=32:=aK (pre:=be rd 8++[.int .u8 e0,.int .u8 e1,.int .u8 e2,.int .u8 e3,.int .u8 e4,.int .u8 e5,.int .u8 e6,.int .u8 e7,.int .u8 e8,.int .u8 e9]++be tag 4++be 48 1++be mac 6) (by rw[hx'];simp only[nA,aA,List.append_nil];rfl) (by simp[ap]) (by decide) (by decide)
 have u5:tkP xs 29 1=32:=by unfold tkP;rw[if_pos (by omega),t5]
 have t6:tkN xs 30 4=ip:=aK (pre:=be rd 8++[.int .u8 e0,.int .u8 e1,.int .u8 e2,.int .u8 e3,.int .u8 e4,.int .u8 e5,.int .u8 e6,.int .u8 e7,.int .u8 e8,.int .u8 e9]++be tag 4++be 48 1++be mac 6++be 32 1) (by rw[hx'];simp only[nA,aA,List.append_nil];rfl) (by simp[ap]) ho.ip0 ho.ip1
 have u6:tkP xs 30 4=ip:=by unfold tkP;rw[if_pos (by omega),t6]
 have t7:tkN xs 34 3=lab:=aK (pre:=be rd 8++[.int .u8 e0,.int .u8 e1,.int .u8 e2,.int .u8 e3,.int .u8 e4,.int .u8 e5,.int .u8 e6,.int .u8 e7,.int .u8 e8,.int .u8 e9]++be tag 4++be 48 1++be mac 6++be 32 1++be ip 4) (post:=[]) (by rw[hx'];simp only[nA,aA,List.append_nil]) (by simp[ap]) ho.lab0 ho.lab1
 have u7:tkP xs 34 3=lab:=by unfold tkP;rw[if_pos (by omega),t7]
 have ux:tkP xs 37 3=0:=by unfold tkP;rw[if_neg (by omega)]
 unfold VN2 V2a V2b
 rw[show aB xs=18 from if_pos (by omega),show idN xs (rd1 xs 2)=ids ((xs.drop 8).take 10) (rd1 xs 2)from if_pos (by omega)]
 unfold ids rd1
 simp only[Nat.reduceAdd,u0,t1,u2,u3,u4,u5,u6,u7,ux,beq_self_eq_true,cT]
 rw[bc (n:=tag) ho.tag0 ho.tag1,bc (n:=ip) ho.ip0 ho.ip1,bc (n:=lab) ho.lab0 (Int.lt_trans ho.lab1 (by decide))]
 rfl
theorem J2{rd e0 e1 e2 e3 e4 e5 e6 e7 e8 e9 tag mac ip lab lab2:Int}(ho:OkP ⟨2,rd,e0,e1,e2,e3,e4,e5,e6,e7,e8,e9,tag,mac,ip,true,0,0,0,lab,lab2⟩)(h2:(lab2 !=0)=true):VN2 (bI ⟨2,rd,e0,e1,e2,e3,e4,e5,e6,e7,e8,e9,tag,mac,ip,true,0,0,0,lab,lab2⟩)=⟨2,rd,e0,e1,e2,e3,e4,e5,e6,e7,e8,e9,tag,mac,ip,true,0,0,0,lab,lab2⟩:=by
 have hx':bI ⟨2,rd,e0,e1,e2,e3,e4,e5,e6,e7,e8,e9,tag,mac,ip,true,0,0,0,lab,lab2⟩=be rd 8++[.int .u8 e0,.int .u8 e1,.int .u8 e2,.int .u8 e3,.int .u8 e4,.int .u8 e5,.int .u8 e6,.int .u8 e7,.int .u8 e8,.int .u8 e9]++be tag 4++be 48 1++be mac 6++be 32 1++be ip 4++be lab 3++be lab2 3:=by simp[bI,h2]
 have hl:(bI ⟨2,rd,e0,e1,e2,e3,e4,e5,e6,e7,e8,e9,tag,mac,ip,true,0,0,0,lab,lab2⟩).length=40:=by rw[hx'];simp[ap]
 generalize hx:bI ⟨2,rd,e0,e1,e2,e3,e4,e5,e6,e7,e8,e9,tag,mac,ip,true,0,0,0,lab,lab2⟩=xs at hl hx'
 have t0:tkN xs 0 8=rd:=aK (pre:=[]) (by rw[hx'];simp only[nA,aA,List.append_nil];rfl) (by simp[ap]) ho.rd0 ho.rd1
 have u0:tkP xs 0 8=rd:=by unfold tkP;rw[if_pos (by omega),t0]
 have t1:(xs.drop 8).take 10=[.int .u8 e0,.int .u8 e1,.int .u8 e2,.int .u8 e3,.int .u8 e4,.int .u8 e5,.int .u8 e6,.int .u8 e7,.int .u8 e8,.int .u8 e9]:=by rw[hx'];rfl
 have t2:tkN xs 18 4=tag:=aK (pre:=be rd 8++[.int .u8 e0,.int .u8 e1,.int .u8 e2,.int .u8 e3,.int .u8 e4,.int .u8 e5,.int .u8 e6,.int .u8 e7,.int .u8 e8,.int .u8 e9]) (by rw[hx'];simp only[nA,aA,List.append_nil];rfl) (by simp[ap]) ho.tag0 ho.tag1
 have u2:tkP xs 18 4=tag:=by unfold tkP;rw[if_pos (by omega),t2]
 have t3:tkN xs 22 1=48:=aK (pre:=be rd 8++[.int .u8 e0,.int .u8 e1,.int .u8 e2,.int .u8 e3,.int .u8 e4,.int .u8 e5,.int .u8 e6,.int .u8 e7,.int .u8 e8,.int .u8 e9]++be tag 4) (by rw[hx'];simp only[nA,aA,List.append_nil];rfl) (by simp[ap]) (by decide) (by decide)
 have u3:tkP xs 22 1=48:=by unfold tkP;rw[if_pos (by omega),t3]
 have t4:tkN xs 23 6=mac:=aK (pre:=be rd 8++[.int .u8 e0,.int .u8 e1,.int .u8 e2,.int .u8 e3,.int .u8 e4,.int .u8 e5,.int .u8 e6,.int .u8 e7,.int .u8 e8,.int .u8 e9]++be tag 4++be 48 1) (by rw[hx'];simp only[nA,aA,List.append_nil];rfl) (by simp[ap]) ho.mac0 ho.mac1
 have u4:tkP xs 23 6=mac:=by unfold tkP;rw[if_pos (by omega),t4]
 have t5:tkN xs 29 1=32:=aK (pre:=be rd 8++[.int .u8 e0,.int .u8 e1,.int .u8 e2,.int .u8 e3,.int .u8 e4,.int .u8 e5,.int .u8 e6,.int .u8 e7,.int .u8 e8,.int .u8 e9]++be tag 4++be 48 1++be mac 6) (by rw[hx'];simp only[nA,aA,List.append_nil];rfl) (by simp[ap]) (by decide) (by decide)
 have u5:tkP xs 29 1=32:=by unfold tkP;rw[if_pos (by omega),t5]
 have t6:tkN xs 30 4=ip:=aK (pre:=be rd 8++[.int .u8 e0,.int .u8 e1,.int .u8 e2,.int .u8 e3,.int .u8 e4,.int .u8 e5,.int .u8 e6,.int .u8 e7,.int .u8 e8,.int .u8 e9]++be tag 4++be 48 1++be mac 6++be 32 1) (by rw[hx'];simp only[nA,aA,List.append_nil];rfl) (by simp[ap]) ho.ip0 ho.ip1
 have u6:tkP xs 30 4=ip:=by unfold tkP;rw[if_pos (by omega),t6]
 have t7:tkN xs 34 3=lab:=aK (pre:=be rd 8++[.int .u8 e0,.int .u8 e1,.int .u8 e2,.int .u8 e3,.int .u8 e4,.int .u8 e5,.int .u8 e6,.int .u8 e7,.int .u8 e8,.int .u8 e9]++be tag 4++be 48 1++be mac 6++be 32 1++be ip 4) (by rw[hx'];simp only[nA,aA,List.append_nil];rfl) (by simp[ap]) ho.lab0 ho.lab1
 have u7:tkP xs 34 3=lab:=by unfold tkP;rw[if_pos (by omega),t7]
 have t8:tkN xs 37 3=lab2:=aK (pre:=be rd 8++[.int .u8 e0,.int .u8 e1,.int .u8 e2,.int .u8 e3,.int .u8 e4,.int .u8 e5,.int .u8 e6,.int .u8 e7,.int .u8 e8,.int .u8 e9]++be tag 4++be 48 1++be mac 6++be 32 1++be ip 4++be lab 3) (post:=[]) (by rw[hx'];simp only[nA,aA,List.append_nil]) (by simp[ap]) ho.lac0 ho.lac1
 have u8:tkP xs 37 3=lab2:=by unfold tkP;rw[if_pos (by omega),t8]
 unfold VN2 V2a V2b
 rw[show aB xs=18 from if_pos (by omega),show idN xs (rd1 xs 2)=ids ((xs.drop 8).take 10) (rd1 xs 2)from if_pos (by omega)]
 unfold ids rd1
 simp only[Nat.reduceAdd,u0,t1,u2,u3,u4,u5,u6,u7,u8,beq_self_eq_true,cT]
 rw[bc (n:=tag) ho.tag0 ho.tag1,bc (n:=ip) ho.ip0 ho.ip1,bc (n:=lab) ho.lab0 (Int.lt_trans ho.lab1 (by decide)),bc (n:=lab2) ho.lac0 (Int.lt_trans ho.lac1 (by decide))]
 rfl
theorem J3{rd e0 e1 e2 e3 e4 e5 e6 e7 e8 e9 tag mac lab:Int}(ho:OkP ⟨2,rd,e0,e1,e2,e3,e4,e5,e6,e7,e8,e9,tag,mac,0,false,0,0,0,lab,0⟩):VN2 (bI ⟨2,rd,e0,e1,e2,e3,e4,e5,e6,e7,e8,e9,tag,mac,0,false,0,0,0,lab,0⟩)=⟨2,rd,e0,e1,e2,e3,e4,e5,e6,e7,e8,e9,tag,mac,0,false,0,0,0,lab,0⟩:=by
 have hx':bI ⟨2,rd,e0,e1,e2,e3,e4,e5,e6,e7,e8,e9,tag,mac,0,false,0,0,0,lab,0⟩=be rd 8++[.int .u8 e0,.int .u8 e1,.int .u8 e2,.int .u8 e3,.int .u8 e4,.int .u8 e5,.int .u8 e6,.int .u8 e7,.int .u8 e8,.int .u8 e9]++be tag 4++be 48 1++be mac 6++be 0 1++be lab 3:=by simp[bI]
 have hl:(bI ⟨2,rd,e0,e1,e2,e3,e4,e5,e6,e7,e8,e9,tag,mac,0,false,0,0,0,lab,0⟩).length=33:=by rw[hx'];simp[ap]
 generalize hx:bI ⟨2,rd,e0,e1,e2,e3,e4,e5,e6,e7,e8,e9,tag,mac,0,false,0,0,0,lab,0⟩=xs at hl hx'
 have t0:tkN xs 0 8=rd:=aK (pre:=[]) (by rw[hx'];simp only[nA,aA,List.append_nil];rfl) (by simp[ap]) ho.rd0 ho.rd1
 have u0:tkP xs 0 8=rd:=by unfold tkP;rw[if_pos (by omega),t0]
 have t1:(xs.drop 8).take 10=[.int .u8 e0,.int .u8 e1,.int .u8 e2,.int .u8 e3,.int .u8 e4,.int .u8 e5,.int .u8 e6,.int .u8 e7,.int .u8 e8,.int .u8 e9]:=by rw[hx'];rfl
 have t2:tkN xs 18 4=tag:=aK (pre:=be rd 8++[.int .u8 e0,.int .u8 e1,.int .u8 e2,.int .u8 e3,.int .u8 e4,.int .u8 e5,.int .u8 e6,.int .u8 e7,.int .u8 e8,.int .u8 e9]) (by rw[hx'];simp only[nA,aA,List.append_nil];rfl) (by simp[ap]) ho.tag0 ho.tag1
 have u2:tkP xs 18 4=tag:=by unfold tkP;rw[if_pos (by omega),t2]
 have t3:tkN xs 22 1=48:=aK (pre:=be rd 8++[.int .u8 e0,.int .u8 e1,.int .u8 e2,.int .u8 e3,.int .u8 e4,.int .u8 e5,.int .u8 e6,.int .u8 e7,.int .u8 e8,.int .u8 e9]++be tag 4) (by rw[hx'];simp only[nA,aA,List.append_nil];rfl) (by simp[ap]) (by decide) (by decide)
 have u3:tkP xs 22 1=48:=by unfold tkP;rw[if_pos (by omega),t3]
 have t4:tkN xs 23 6=mac:=aK (pre:=be rd 8++[.int .u8 e0,.int .u8 e1,.int .u8 e2,.int .u8 e3,.int .u8 e4,.int .u8 e5,.int .u8 e6,.int .u8 e7,.int .u8 e8,.int .u8 e9]++be tag 4++be 48 1) (by rw[hx'];simp only[nA,aA,List.append_nil];rfl) (by simp[ap]) ho.mac0 ho.mac1
 have u4:tkP xs 23 6=mac:=by unfold tkP;rw[if_pos (by omega),t4]
 have t5:tkN xs 29 1=0:=aK (pre:=be rd 8++[.int .u8 e0,.int .u8 e1,.int .u8 e2,.int .u8 e3,.int .u8 e4,.int .u8 e5,.int .u8 e6,.int .u8 e7,.int .u8 e8,.int .u8 e9]++be tag 4++be 48 1++be mac 6) (by rw[hx'];simp only[nA,aA,List.append_nil];rfl) (by simp[ap]) (by decide) (by decide)
 have u5:tkP xs 29 1=0:=by unfold tkP;rw[if_pos (by omega),t5]
 have t6:tkN xs 30 3=lab:=aK (pre:=be rd 8++[.int .u8 e0,.int .u8 e1,.int .u8 e2,.int .u8 e3,.int .u8 e4,.int .u8 e5,.int .u8 e6,.int .u8 e7,.int .u8 e8,.int .u8 e9]++be tag 4++be 48 1++be mac 6++be 0 1) (post:=[]) (by rw[hx'];simp only[nA,aA,List.append_nil]) (by simp[ap]) ho.lab0 ho.lab1
 have u6:tkP xs 30 3=lab:=by unfold tkP;rw[if_pos (by omega),t6]
 have ux:tkP xs 33 3=0:=by unfold tkP;rw[if_neg (by omega)]
 unfold VN2 V2a V2b
 rw[show aB xs=18 from if_pos (by omega),show idN xs (rd1 xs 2)=ids ((xs.drop 8).take 10) (rd1 xs 2)from if_pos (by omega)]
 unfold ids rd1
 simp only[Nat.reduceAdd,u0,t1,u2,u3,u4,u5,u6,ux,show((0:Int)==32)=false from rfl,cF]
 rw[bc (n:=tag) ho.tag0 ho.tag1,bc (n:=lab) ho.lab0 (Int.lt_trans ho.lab1 (by decide))]
 rfl
theorem J4{rd e0 e1 e2 e3 e4 e5 e6 e7 e8 e9 tag mac lab lab2:Int}(ho:OkP ⟨2,rd,e0,e1,e2,e3,e4,e5,e6,e7,e8,e9,tag,mac,0,false,0,0,0,lab,lab2⟩)(h2:(lab2 !=0)=true):VN2 (bI ⟨2,rd,e0,e1,e2,e3,e4,e5,e6,e7,e8,e9,tag,mac,0,false,0,0,0,lab,lab2⟩)=⟨2,rd,e0,e1,e2,e3,e4,e5,e6,e7,e8,e9,tag,mac,0,false,0,0,0,lab,lab2⟩:=by
 have hx':bI ⟨2,rd,e0,e1,e2,e3,e4,e5,e6,e7,e8,e9,tag,mac,0,false,0,0,0,lab,lab2⟩=be rd 8++[.int .u8 e0,.int .u8 e1,.int .u8 e2,.int .u8 e3,.int .u8 e4,.int .u8 e5,.int .u8 e6,.int .u8 e7,.int .u8 e8,.int .u8 e9]++be tag 4++be 48 1++be mac 6++be 0 1++be lab 3++be lab2 3:=by simp[bI,h2]
 have hl:(bI ⟨2,rd,e0,e1,e2,e3,e4,e5,e6,e7,e8,e9,tag,mac,0,false,0,0,0,lab,lab2⟩).length=36:=by rw[hx'];simp[ap]
 generalize hx:bI ⟨2,rd,e0,e1,e2,e3,e4,e5,e6,e7,e8,e9,tag,mac,0,false,0,0,0,lab,lab2⟩=xs at hl hx'
 have t0:tkN xs 0 8=rd:=aK (pre:=[]) (by rw[hx'];simp only[nA,aA,List.append_nil];rfl) (by simp[ap]) ho.rd0 ho.rd1
 have u0:tkP xs 0 8=rd:=by unfold tkP;rw[if_pos (by omega),t0]
 have t1:(xs.drop 8).take 10=[.int .u8 e0,.int .u8 e1,.int .u8 e2,.int .u8 e3,.int .u8 e4,.int .u8 e5,.int .u8 e6,.int .u8 e7,.int .u8 e8,.int .u8 e9]:=by rw[hx'];rfl
 have t2:tkN xs 18 4=tag:=aK (pre:=be rd 8++[.int .u8 e0,.int .u8 e1,.int .u8 e2,.int .u8 e3,.int .u8 e4,.int .u8 e5,.int .u8 e6,.int .u8 e7,.int .u8 e8,.int .u8 e9]) (by rw[hx'];simp only[nA,aA,List.append_nil];rfl) (by simp[ap]) ho.tag0 ho.tag1
 have u2:tkP xs 18 4=tag:=by unfold tkP;rw[if_pos (by omega),t2]
 have t3:tkN xs 22 1=48:=aK (pre:=be rd 8++[.int .u8 e0,.int .u8 e1,.int .u8 e2,.int .u8 e3,.int .u8 e4,.int .u8 e5,.int .u8 e6,.int .u8 e7,.int .u8 e8,.int .u8 e9]++be tag 4) (by rw[hx'];simp only[nA,aA,List.append_nil];rfl) (by simp[ap]) (by decide) (by decide)
 have u3:tkP xs 22 1=48:=by unfold tkP;rw[if_pos (by omega),t3]
 have t4:tkN xs 23 6=mac:=aK (pre:=be rd 8++[.int .u8 e0,.int .u8 e1,.int .u8 e2,.int .u8 e3,.int .u8 e4,.int .u8 e5,.int .u8 e6,.int .u8 e7,.int .u8 e8,.int .u8 e9]++be tag 4++be 48 1) (by rw[hx'];simp only[nA,aA,List.append_nil];rfl) (by simp[ap]) ho.mac0 ho.mac1
 have u4:tkP xs 23 6=mac:=by unfold tkP;rw[if_pos (by omega),t4]
 have t5:tkN xs 29 1=0:=aK (pre:=be rd 8++[.int .u8 e0,.int .u8 e1,.int .u8 e2,.int .u8 e3,.int .u8 e4,.int .u8 e5,.int .u8 e6,.int .u8 e7,.int .u8 e8,.int .u8 e9]++be tag 4++be 48 1++be mac 6) (by rw[hx'];simp only[nA,aA,List.append_nil];rfl) (by simp[ap]) (by decide) (by decide)
 have u5:tkP xs 29 1=0:=by unfold tkP;rw[if_pos (by omega),t5]
 have t6:tkN xs 30 3=lab:=aK (pre:=be rd 8++[.int .u8 e0,.int .u8 e1,.int .u8 e2,.int .u8 e3,.int .u8 e4,.int .u8 e5,.int .u8 e6,.int .u8 e7,.int .u8 e8,.int .u8 e9]++be tag 4++be 48 1++be mac 6++be 0 1) (by rw[hx'];simp only[nA,aA,List.append_nil];rfl) (by simp[ap]) ho.lab0 ho.lab1
 have u6:tkP xs 30 3=lab:=by unfold tkP;rw[if_pos (by omega),t6]
 have t7:tkN xs 33 3=lab2:=aK (pre:=be rd 8++[.int .u8 e0,.int .u8 e1,.int .u8 e2,.int .u8 e3,.int .u8 e4,.int .u8 e5,.int .u8 e6,.int .u8 e7,.int .u8 e8,.int .u8 e9]++be tag 4++be 48 1++be mac 6++be 0 1++be lab 3) (post:=[]) (by rw[hx'];simp only[nA,aA,List.append_nil]) (by simp[ap]) ho.lac0 ho.lac1
 have u7:tkP xs 33 3=lab2:=by unfold tkP;rw[if_pos (by omega),t7]
 unfold VN2 V2a V2b
 rw[show aB xs=18 from if_pos (by omega),show idN xs (rd1 xs 2)=ids ((xs.drop 8).take 10) (rd1 xs 2)from if_pos (by omega)]
 unfold ids rd1
 simp only[Nat.reduceAdd,u0,t1,u2,u3,u4,u5,u6,u7,show((0:Int)==32)=false from rfl,cF]
 rw[bc (n:=tag) ho.tag0 ho.tag1,bc (n:=lab) ho.lab0 (Int.lt_trans ho.lab1 (by decide)),bc (n:=lab2) ho.lac0 (Int.lt_trans ho.lac1 (by decide))]
 rfl
end Go.Proofs.YtnlmhpancboddaaGreat
namespace Go.Proofs.YtnlmhpancboddaaGreat
open Go.Am
set_option maxRecDepth 100000
theorem GD{p:List SV}(h:mN p)(a k:Nat):0<=tkP p a k/\tkP p a k < 256 ^ k:=by
 have hp:(0:Int) < 256 ^ k:=Int.pow_pos (by decide)
 unfold tkP
 split
 . exact aX h a k
 . exact⟨Int.le_refl _,hp⟩
theorem JQ{p:List SV}(h:byl p){n:Nl}(hn:RgE n):RgE (idN p n):=by
 unfold idN
 split
 . exact o6 (fun v hv=>h v (List.mem_of_mem_drop (List.mem_of_mem_take hv))) n
 . exact hn
theorem Dv{p:List SV}(k:Int):RgE (rd1 p k):=zE k
theorem idN_rd{p:List SV}{n:Nl}:(idN p n).rd=n.rd/\(idN p n).kind=n.kind/\(idN p n).tag=n.tag/\(idN p n).mac=n.mac/\(idN p n).ip=n.ip/\(idN p n).pip=n.pip/\(idN p n).gw=n.gw/\(idN p n).lab=n.lab/\(idN p n).lab2=n.lab2:=by
 unfold idN
 split <;> exact⟨rfl,rfl,rfl,rfl,rfl,rfl,rfl,rfl,rfl⟩
theorem zc{x B:Int}(h:x=0)(hB:0 < B):0<=x/\x < B:=by rw[h];exact⟨Int.le_refl _,hB⟩
theorem GE{p:List SV}(h:byl p)(k:Int)(hk:k=1\/k=2\/k=3\/k=4\/k=5):RgN (tj k p)/\RgE (tj k p)/\(tj k p).kind=k:=by
 have hr:=fun a k=>GD h.ok a k
 have hrd:∀ k,0<=(idN p (rd1 p k)).rd/\(idN p (rd1 p k)).rd < 18446744073709551616:=fun k=>by rw[idN_rd.1];exact p8 (hr 0 8)
 have z1:∀ k,(idN p (rd1 p k)).mac=0:=fun k=>by rw[idN_rd.2.2.2.1];rfl
 have z2:∀ k,(idN p (rd1 p k)).ip=0:=fun k=>by rw[idN_rd.2.2.2.2.1];rfl
 have z3:∀ k,(idN p (rd1 p k)).pip=0:=fun k=>by rw[idN_rd.2.2.2.2.2.1];rfl
 have z4:∀ k,(idN p (rd1 p k)).gw=0:=fun k=>by rw[idN_rd.2.2.2.2.2.2.1];rfl
 have z5:∀ k,(idN p (rd1 p k)).lab=0:=fun k=>by rw[idN_rd.2.2.2.2.2.2.2.1];rfl
 have z6':∀ k,(idN p (rd1 p k)).lab2=0:=fun k=>by rw[idN_rd.2.2.2.2.2.2.2.2];rfl
 have z7:∀ k,(idN p (rd1 p k)).tag=0:=fun k=>by rw[idN_rd.2.2.1];rfl
 have z8:∀ k,(idN p (rd1 p k)).kind=k:=fun k=>by rw[idN_rd.2.1];rfl
 have hE:∀ k,RgE (idN p (rd1 p k)):=fun k=>JQ h (Dv k)
 rcases hk with rfl | rfl | rfl | rfl | rfl
 . refine⟨⟨hrd 1,bR _,?_,?_,?_,?_,bR _,?_⟩,hE 1,z8 1⟩
   . exact zc (z1 1) (by decide)
   . exact zc (z2 1) (by decide)
   . exact zc (z3 1) (by decide)
   . exact zc (z4 1) (by decide)
   . exact zc (z6' 1) (by decide)
 . show RgN (VN2 p)/\RgE (VN2 p)/\(VN2 p).kind=2
   unfold VN2
   cases tkP p (aB p+11) 1==32 with
   | true=>
    refine⟨⟨hrd 2,bR _,p6 (hr _ _),bR _,?_,?_,bR _,bR _⟩,hE 2,z8 2⟩
    . exact zc (z3 2) (by decide)
    . exact zc (z4 2) (by decide)
   | false=>
    refine⟨⟨hrd 2,bR _,p6 (hr _ _),?_,?_,?_,bR _,bR _⟩,hE 2,z8 2⟩
    . exact zc (z2 2) (by decide)
    . exact zc (z3 2) (by decide)
    . exact zc (z4 2) (by decide)
 . exact⟨⟨p8 (hr 0 8),bR _,z6,bR _,z0,z0,z0,z0⟩,Dv (p:=p) 3,rfl⟩
 . refine⟨⟨hrd 4,?_,?_,bR _,?_,?_,?_,?_⟩,hE 4,z8 4⟩
   . exact zc (z7 4) (by decide)
   . exact zc (z1 4) (by decide)
   . exact zc (z3 4) (by decide)
   . exact zc (z4 4) (by decide)
   . exact zc (z5 4) (by decide)
   . exact zc (z6' 4) (by decide)
 . refine⟨⟨hrd 5,bR _,?_,?_,bR _,bR _,bR _,?_⟩,hE 5,z8 5⟩
   . exact zc (z1 5) (by decide)
   . exact zc (z2 5) (by decide)
   . exact zc (z6' 5) (by decide)
set_option maxHeartbeats 2000000 in
theorem GF{n:Nl}(hc:chk n=0)(ho:OkP n):tj n.kind (vK n.kind n)=n:=by
 have hf:=H8 hc
 obtain⟨kind,rd,e0,e1,e2,e3,e4,e5,e6,e7,e8,e9,tag,mac,ip,hip,pip,plen,gw,lab,lab2⟩:=n
 have hk:kind=1\/kind=2\/kind=3\/kind=4\/kind=5:=ot hc
 rcases hk with rfl | rfl | rfl | rfl | rfl
 . have hf':(mac==0&&ip==0&& !hip&&pip==0&&plen==0&&gw==0&&lab2==0)=true:=hf
   simp only[bA,beq_iff_eq,Bool.not_eq_true']at hf'
   obtain⟨⟨⟨⟨⟨⟨rfl,rfl⟩,rfl⟩,rfl⟩,rfl⟩,rfl⟩,rfl⟩:=hf'
   exact MY ho
 . have hf':(pip==0&&plen==0&&gw==0&&(hip||ip==0))=true:=hf
   simp only[bA,beq_iff_eq,Bool.or_eq_true]at hf'
   obtain⟨⟨⟨rfl,rfl⟩,rfl⟩,h4⟩:=hf'
   cases hip with
   | true=>
    by_cases h2:lab2=0
    . subst h2;exact J1 ho
    . exact J2 ho (by simpa using h2)
   | false=>
    have:ip=0:=by simpa using h4
    subst this
    by_cases h2:lab2=0
    . subst h2;exact J3 ho
    . exact J4 ho (by simpa using h2)
 . have hf':(e0==0&&e1==0&&e2==0&&e3==0&&e4==0&&e5==0&&e6==0&&e7==0&&e8==0&&e9==0&&mac==0&&hip&&pip==0&&plen==0&&gw==0&&lab==0&&lab2==0)=true:=hf
   simp only[bA,beq_iff_eq]at hf'
   obtain⟨⟨⟨⟨⟨⟨⟨⟨⟨⟨⟨⟨⟨⟨⟨⟨rfl,rfl⟩,rfl⟩,rfl⟩,rfl⟩,rfl⟩,rfl⟩,rfl⟩,rfl⟩,rfl⟩,rfl⟩,rfl⟩,rfl⟩,rfl⟩,rfl⟩,rfl⟩,rfl⟩:=hf'
   exact M0 ho
 . have hf':(tag==0&&mac==0&&hip&&pip==0&&plen==0&&gw==0&&lab==0&&lab2==0)=true:=hf
   simp only[bA,beq_iff_eq]at hf'
   obtain⟨⟨⟨⟨⟨⟨⟨rfl,rfl⟩,rfl⟩,rfl⟩,rfl⟩,rfl⟩,rfl⟩,rfl⟩:=hf'
   exact M1 ho
 . have hf':(mac==0&&ip==0&& !hip&&lab2==0)=true:=hf
   simp only[bA,beq_iff_eq,Bool.not_eq_true']at hf'
   obtain⟨⟨⟨rfl,rfl⟩,rfl⟩,rfl⟩:=hf'
   exact MZ ho
noncomputable def tf:ag:=fun args H=>match args,H with
 | [.int .i64 k,.psl 5 p],[]=>.ite (dec (byl p/\p.length<=1000000/\(k=1\/k=2\/k=3\/k=4\/k=5))) (.ret (tj k p).v []) .fail
 | _,_=>.fail
section
variable {p:List SV} (hb:byl p) (hl:p.length<=1000000)
include hb hl
theorem JR{a k:Nat}(h1:a<=1000000)(h2:k<=8)(K:CTree):tkK p a k K=K:=by
 unfold tkK
 rw[dec_iff.2 ⟨hb.ok,hl,by omega,by omega,by omega,by omega⟩];rfl
omit hb hl in
theorem th    (K:Nat->Nl->CTree)(n:Nl):idQ p K n=K (aB p) (idN p n):=by
 unfold idQ aB idN
 by_cases h:18<=p.length
 . rw[if_pos h,if_pos h,dT0 (show(p.length:Int)>=18 by omega),dT0 (show(0:Int)<=8 by decide),dT0 (show(8:Int)<=18 by decide),
     dT0 (show((p.drop 8).take 10).length<=((10:Nat):Int).toNat - (0:Int).toNat by rw[List.length_take];show _<=10;omega)];rfl
 . rw[if_neg h,if_neg h,dF (show ¬ (p.length:Int)>=18 by omega)];rfl
omit hb hl in
theorem My:aB p<=18:=by unfold aB;split <;> omega
theorem Dw{k:Int}(hk:k=1\/k=2\/k=3\/k=4\/k=5):opn κt Tryz.f137 [.int .i64 k,.psl 5 p] []= .ret (tj k p).v []:=by
 have ha:=My (p:=p)
 have ok:=fun(a k:Nat) (K:CTree) (h1:a<=1000000) (h2:k<=8)=>JR hb hl h1 h2 K
 rcases hk with rfl | rfl | rfl | rfl | rfl
 . refine(Jz p).trans ?_
   rw[th]
   exact(ok 0 8 _ (by omega) (by omega)).trans ((ok _ 4 _ (by omega) (by omega)).trans (ok _ 3 _ (by omega) (by omega)))
 . refine(JD p).trans ?_
   rw[th]
   refine(ok 0 8 _ (by omega) (by omega)).trans ((ok _ 4 _ (by omega) (by omega)).trans ((ok _ 6 _ (by omega) (by omega)).trans ((ok _ 1 _ (by omega) (by omega)).trans ?_)))
   show _=CTree.ret (VN2 p).v []
   unfold VN2
   cases tkP p (aB p+11) 1==32 with
   | true=>exact(ok _ 4 _ (by omega) (by omega)).trans ((ok _ 3 _ (by omega) (by omega)).trans (ok _ 3 _ (by omega) (by omega)))
   | false=>exact(ok _ 3 _ (by omega) (by omega)).trans (ok _ 3 _ (by omega) (by omega))
 . refine(JA p).trans ?_
   exact(ok 0 8 _ (by omega) (by omega)).trans ((ok 8 4 _ (by omega) (by omega)).trans (ok 13 4 _ (by omega) (by omega)))
 . refine(JB p).trans ?_
   rw[th]
   exact(ok 0 8 _ (by omega) (by omega)).trans (ok _ 4 _ (by omega) (by omega))
 . refine(JC p).trans ?_
   rw[th]
   exact(ok 0 8 _ (by omega) (by omega)).trans ((ok _ 4 _ (by omega) (by omega)).trans ((ok _ 4 _ (by omega) (by omega)).trans ((ok _ 1 _ (by omega) (by omega)).trans ((ok _ 4 _ (by omega) (by omega)).trans (ok _ 3 _ (by omega) (by omega))))))
end
theorem GG:Known Tryz.prog 137 tf:=(am tOk Tryz.func137 rfl).weak (by
 intro args H v ups h
 unfold tf at h
 split at h
 . rename_i k p
   rw[aa]at h
   cases hc:dec (byl p/\p.length<=1000000/\(k=1\/k=2\/k=3\/k=4\/k=5))with
   | false=>rw[hc]at h;cases h
   | true=>
    rw[hc]at h
    obtain⟨h1,h2,h3⟩:=dec_iff.1 hc
    exact(congrArg ac (Dw h1 h2 h3)).trans h
 . cases h)
end Go.Proofs.YtnlmhpancboddaaGreat
