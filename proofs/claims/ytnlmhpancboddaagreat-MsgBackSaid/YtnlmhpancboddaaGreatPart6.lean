/- Routes are decoded. -/
import Derived.Test.YtnlmhpancboddaaGreatPart5
set_option linter.unusedVariables false
set_option linter.unusedSimpArgs false
namespace Go.Proofs.YtnlmhpancboddaaGreat
open Go.Am
set_option maxRecDepth 100000
noncomputable def nrK(n:Nat)(xs:List SV):CTree:=bif ri (([]:List SV).length+xs.length)then .ret (.ptr 1 0) [(1,some (.cells 157 [.int .i64 0,.int .i64 n,.qs 2 1 0 (([]:List SV).length+xs.length),.int .i64 0,.int .i64 0,.bool true])),(2,some (.seq 5 ([]++xs)))]else .fail
theorem NZ(l n:Nat)(es:List SV):opn (tbl []) Tryz.f47 [.qs 0 1 l n] [(0,.seq 5 es)]=bif decide (l=0)&&decide (n=es.length)then nrK n es else bif decide (l+n<=es.length)then nrK n ((es.drop l).take n)else .fail:=by kernel_rfl
def sl(es:List SV)(l n:Nat):List SV:=(es.drop l).take n
theorem eR{es:List SV}{l n:Nat}(h:l+n<=es.length):(sl es l n).length=n:=by
 unfold sl;rw[List.length_take,List.length_drop];omega
def Ap:ag:=fun args H=>match args,H with
 | [.qs 0 1 l n],[(0,.seq 5 es)]=>.ite (decide (l+n<=es.length/\n<=1000000)) (.ret (.ptr 1 0) [(1,some (.cells 157 [.int .i64 0,.int .i64 n,.qs 2 1 0 n,.int .i64 0,.int .i64 0,.bool true])),(2,some (.seq 5 (sl es l n)))]) .fail
 | _,_=>.fail
theorem Jk  :Known Tryz.prog 47 Ap  :=(aj        ok0 Tryz.func47 rfl).weak (by
 intro args H v ups h
 unfold Ap at h
 split at h
 . rename_i l n es
   rw[aa]at h
   cases hc:decide (l+n<=es.length/\n<=1000000)with
   | false=>rw[hc]at h;cases h
   | true=>
    rw[hc]at h
    obtain⟨h1,h2⟩:=of_decide_eq_true hc
    have hs:=eR h1
    have hk:∀ xs:List SV,xs=sl es l n->nrK n xs= .ret (.ptr 1 0) [(1,some (.cells 157 [.int .i64 0,.int .i64 n,.qs 2 1 0 n,.int .i64 0,.int .i64 0,.bool true])),(2,some (.seq 5 (sl es l n)))]:=by
     rintro xs rfl
     unfold nrK
     rw[List.length_nil,Nat.zero_add,hs,ju h2];rfl
    rw[NZ]
    by_cases hd:l=0/\n=es.length
    . rw[dT0 hd.1,dT0 hd.2,hk es (by unfold sl;rw[hd.1,hd.2];simp)]
      exact h
    . have hf:(decide (l=0)&&decide (n=es.length))=false:=by
        cases h5:decide (l=0) <;> cases h6:decide (n=es.length) <;> simp_all
      rw[hf,cF,dT0 h1,cT,hk ((es.drop l).take n) rfl]
      exact h
 . cases h)
noncomputable abbrev κd2:=tbl [(47,Ap),(168,iY g1N (fun _ r=>g1R r)),(173,iY g2N g2R),(179,iY g3N g3R),(181,iY g4N g4R),(183,iY g5N (fun _ r=>g5R r)),(82,fQ),(106,lQ)]
theorem N0:KOk Tryz.prog κd2:=ac Jk (ac KJ (ac KN (ac KK (ac KL (ac KM (ac gT (ac uX ok0)))))))
def cM:Chunk:=.mpc [.int .i64 1,.int .i64 2,.int .i64 3,.int .i64 4,.int .i64 5] [.iface 215 (.agg []),.iface 216 (.agg []),.iface 217 (.agg []),.iface 218 (.agg []),.iface 219 (.agg [])]
def zN:Nl:=⟨0,0,0,0,0,0,0,0,0,0,0,0,0,0,0,false,0,0,0,0,0⟩
def zK(k:Int):Nl:={zN with kind:=k}
def uW(e:Int):CTree:=.ret (.tup [zN.v,.int .i64 e]) []
def Jl(x:List SV)(K:List UInt8->CTree):CTree:=bif decide (0=0)&&decide (x.length=x.length)then K (x.map Am.byteOf)else bif decide (0+x.length<=x.length)then K (((x.drop 0).take x.length).map Am.byteOf)else .fail
def Jm(es:List SV)(l n:Nat)(K:List UInt8->CTree):CTree:=bif decide (l=0)&&decide (n=es.length)then K (es.map Am.byteOf)else bif decide (l+n<=es.length)then K (((es.drop l).take n).map Am.byteOf)else .fail
noncomputable def sT(val:Nl->List SV)(n1:Nl)(r1:Rd)(es:List SV)(l n:Nat):CTree:=
 bif r1.err !=0 then uW 3 else bif decide (left r1 > 0)then uW 3 else bif chk n1 !=0 then uW 3 else bif decide (OkP n1)then
  Jl (ey val n1) (fun a=>Jm es l n (fun b=>bif !(a==b)then uW 3 else .ret (.tup [n1.v,.int .i64 0]) []))else .fail
noncomputable def pE(val:Nl->List SV)(N:List SV->Rd->Nl->Nl)(R:List SV->Rd->Rd)(es:List SV)(l n:Nat)(kd:Int):CTree:=
 bif decide ((0:Int)<=2)&&decide ((2:Int)<=n)&&decide ((n:Int)<=n)then bif decide (l+2+((n:Int).toNat - 2)<=es.length/\(n:Int).toNat - 2<=1000000)then
  bif dec (OkRd ⟨0,((n:Int).toNat - 2:Nat),0,0⟩ (sl es (l+2) ((n:Int).toNat - 2))/\(n:Int).toNat - 2=(sl es (l+2) ((n:Int).toNat - 2)).length)then
   sT val (N (sl es (l+2) ((n:Int).toNat - 2)) ⟨0,((n:Int).toNat - 2:Nat),0,0⟩ (zK kd)) (R (sl es (l+2) ((n:Int).toNat - 2)) ⟨0,((n:Int).toNat - 2:Nat),0,0⟩) es l n
  else .fail else .fail else .fail
noncomputable def xb(es:List SV)(l n:Nat)(kd:Int):CTree:=
 bif kd==1 then pE ko g1N (fun _ r=>g1R r) es l n kd else bif kd==2 then pE da g2N g2R es l n kd else bif kd==3 then pE kp g3N g3R es l n kd else bif kd==4 then pE kq g4N g4R es l n kd else bif kd==5 then pE kv g5N (fun _ r=>g5R r) es l n kd else uW 6
theorem Me(l n:Nat)(es:List SV):opn κd2 Tryz.f140 [.qs 0 1 l n,.mp 1] [(0,.seq 5 es),(1,cM)]=
 bif decide ((n:Int) < 2)then uW 4 else bif inB 1 n then bif decide (l+1 < es.length)then bif decide ((n:Int) < IntKind.i64.wrap (2+IntKind.i64.wrap (dg es (l+1))))then uW 4 else
 bif inB 0 n then bif decide (l+0 < es.length)then xb es l n (IntKind.i64.wrap (dg es (l+0)))else .fail else .fail else .fail else .fail:=by kernel_rfl
def RD(s L:Nat):Rd:=⟨s,L,0,0⟩
theorem xT{s L k:Nat}(h:s+k<=L):(RD s L).few k=false:=by
 unfold Rd.few RD;exact dF0 (by simp only[];omega)
theorem aY{s L k:Nat}{es:List SV}(h:s+k<=L):(RD s L).num es k=tkN es s k:=by
 unfold Rd.num;rw[xT h];rfl
theorem aO{s L k:Nat}(h:s+k<=L):(RD s L).adv k=RD (s+k) L:=by
 unfold Rd.adv;rw[xT h]
 simp only[RD,cF,bne_self_eq_false,Rd.mk.injEq,and_true]
 omega
theorem iP{s L k:Nat}{es:List SV}(h:s+k<=L):(RD s L).sub es k=(es.drop s).take k:=by
 unfold Rd.sub;rw[xT h];rfl
theorem H7(n:Int):∀ (k j:Nat),j < k->(be n k)[j]? =some (.int .u8 (n / 256 ^ (k - 1 - j) % 256))
 | 0,j,h=>by omega
 | k+1,0,_=>by simp[be]
 | k+1,j+1,h=>by
  simp only[be,List.getElem?_cons_succ]
  rw[H7 n k j (by omega),show k+1 - 1 - (j+1)=k - 1 - j by omega]
theorem Nn{pre post:List SV}{n:Int}{k j:Nat}(h:j < k):dg (pre++(be n k++post)) (pre.length+j)=n / 256 ^ (k - 1 - j) % 256:=by
 unfold dg
 rw[gD0,List.getElem?_append_right (by omega),Nat.add_sub_cancel_left,List.getElem?_append_left (by rw[ah];exact h),H7 n k j h]
 rfl
theorem H8{pre post:List SV}{n:Int}{k:Nat}:∀ j,j<=k->tkN (pre++(be n k++post)) pre.length j=n / 256 ^ (k - j) % 256 ^ j
 | 0,_=>by simp[tkN,Int.emod_one]
 | j+1,h=>by
  rw[tkN,H8 j (by omega),Nn (by omega)]
  have e1:k - j=(k - (j+1))+1:=by omega
  have e2:k - 1 - j=k - (j+1):=by omega
  rw[e1,e2,Int.pow_succ (256:Int) (k - (j+1)),<- Int.ediv_ediv_of_nonneg (Int.pow_nonneg (by decide)),Int.pow_succ]
  generalize n / 256 ^ (k - (j+1))=m
  have hp:(0:Int) < 256 ^ j:=Int.pow_pos (by decide)
  generalize(256:Int) ^ j=p at hp ⊢
  have h1:=Int.emod_nonneg (m / 256) (show p≠0 by omega)
  have h2:=Int.emod_lt_of_pos (m / 256) hp
  have h3:=Int.emod_add_mul_ediv (m / 256) p
  have h4:=Int.emod_add_mul_ediv m 256
  have h5:=Int.emod_nonneg m (show(256:Int)≠0 by decide)
  have h6:=Int.emod_lt_of_pos m (show(0:Int) < 256 by decide)
  have e3:m=(m / 256 % p * 256+m % 256)+(p * 256) * (m / 256 / p):=by
   have:p * (m / 256 / p) * 256=(p * 256) * (m / 256 / p):=by rw[Int.mul_right_comm]
   omega
  have key:∀ (r b q P:Int),0<=r * 256+b->r * 256+b < P->(r * 256+b+P * q) % P=r * 256+b:=by
   intro r b q P h7 h8
   rw[Int.add_mul_emod_self_left,Int.emod_eq_of_lt h7 h8]
  have h9:=key (m / 256 % p) (m % 256) (m / 256 / p) (p * 256) (by omega) (by omega)
  rw[<- e3]at h9
  exact h9.symm
theorem aW{xs pre post:List SV}{n:Int}{k s:Nat}(hx:xs=pre++(be n k++post))(hs:s=pre.length)(h0:0<=n)(h1:n < 256 ^ k):tkN xs s k=n:=by
 subst hx hs
 rw[H8 k (Nat.le_refl _),Nat.sub_self,Int.pow_zero,Int.ediv_one,Int.emod_eq_of_lt h0 h1]
theorem bS{n:Int}(h0:0<=n)(h1:n < 4294967296):w3 n=n:=by
 simp[w3,IntKind.wrap,IntKind.bits,IntKind.signed];omega
structure Reads (N:List SV->Rd->Nl->Nl) (R:List SV->Rd->Rd) (val:Nl->List SV) (n:Nl):Prop where
 nl:N (val n) (RD 0 (val n).length) (zK n.kind)=n
 er:(R (val n) (RD 0 (val n).length)).err=0
 le:(R (val n) (RD 0 (val n).length)).end_=(R (val n) (RD 0 (val n).length)).at_
theorem Np{n:Nl}(h:chk n=0):fm n=true:=by
 unfold chk at h
 cases c1:(decide (n.kind < 1)||decide (n.kind > 5))with
 | true=>rw[c1]at h;cases h
 | false=>
  rw[c1,cF]at h
  cases c2:fm n with
  | false=>rw[c2]at h;cases h
  | true=>rfl
theorem Le{rd e0 e1 e2 e3 e4 e5 e6 e7 e8 e9 tag lab:Int}(ho:OkP ⟨1,rd,e0,e1,e2,e3,e4,e5,e6,e7,e8,e9,tag,0,0,false,0,0,0,lab,0⟩):Reads g1N (fun _ r=>g1R r) ko ⟨1,rd,e0,e1,e2,e3,e4,e5,e6,e7,e8,e9,tag,0,0,false,0,0,0,lab,0⟩:=by
 have hx':ko ⟨1,rd,e0,e1,e2,e3,e4,e5,e6,e7,e8,e9,tag,0,0,false,0,0,0,lab,0⟩=be rd 8++[.int .u8 e0,.int .u8 e1,.int .u8 e2,.int .u8 e3,.int .u8 e4,.int .u8 e5,.int .u8 e6,.int .u8 e7,.int .u8 e8,.int .u8 e9]++be tag 4++be lab 3:=by simp[ko]
 have hl:(ko ⟨1,rd,e0,e1,e2,e3,e4,e5,e6,e7,e8,e9,tag,0,0,false,0,0,0,lab,0⟩).length=25:=by rw[hx'];simp[ah]
 generalize hx:ko ⟨1,rd,e0,e1,e2,e3,e4,e5,e6,e7,e8,e9,tag,0,0,false,0,0,0,lab,0⟩=xs at hl hx'
 have t0:tkN xs 0 8=rd:=aW (pre:=[]) (by rw[hx'];simp only[nA,aA];rfl) (by simp) ho.rd0 ho.rd1
 have t1:(xs.drop 8).take 10=[.int .u8 e0,.int .u8 e1,.int .u8 e2,.int .u8 e3,.int .u8 e4,.int .u8 e5,.int .u8 e6,.int .u8 e7,.int .u8 e8,.int .u8 e9]:=by rw[hx'];rfl
 have t2:tkN xs 18 4=tag:=aW (pre:=be rd 8++[.int .u8 e0,.int .u8 e1,.int .u8 e2,.int .u8 e3,.int .u8 e4,.int .u8 e5,.int .u8 e6,.int .u8 e7,.int .u8 e8,.int .u8 e9]) (by rw[hx'];simp only[aA];rfl) (by simp[ah]) ho.tag0 ho.tag1
 have t3:tkN xs 22 3=lab:=aW (pre:=be rd 8++[.int .u8 e0,.int .u8 e1,.int .u8 e2,.int .u8 e3,.int .u8 e4,.int .u8 e5,.int .u8 e6,.int .u8 e7,.int .u8 e8,.int .u8 e9]++be tag 4) (post:=[]) (by rw[hx'];simp only[aA,List.append_nil]) (by simp[ah]) ho.lab0 ho.lab1
 refine⟨?_,?_,?_⟩
 . rw[hx,hl]
   unfold g1N ids
   simp(disch:=omega) only[aO,aY,iP,Nat.reduceAdd,t0,t1,t2,t3]
   rw[bS (n:=tag) ho.tag0 ho.tag1,bS (n:=lab) ho.lab0 (Int.lt_trans ho.lab1 (by decide))]
   rfl
 . rw[hx,hl];unfold g1R;simp(disch:=omega) only[aO,Nat.reduceAdd];rfl
 . rw[hx,hl];unfold g1R;simp(disch:=omega) only[aO,Nat.reduceAdd];rfl
theorem Lf{rd e0 e1 e2 e3 e4 e5 e6 e7 e8 e9 tag pip plen gw lab:Int}(ho:OkP ⟨5,rd,e0,e1,e2,e3,e4,e5,e6,e7,e8,e9,tag,0,0,false,pip,plen,gw,lab,0⟩):Reads g5N (fun _ r=>g5R r) kv ⟨5,rd,e0,e1,e2,e3,e4,e5,e6,e7,e8,e9,tag,0,0,false,pip,plen,gw,lab,0⟩:=by
 have hx':kv ⟨5,rd,e0,e1,e2,e3,e4,e5,e6,e7,e8,e9,tag,0,0,false,pip,plen,gw,lab,0⟩=be rd 8++[.int .u8 e0,.int .u8 e1,.int .u8 e2,.int .u8 e3,.int .u8 e4,.int .u8 e5,.int .u8 e6,.int .u8 e7,.int .u8 e8,.int .u8 e9]++be tag 4++be plen 1++be pip 4++be gw 4++be lab 3:=by simp[kv]
 have hl:(kv ⟨5,rd,e0,e1,e2,e3,e4,e5,e6,e7,e8,e9,tag,0,0,false,pip,plen,gw,lab,0⟩).length=34:=by rw[hx'];simp[ah]
 generalize hx:kv ⟨5,rd,e0,e1,e2,e3,e4,e5,e6,e7,e8,e9,tag,0,0,false,pip,plen,gw,lab,0⟩=xs at hl hx'
 have t0:tkN xs 0 8=rd:=aW (pre:=[]) (by rw[hx'];simp only[nA,aA];rfl) (by simp) ho.rd0 ho.rd1
 have t1:(xs.drop 8).take 10=[.int .u8 e0,.int .u8 e1,.int .u8 e2,.int .u8 e3,.int .u8 e4,.int .u8 e5,.int .u8 e6,.int .u8 e7,.int .u8 e8,.int .u8 e9]:=by rw[hx'];rfl
 have t2:tkN xs 18 4=tag:=aW (pre:=be rd 8++[.int .u8 e0,.int .u8 e1,.int .u8 e2,.int .u8 e3,.int .u8 e4,.int .u8 e5,.int .u8 e6,.int .u8 e7,.int .u8 e8,.int .u8 e9]) (by rw[hx'];simp only[aA];rfl) (by simp[ah]) ho.tag0 ho.tag1
 have t3:tkN xs 22 1=plen:=aW (pre:=be rd 8++[.int .u8 e0,.int .u8 e1,.int .u8 e2,.int .u8 e3,.int .u8 e4,.int .u8 e5,.int .u8 e6,.int .u8 e7,.int .u8 e8,.int .u8 e9]++be tag 4) (by rw[hx'];simp only[aA];rfl) (by simp[ah]) ho.pl0 ho.pl1
 have t4:tkN xs 23 4=pip:=aW (pre:=be rd 8++[.int .u8 e0,.int .u8 e1,.int .u8 e2,.int .u8 e3,.int .u8 e4,.int .u8 e5,.int .u8 e6,.int .u8 e7,.int .u8 e8,.int .u8 e9]++be tag 4++be plen 1) (by rw[hx'];simp only[aA];rfl) (by simp[ah]) ho.pip0 ho.pip1
 have t5:tkN xs 27 4=gw:=aW (pre:=be rd 8++[.int .u8 e0,.int .u8 e1,.int .u8 e2,.int .u8 e3,.int .u8 e4,.int .u8 e5,.int .u8 e6,.int .u8 e7,.int .u8 e8,.int .u8 e9]++be tag 4++be plen 1++be pip 4) (by rw[hx'];simp only[aA];rfl) (by simp[ah]) ho.gw0 ho.gw1
 have t6:tkN xs 31 3=lab:=aW (pre:=be rd 8++[.int .u8 e0,.int .u8 e1,.int .u8 e2,.int .u8 e3,.int .u8 e4,.int .u8 e5,.int .u8 e6,.int .u8 e7,.int .u8 e8,.int .u8 e9]++be tag 4++be plen 1++be pip 4++be gw 4) (post:=[]) (by rw[hx'];simp only[aA,List.append_nil]) (by simp[ah]) ho.lab0 ho.lab1
 refine⟨?_,?_,?_⟩
 . rw[hx,hl]
   unfold g5N ids g5r
   simp(disch:=omega) only[aO,aY,iP,Nat.reduceAdd,t0,t1,t2,t3,t4,t5,t6]
   rw[bS (n:=tag) ho.tag0 ho.tag1,bS (n:=pip) ho.pip0 ho.pip1,bS (n:=gw) ho.gw0 ho.gw1,bS (n:=lab) ho.lab0 (Int.lt_trans ho.lab1 (by decide)),am (n:=plen) (by have:=ho.pl0;simp only at this;omega) (by have:=ho.pl1;simp only at this;omega)]
   rfl
 . rw[hx,hl];unfold g5R g5r;simp(disch:=omega) only[aO,Nat.reduceAdd];rfl
 . rw[hx,hl];unfold g5R g5r;simp(disch:=omega) only[aO,Nat.reduceAdd];rfl
theorem Lg{rd tag ip:Int}(ho:OkP ⟨3,rd,0,0,0,0,0,0,0,0,0,0,tag,0,ip,true,0,0,0,0,0⟩):Reads g3N g3R kp ⟨3,rd,0,0,0,0,0,0,0,0,0,0,tag,0,ip,true,0,0,0,0,0⟩:=by
 have hx':kp ⟨3,rd,0,0,0,0,0,0,0,0,0,0,tag,0,ip,true,0,0,0,0,0⟩=be rd 8++be tag 4++be 32 1++be ip 4:=by simp[kp]
 have hl:(kp ⟨3,rd,0,0,0,0,0,0,0,0,0,0,tag,0,ip,true,0,0,0,0,0⟩).length=17:=by rw[hx'];simp[ah]
 generalize hx:kp ⟨3,rd,0,0,0,0,0,0,0,0,0,0,tag,0,ip,true,0,0,0,0,0⟩=xs at hl hx'
 have t0:tkN xs 0 8=rd:=aW (pre:=[]) (by rw[hx'];simp only[nA,aA];rfl) (by simp) ho.rd0 ho.rd1
 have t1:tkN xs 8 4=tag:=aW (pre:=be rd 8) (by rw[hx'];simp only[aA];rfl) (by simp[ah]) ho.tag0 ho.tag1
 have t2:tkN xs 12 1=32:=aW (pre:=be rd 8++be tag 4) (by rw[hx'];simp only[aA];rfl) (by simp[ah]) (by decide) (by decide)
 have t3:tkN xs 13 4=ip:=aW (pre:=be rd 8++be tag 4++be 32 1) (post:=[]) (by rw[hx'];simp only[aA,List.append_nil]) (by simp[ah]) ho.ip0 ho.ip1
 refine⟨?_,?_,?_⟩
 . rw[hx,hl]
   unfold g3N gI
   simp(disch:=omega) only[aO,aY,Nat.reduceAdd,t0,t1,t2,t3,beq_self_eq_true,cT]
   rw[bS (n:=tag) ho.tag0 ho.tag1,bS (n:=ip) ho.ip0 ho.ip1]
   rfl
 . rw[hx,hl];unfold g3R de;simp(disch:=omega) only[aO,aY,Nat.reduceAdd,t2,beq_self_eq_true,cT];rfl
 . rw[hx,hl];unfold g3R de;simp(disch:=omega) only[aO,aY,Nat.reduceAdd,t2,beq_self_eq_true,cT];rfl
theorem Lh{rd e0 e1 e2 e3 e4 e5 e6 e7 e8 e9 ip:Int}(ho:OkP ⟨4,rd,e0,e1,e2,e3,e4,e5,e6,e7,e8,e9,0,0,ip,true,0,0,0,0,0⟩):Reads g4N g4R kq ⟨4,rd,e0,e1,e2,e3,e4,e5,e6,e7,e8,e9,0,0,ip,true,0,0,0,0,0⟩:=by
 have hx':kq ⟨4,rd,e0,e1,e2,e3,e4,e5,e6,e7,e8,e9,0,0,ip,true,0,0,0,0,0⟩=be rd 8++[.int .u8 e0,.int .u8 e1,.int .u8 e2,.int .u8 e3,.int .u8 e4,.int .u8 e5,.int .u8 e6,.int .u8 e7,.int .u8 e8,.int .u8 e9]++be 32 1++be ip 4:=by simp[kq]
 have hl:(kq ⟨4,rd,e0,e1,e2,e3,e4,e5,e6,e7,e8,e9,0,0,ip,true,0,0,0,0,0⟩).length=23:=by rw[hx'];simp[ah]
 generalize hx:kq ⟨4,rd,e0,e1,e2,e3,e4,e5,e6,e7,e8,e9,0,0,ip,true,0,0,0,0,0⟩=xs at hl hx'
 have t0:tkN xs 0 8=rd:=aW (pre:=[]) (by rw[hx'];simp only[nA,aA];rfl) (by simp) ho.rd0 ho.rd1
 have t1:(xs.drop 8).take 10=[.int .u8 e0,.int .u8 e1,.int .u8 e2,.int .u8 e3,.int .u8 e4,.int .u8 e5,.int .u8 e6,.int .u8 e7,.int .u8 e8,.int .u8 e9]:=by rw[hx'];rfl
 have t2:tkN xs 18 1=32:=aW (pre:=be rd 8++[.int .u8 e0,.int .u8 e1,.int .u8 e2,.int .u8 e3,.int .u8 e4,.int .u8 e5,.int .u8 e6,.int .u8 e7,.int .u8 e8,.int .u8 e9]) (by rw[hx'];simp only[aA];rfl) (by simp[ah]) (by decide) (by decide)
 have t3:tkN xs 19 4=ip:=aW (pre:=be rd 8++[.int .u8 e0,.int .u8 e1,.int .u8 e2,.int .u8 e3,.int .u8 e4,.int .u8 e5,.int .u8 e6,.int .u8 e7,.int .u8 e8,.int .u8 e9]++be 32 1) (post:=[]) (by rw[hx'];simp only[aA,List.append_nil]) (by simp[ah]) ho.ip0 ho.ip1
 refine⟨?_,?_,?_⟩
 . rw[hx,hl]
   unfold g4N gI ids
   simp(disch:=omega) only[aO,aY,iP,Nat.reduceAdd,t0,t1,t2,t3,beq_self_eq_true,cT]
   rw[bS (n:=ip) ho.ip0 ho.ip1]
   rfl
 . rw[hx,hl];unfold g4R de;simp(disch:=omega) only[aO,aY,Nat.reduceAdd,t2,beq_self_eq_true,cT];rfl
 . rw[hx,hl];unfold g4R de;simp(disch:=omega) only[aO,aY,Nat.reduceAdd,t2,beq_self_eq_true,cT];rfl
theorem He{rd e0 e1 e2 e3 e4 e5 e6 e7 e8 e9 tag mac ip lab:Int}(ho:OkP ⟨2,rd,e0,e1,e2,e3,e4,e5,e6,e7,e8,e9,tag,mac,ip,true,0,0,0,lab,0⟩):Reads g2N g2R da ⟨2,rd,e0,e1,e2,e3,e4,e5,e6,e7,e8,e9,tag,mac,ip,true,0,0,0,lab,0⟩:=by
 have hx':da ⟨2,rd,e0,e1,e2,e3,e4,e5,e6,e7,e8,e9,tag,mac,ip,true,0,0,0,lab,0⟩=be rd 8++[.int .u8 e0,.int .u8 e1,.int .u8 e2,.int .u8 e3,.int .u8 e4,.int .u8 e5,.int .u8 e6,.int .u8 e7,.int .u8 e8,.int .u8 e9]++be tag 4++be 48 1++be mac 6++be 32 1++be ip 4++be lab 3:=by simp[da]
 have hl:(da ⟨2,rd,e0,e1,e2,e3,e4,e5,e6,e7,e8,e9,tag,mac,ip,true,0,0,0,lab,0⟩).length=37:=by rw[hx'];simp[ah]
 generalize hx:da ⟨2,rd,e0,e1,e2,e3,e4,e5,e6,e7,e8,e9,tag,mac,ip,true,0,0,0,lab,0⟩=xs at hl hx'
 have t0:tkN xs 0 8=rd:=aW (pre:=[]) (by rw[hx'];simp only[nA,aA];rfl) (by simp) ho.rd0 ho.rd1
 have t1:(xs.drop 8).take 10=[.int .u8 e0,.int .u8 e1,.int .u8 e2,.int .u8 e3,.int .u8 e4,.int .u8 e5,.int .u8 e6,.int .u8 e7,.int .u8 e8,.int .u8 e9]:=by rw[hx'];rfl
 have t2:tkN xs 18 4=tag:=aW (pre:=be rd 8++[.int .u8 e0,.int .u8 e1,.int .u8 e2,.int .u8 e3,.int .u8 e4,.int .u8 e5,.int .u8 e6,.int .u8 e7,.int .u8 e8,.int .u8 e9]) (by rw[hx'];simp only[aA];rfl) (by simp[ah]) ho.tag0 ho.tag1
 have t3:tkN xs 22 1=48:=aW (pre:=be rd 8++[.int .u8 e0,.int .u8 e1,.int .u8 e2,.int .u8 e3,.int .u8 e4,.int .u8 e5,.int .u8 e6,.int .u8 e7,.int .u8 e8,.int .u8 e9]++be tag 4) (by rw[hx'];simp only[aA];rfl) (by simp[ah]) (by decide) (by decide)
 have t4:tkN xs 23 6=mac:=aW (pre:=be rd 8++[.int .u8 e0,.int .u8 e1,.int .u8 e2,.int .u8 e3,.int .u8 e4,.int .u8 e5,.int .u8 e6,.int .u8 e7,.int .u8 e8,.int .u8 e9]++be tag 4++be 48 1) (by rw[hx'];simp only[aA];rfl) (by simp[ah]) ho.mac0 ho.mac1
 have t5:tkN xs 29 1=32:=aW (pre:=be rd 8++[.int .u8 e0,.int .u8 e1,.int .u8 e2,.int .u8 e3,.int .u8 e4,.int .u8 e5,.int .u8 e6,.int .u8 e7,.int .u8 e8,.int .u8 e9]++be tag 4++be 48 1++be mac 6) (by rw[hx'];simp only[aA];rfl) (by simp[ah]) (by decide) (by decide)
 have t6:tkN xs 30 4=ip:=aW (pre:=be rd 8++[.int .u8 e0,.int .u8 e1,.int .u8 e2,.int .u8 e3,.int .u8 e4,.int .u8 e5,.int .u8 e6,.int .u8 e7,.int .u8 e8,.int .u8 e9]++be tag 4++be 48 1++be mac 6++be 32 1) (by rw[hx'];simp only[aA];rfl) (by simp[ah]) ho.ip0 ho.ip1
 have t7:tkN xs 34 3=lab:=aW (pre:=be rd 8++[.int .u8 e0,.int .u8 e1,.int .u8 e2,.int .u8 e3,.int .u8 e4,.int .u8 e5,.int .u8 e6,.int .u8 e7,.int .u8 e8,.int .u8 e9]++be tag 4++be 48 1++be mac 6++be 32 1++be ip 4) (post:=[]) (by rw[hx'];simp only[aA,List.append_nil]) (by simp[ah]) ho.lab0 ho.lab1
 refine⟨?_,?_,?_⟩
 . rw[hx,hl]
   unfold g2N g2n g2r gI de ids
   simp(disch:=omega) only[aO,aY,iP,Nat.reduceAdd,t0,t1,t2,t4,t5,t6,t7,beq_self_eq_true,cT,show decide (left (RD 37 37) > 0)=false from rfl,cT,cF]
   rw[bS (n:=tag) ho.tag0 ho.tag1,bS (n:=ip) ho.ip0 ho.ip1,bS (n:=lab) ho.lab0 (Int.lt_trans ho.lab1 (by decide))]
   rfl
 . rw[hx,hl];unfold g2R g2r de;simp(disch:=omega) only[aO,aY,Nat.reduceAdd,t5,beq_self_eq_true,cT,show decide (left (RD 37 37) > 0)=false from rfl,cT,cF];rfl
 . rw[hx,hl];unfold g2R g2r de;simp(disch:=omega) only[aO,aY,Nat.reduceAdd,t5,beq_self_eq_true,cT,show decide (left (RD 37 37) > 0)=false from rfl,cT,cF];rfl
theorem Hf{rd e0 e1 e2 e3 e4 e5 e6 e7 e8 e9 tag mac ip lab lab2:Int}(ho:OkP ⟨2,rd,e0,e1,e2,e3,e4,e5,e6,e7,e8,e9,tag,mac,ip,true,0,0,0,lab,lab2⟩)(h2:(lab2 !=0)=true):Reads g2N g2R da ⟨2,rd,e0,e1,e2,e3,e4,e5,e6,e7,e8,e9,tag,mac,ip,true,0,0,0,lab,lab2⟩:=by
 have hx':da ⟨2,rd,e0,e1,e2,e3,e4,e5,e6,e7,e8,e9,tag,mac,ip,true,0,0,0,lab,lab2⟩=be rd 8++[.int .u8 e0,.int .u8 e1,.int .u8 e2,.int .u8 e3,.int .u8 e4,.int .u8 e5,.int .u8 e6,.int .u8 e7,.int .u8 e8,.int .u8 e9]++be tag 4++be 48 1++be mac 6++be 32 1++be ip 4++be lab 3++be lab2 3:=by simp[da,h2]
 have hl:(da ⟨2,rd,e0,e1,e2,e3,e4,e5,e6,e7,e8,e9,tag,mac,ip,true,0,0,0,lab,lab2⟩).length=40:=by rw[hx'];simp[ah]
 generalize hx:da ⟨2,rd,e0,e1,e2,e3,e4,e5,e6,e7,e8,e9,tag,mac,ip,true,0,0,0,lab,lab2⟩=xs at hl hx'
 have t0:tkN xs 0 8=rd:=aW (pre:=[]) (by rw[hx'];simp only[nA,aA];rfl) (by simp) ho.rd0 ho.rd1
 have t1:(xs.drop 8).take 10=[.int .u8 e0,.int .u8 e1,.int .u8 e2,.int .u8 e3,.int .u8 e4,.int .u8 e5,.int .u8 e6,.int .u8 e7,.int .u8 e8,.int .u8 e9]:=by rw[hx'];rfl
 have t2:tkN xs 18 4=tag:=aW (pre:=be rd 8++[.int .u8 e0,.int .u8 e1,.int .u8 e2,.int .u8 e3,.int .u8 e4,.int .u8 e5,.int .u8 e6,.int .u8 e7,.int .u8 e8,.int .u8 e9]) (by rw[hx'];simp only[aA];rfl) (by simp[ah]) ho.tag0 ho.tag1
 have t3:tkN xs 22 1=48:=aW (pre:=be rd 8++[.int .u8 e0,.int .u8 e1,.int .u8 e2,.int .u8 e3,.int .u8 e4,.int .u8 e5,.int .u8 e6,.int .u8 e7,.int .u8 e8,.int .u8 e9]++be tag 4) (by rw[hx'];simp only[aA];rfl) (by simp[ah]) (by decide) (by decide)
 have t4:tkN xs 23 6=mac:=aW (pre:=be rd 8++[.int .u8 e0,.int .u8 e1,.int .u8 e2,.int .u8 e3,.int .u8 e4,.int .u8 e5,.int .u8 e6,.int .u8 e7,.int .u8 e8,.int .u8 e9]++be tag 4++be 48 1) (by rw[hx'];simp only[aA];rfl) (by simp[ah]) ho.mac0 ho.mac1
 have t5:tkN xs 29 1=32:=aW (pre:=be rd 8++[.int .u8 e0,.int .u8 e1,.int .u8 e2,.int .u8 e3,.int .u8 e4,.int .u8 e5,.int .u8 e6,.int .u8 e7,.int .u8 e8,.int .u8 e9]++be tag 4++be 48 1++be mac 6) (by rw[hx'];simp only[aA];rfl) (by simp[ah]) (by decide) (by decide)
 have t6:tkN xs 30 4=ip:=aW (pre:=be rd 8++[.int .u8 e0,.int .u8 e1,.int .u8 e2,.int .u8 e3,.int .u8 e4,.int .u8 e5,.int .u8 e6,.int .u8 e7,.int .u8 e8,.int .u8 e9]++be tag 4++be 48 1++be mac 6++be 32 1) (by rw[hx'];simp only[aA];rfl) (by simp[ah]) ho.ip0 ho.ip1
 have t7:tkN xs 34 3=lab:=aW (pre:=be rd 8++[.int .u8 e0,.int .u8 e1,.int .u8 e2,.int .u8 e3,.int .u8 e4,.int .u8 e5,.int .u8 e6,.int .u8 e7,.int .u8 e8,.int .u8 e9]++be tag 4++be 48 1++be mac 6++be 32 1++be ip 4) (by rw[hx'];simp only[aA];rfl) (by simp[ah]) ho.lab0 ho.lab1
 have t8:tkN xs 37 3=lab2:=aW (pre:=be rd 8++[.int .u8 e0,.int .u8 e1,.int .u8 e2,.int .u8 e3,.int .u8 e4,.int .u8 e5,.int .u8 e6,.int .u8 e7,.int .u8 e8,.int .u8 e9]++be tag 4++be 48 1++be mac 6++be 32 1++be ip 4++be lab 3) (post:=[]) (by rw[hx'];simp only[aA,List.append_nil]) (by simp[ah]) ho.lac0 ho.lac1
 refine⟨?_,?_,?_⟩
 . rw[hx,hl]
   unfold g2N g2n g2r gI de ids
   simp(disch:=omega) only[aO,aY,iP,Nat.reduceAdd,t0,t1,t2,t4,t5,t6,t7,t8,beq_self_eq_true,cT,show decide (left (RD 37 40) > 0)=true from rfl,cT]
   rw[bS (n:=tag) ho.tag0 ho.tag1,bS (n:=ip) ho.ip0 ho.ip1,bS (n:=lab) ho.lab0 (Int.lt_trans ho.lab1 (by decide)),bS (n:=lab2) ho.lac0 (Int.lt_trans ho.lac1 (by decide))]
   rfl
 . rw[hx,hl];unfold g2R g2r de;simp(disch:=omega) only[aO,aY,Nat.reduceAdd,t5,beq_self_eq_true,cT,show decide (left (RD 37 40) > 0)=true from rfl,cT];rfl
 . rw[hx,hl];unfold g2R g2r de;simp(disch:=omega) only[aO,aY,Nat.reduceAdd,t5,beq_self_eq_true,cT,show decide (left (RD 37 40) > 0)=true from rfl,cT];rfl
theorem Hg{rd e0 e1 e2 e3 e4 e5 e6 e7 e8 e9 tag mac lab:Int}(ho:OkP ⟨2,rd,e0,e1,e2,e3,e4,e5,e6,e7,e8,e9,tag,mac,0,false,0,0,0,lab,0⟩):Reads g2N g2R da ⟨2,rd,e0,e1,e2,e3,e4,e5,e6,e7,e8,e9,tag,mac,0,false,0,0,0,lab,0⟩:=by
 have hx':da ⟨2,rd,e0,e1,e2,e3,e4,e5,e6,e7,e8,e9,tag,mac,0,false,0,0,0,lab,0⟩=be rd 8++[.int .u8 e0,.int .u8 e1,.int .u8 e2,.int .u8 e3,.int .u8 e4,.int .u8 e5,.int .u8 e6,.int .u8 e7,.int .u8 e8,.int .u8 e9]++be tag 4++be 48 1++be mac 6++be 0 1++be lab 3:=by simp[da]
 have hl:(da ⟨2,rd,e0,e1,e2,e3,e4,e5,e6,e7,e8,e9,tag,mac,0,false,0,0,0,lab,0⟩).length=33:=by rw[hx'];simp[ah]
 generalize hx:da ⟨2,rd,e0,e1,e2,e3,e4,e5,e6,e7,e8,e9,tag,mac,0,false,0,0,0,lab,0⟩=xs at hl hx'
 have t0:tkN xs 0 8=rd:=aW (pre:=[]) (by rw[hx'];simp only[nA,aA];rfl) (by simp) ho.rd0 ho.rd1
 have t1:(xs.drop 8).take 10=[.int .u8 e0,.int .u8 e1,.int .u8 e2,.int .u8 e3,.int .u8 e4,.int .u8 e5,.int .u8 e6,.int .u8 e7,.int .u8 e8,.int .u8 e9]:=by rw[hx'];rfl
 have t2:tkN xs 18 4=tag:=aW (pre:=be rd 8++[.int .u8 e0,.int .u8 e1,.int .u8 e2,.int .u8 e3,.int .u8 e4,.int .u8 e5,.int .u8 e6,.int .u8 e7,.int .u8 e8,.int .u8 e9]) (by rw[hx'];simp only[aA];rfl) (by simp[ah]) ho.tag0 ho.tag1
 have t3:tkN xs 22 1=48:=aW (pre:=be rd 8++[.int .u8 e0,.int .u8 e1,.int .u8 e2,.int .u8 e3,.int .u8 e4,.int .u8 e5,.int .u8 e6,.int .u8 e7,.int .u8 e8,.int .u8 e9]++be tag 4) (by rw[hx'];simp only[aA];rfl) (by simp[ah]) (by decide) (by decide)
 have t4:tkN xs 23 6=mac:=aW (pre:=be rd 8++[.int .u8 e0,.int .u8 e1,.int .u8 e2,.int .u8 e3,.int .u8 e4,.int .u8 e5,.int .u8 e6,.int .u8 e7,.int .u8 e8,.int .u8 e9]++be tag 4++be 48 1) (by rw[hx'];simp only[aA];rfl) (by simp[ah]) ho.mac0 ho.mac1
 have t5:tkN xs 29 1=0:=aW (pre:=be rd 8++[.int .u8 e0,.int .u8 e1,.int .u8 e2,.int .u8 e3,.int .u8 e4,.int .u8 e5,.int .u8 e6,.int .u8 e7,.int .u8 e8,.int .u8 e9]++be tag 4++be 48 1++be mac 6) (by rw[hx'];simp only[aA];rfl) (by simp[ah]) (by decide) (by decide)
 have t6:tkN xs 30 3=lab:=aW (pre:=be rd 8++[.int .u8 e0,.int .u8 e1,.int .u8 e2,.int .u8 e3,.int .u8 e4,.int .u8 e5,.int .u8 e6,.int .u8 e7,.int .u8 e8,.int .u8 e9]++be tag 4++be 48 1++be mac 6++be 0 1) (post:=[]) (by rw[hx'];simp only[aA,List.append_nil]) (by simp[ah]) ho.lab0 ho.lab1
 refine⟨?_,?_,?_⟩
 . rw[hx,hl]
   unfold g2N g2n g2r gI de ids
   simp(disch:=omega) only[aO,aY,iP,Nat.reduceAdd,t0,t1,t2,t4,t5,t6,show((0:Int)==32)=false from rfl,cF,show decide (left (RD 33 33) > 0)=false from rfl,cF]
   rw[bS (n:=tag) ho.tag0 ho.tag1,bS (n:=lab) ho.lab0 (Int.lt_trans ho.lab1 (by decide))]
   rfl
 . rw[hx,hl];unfold g2R g2r de;simp(disch:=omega) only[aO,aY,Nat.reduceAdd,t5,show((0:Int)==32)=false from rfl,cF,show decide (left (RD 33 33) > 0)=false from rfl,cF];rfl
 . rw[hx,hl];unfold g2R g2r de;simp(disch:=omega) only[aO,aY,Nat.reduceAdd,t5,show((0:Int)==32)=false from rfl,cF,show decide (left (RD 33 33) > 0)=false from rfl,cF];rfl
theorem Hh{rd e0 e1 e2 e3 e4 e5 e6 e7 e8 e9 tag mac lab lab2:Int}(ho:OkP ⟨2,rd,e0,e1,e2,e3,e4,e5,e6,e7,e8,e9,tag,mac,0,false,0,0,0,lab,lab2⟩)(h2:(lab2 !=0)=true):Reads g2N g2R da ⟨2,rd,e0,e1,e2,e3,e4,e5,e6,e7,e8,e9,tag,mac,0,false,0,0,0,lab,lab2⟩:=by
 have hx':da ⟨2,rd,e0,e1,e2,e3,e4,e5,e6,e7,e8,e9,tag,mac,0,false,0,0,0,lab,lab2⟩=be rd 8++[.int .u8 e0,.int .u8 e1,.int .u8 e2,.int .u8 e3,.int .u8 e4,.int .u8 e5,.int .u8 e6,.int .u8 e7,.int .u8 e8,.int .u8 e9]++be tag 4++be 48 1++be mac 6++be 0 1++be lab 3++be lab2 3:=by simp[da,h2]
 have hl:(da ⟨2,rd,e0,e1,e2,e3,e4,e5,e6,e7,e8,e9,tag,mac,0,false,0,0,0,lab,lab2⟩).length=36:=by rw[hx'];simp[ah]
 generalize hx:da ⟨2,rd,e0,e1,e2,e3,e4,e5,e6,e7,e8,e9,tag,mac,0,false,0,0,0,lab,lab2⟩=xs at hl hx'
 have t0:tkN xs 0 8=rd:=aW (pre:=[]) (by rw[hx'];simp only[nA,aA];rfl) (by simp) ho.rd0 ho.rd1
 have t1:(xs.drop 8).take 10=[.int .u8 e0,.int .u8 e1,.int .u8 e2,.int .u8 e3,.int .u8 e4,.int .u8 e5,.int .u8 e6,.int .u8 e7,.int .u8 e8,.int .u8 e9]:=by rw[hx'];rfl
 have t2:tkN xs 18 4=tag:=aW (pre:=be rd 8++[.int .u8 e0,.int .u8 e1,.int .u8 e2,.int .u8 e3,.int .u8 e4,.int .u8 e5,.int .u8 e6,.int .u8 e7,.int .u8 e8,.int .u8 e9]) (by rw[hx'];simp only[aA];rfl) (by simp[ah]) ho.tag0 ho.tag1
 have t3:tkN xs 22 1=48:=aW (pre:=be rd 8++[.int .u8 e0,.int .u8 e1,.int .u8 e2,.int .u8 e3,.int .u8 e4,.int .u8 e5,.int .u8 e6,.int .u8 e7,.int .u8 e8,.int .u8 e9]++be tag 4) (by rw[hx'];simp only[aA];rfl) (by simp[ah]) (by decide) (by decide)
 have t4:tkN xs 23 6=mac:=aW (pre:=be rd 8++[.int .u8 e0,.int .u8 e1,.int .u8 e2,.int .u8 e3,.int .u8 e4,.int .u8 e5,.int .u8 e6,.int .u8 e7,.int .u8 e8,.int .u8 e9]++be tag 4++be 48 1) (by rw[hx'];simp only[aA];rfl) (by simp[ah]) ho.mac0 ho.mac1
 have t5:tkN xs 29 1=0:=aW (pre:=be rd 8++[.int .u8 e0,.int .u8 e1,.int .u8 e2,.int .u8 e3,.int .u8 e4,.int .u8 e5,.int .u8 e6,.int .u8 e7,.int .u8 e8,.int .u8 e9]++be tag 4++be 48 1++be mac 6) (by rw[hx'];simp only[aA];rfl) (by simp[ah]) (by decide) (by decide)
 have t6:tkN xs 30 3=lab:=aW (pre:=be rd 8++[.int .u8 e0,.int .u8 e1,.int .u8 e2,.int .u8 e3,.int .u8 e4,.int .u8 e5,.int .u8 e6,.int .u8 e7,.int .u8 e8,.int .u8 e9]++be tag 4++be 48 1++be mac 6++be 0 1) (by rw[hx'];simp only[aA];rfl) (by simp[ah]) ho.lab0 ho.lab1
 have t7:tkN xs 33 3=lab2:=aW (pre:=be rd 8++[.int .u8 e0,.int .u8 e1,.int .u8 e2,.int .u8 e3,.int .u8 e4,.int .u8 e5,.int .u8 e6,.int .u8 e7,.int .u8 e8,.int .u8 e9]++be tag 4++be 48 1++be mac 6++be 0 1++be lab 3) (post:=[]) (by rw[hx'];simp only[aA,List.append_nil]) (by simp[ah]) ho.lac0 ho.lac1
 refine⟨?_,?_,?_⟩
 . rw[hx,hl]
   unfold g2N g2n g2r gI de ids
   simp(disch:=omega) only[aO,aY,iP,Nat.reduceAdd,t0,t1,t2,t4,t5,t6,t7,show((0:Int)==32)=false from rfl,cF,show decide (left (RD 33 36) > 0)=true from rfl,cT,cF]
   rw[bS (n:=tag) ho.tag0 ho.tag1,bS (n:=lab) ho.lab0 (Int.lt_trans ho.lab1 (by decide)),bS (n:=lab2) ho.lac0 (Int.lt_trans ho.lac1 (by decide))]
   rfl
 . rw[hx,hl];unfold g2R g2r de;simp(disch:=omega) only[aO,aY,Nat.reduceAdd,t5,show((0:Int)==32)=false from rfl,cF,show decide (left (RD 33 36) > 0)=true from rfl,cT,cF];rfl
 . rw[hx,hl];unfold g2R g2r de;simp(disch:=omega) only[aO,aY,Nat.reduceAdd,t5,show((0:Int)==32)=false from rfl,cF,show decide (left (RD 33 36) > 0)=true from rfl,cT,cF];rfl
end Go.Proofs.YtnlmhpancboddaaGreat
