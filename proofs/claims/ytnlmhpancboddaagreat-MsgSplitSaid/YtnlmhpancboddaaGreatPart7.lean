/- What has been written is read. -/
import Derived.Test.YtnlmhpancboddaaGreatPart6
set_option linter.unusedVariables false
set_option linter.unusedSimpArgs false
namespace Go.Proofs.YtnlmhpancboddaaGreat
open Go.Am
set_option maxRecDepth 100000
def RD(s L:Nat):Rd:=⟨s,L,0,0⟩
theorem xF{s L k:Nat}(h:s+k<=L):(RD s L).few k=false:=by
 unfold Rd.few RD;exact dF (by simp only[];omega)
theorem bi{s L k:Nat}{es:List SV}(h:s+k<=L):(RD s L).num es k=tkN es s k:=by
 unfold Rd.num;rw[xF h];rfl
theorem aW{s L k:Nat}(h:s+k<=L):(RD s L).adv k=RD (s+k) L:=by
 unfold Rd.adv;rw[xF h]
 simp only[RD,cF,bne_self_eq_false,Rd.mk.injEq,and_true]
 omega
theorem iC{s L k:Nat}{es:List SV}(h:s+k<=L):(RD s L).sub es k=(es.drop s).take k:=by
 unfold Rd.sub;rw[xF h];rfl
theorem H6(n:Int):∀ (k j:Nat),j < k->(be n k)[j]? =some (.int .u8 (n / 256 ^ (k - 1 - j) % 256))
 | 0,j,h=>by omega
 | k+1,0,_=>by simp[be]
 | k+1,j+1,h=>by
  simp only[be,List.getElem?_cons_succ]
  rw[H6 n k j (by omega),show k+1 - 1 - (j+1)=k - 1 - j by omega]
theorem Nh{pre post:List SV}{n:Int}{k j:Nat}(h:j < k):dg (pre++(be n k++post)) (pre.length+j)=n / 256 ^ (k - 1 - j) % 256:=by
 unfold dg
 rw[gD0,List.getElem?_append_right (by omega),Nat.add_sub_cancel_left,List.getElem?_append_left (by rw[ap];exact h),H6 n k j h]
 rfl
theorem H7{pre post:List SV}{n:Int}{k:Nat}:∀ j,j<=k->tkN (pre++(be n k++post)) pre.length j=n / 256 ^ (k - j) % 256 ^ j
 | 0,_=>by simp[tkN,Int.emod_one]
 | j+1,h=>by
  rw[tkN,H7 j (by omega),Nh (by omega)]
  have e1:k - j=(k - (j+1))+1:=by omega
  have e2:k - 1 - j=k - (j+1):=by omega
  rw[e1,e2,Int.pow_succ (256:Int) (k - (j+1)),<- Int.ediv_ediv_of_nonneg (Int.pow_nonneg (by decide)),Int.pow_succ]
  generalize n / 256 ^ (k - (j+1))=m
  have hp:(0:Int) < 256 ^ j:=Int.pow_pos (by decide)
  generalize(256:Int) ^ j=p at hp ⊢
  have h1:=Int.emod_nonneg (m / 256) (show p≠0 by omega)
  have h2:=Int.emod_lt_of_pos (m / 256) hp
  have h3:=Int.emod_add_mul_ediv (m / 256) p
  have h4:=Int.emod_add_mul_ediv m 256
  have h5:=Int.emod_nonneg m (show(256:Int)≠0 by decide)
  have h6:=Int.emod_lt_of_pos m (show(0:Int) < 256 by decide)
  have e3:m=(m / 256 % p * 256+m % 256)+(p * 256) * (m / 256 / p):=by
   have:p * (m / 256 / p) * 256=(p * 256) * (m / 256 / p):=by rw[Int.mul_right_comm]
   omega
  have key:∀ (r b q P:Int),0<=r * 256+b->r * 256+b < P->(r * 256+b+P * q) % P=r * 256+b:=by
   intro r b q P h7 h8
   rw[Int.add_mul_emod_self_left,Int.emod_eq_of_lt h7 h8]
  have h9:=key (m / 256 % p) (m % 256) (m / 256 / p) (p * 256) (by omega) (by omega)
  rw[<- e3]at h9
  exact h9.symm
theorem aK{xs pre post:List SV}{n:Int}{k s:Nat}(hx:xs=pre++(be n k++post))(hs:s=pre.length)(h0:0<=n)(h1:n < 256 ^ k):tkN xs s k=n:=by
 subst hx hs
 rw[H7 k (Nat.le_refl _),Nat.sub_self,Int.pow_zero,Int.ediv_one,Int.emod_eq_of_lt h0 h1]
theorem bc{n:Int}(h0:0<=n)(h1:n < 4294967296):w3 n=n:=by
 simp[w3,IntKind.wrap,IntKind.bits,IntKind.signed];omega
structure Reads (N:List SV->Rd->Nl->Nl) (R:List SV->Rd->Rd) (val:Nl->List SV) (n:Nl):Prop where
 nl:N (val n) (RD 0 (val n).length) (zK n.kind)=n
 er:(R (val n) (RD 0 (val n).length)).err=0
 le:(R (val n) (RD 0 (val n).length)).end_=(R (val n) (RD 0 (val n).length)).at_
theorem H8{n:Nl}(h:chk n=0):fm n=true:=by
 unfold chk at h
 cases c1:(decide (n.kind < 1)||decide (n.kind > 5))with
 | true=>rw[c1]at h;cases h
 | false=>
  rw[c1,cF]at h
  cases c2:fm n with
  | false=>rw[c2]at h;cases h
  | true=>rfl
theorem KL{rd e0 e1 e2 e3 e4 e5 e6 e7 e8 e9 tag lab:Int}(ho:OkP ⟨1,rd,e0,e1,e2,e3,e4,e5,e6,e7,e8,e9,tag,0,0,false,0,0,0,lab,0⟩):Reads g1N (fun _ r=>g1R r) g8 ⟨1,rd,e0,e1,e2,e3,e4,e5,e6,e7,e8,e9,tag,0,0,false,0,0,0,lab,0⟩:=by
 have hx':g8 ⟨1,rd,e0,e1,e2,e3,e4,e5,e6,e7,e8,e9,tag,0,0,false,0,0,0,lab,0⟩=be rd 8++[.int .u8 e0,.int .u8 e1,.int .u8 e2,.int .u8 e3,.int .u8 e4,.int .u8 e5,.int .u8 e6,.int .u8 e7,.int .u8 e8,.int .u8 e9]++be tag 4++be lab 3:=by simp[g8]
 have hl:(g8 ⟨1,rd,e0,e1,e2,e3,e4,e5,e6,e7,e8,e9,tag,0,0,false,0,0,0,lab,0⟩).length=25:=by rw[hx'];simp[ap]
 generalize hx:g8 ⟨1,rd,e0,e1,e2,e3,e4,e5,e6,e7,e8,e9,tag,0,0,false,0,0,0,lab,0⟩=xs at hl hx'
 have t0:tkN xs 0 8=rd:=aK (pre:=[]) (by rw[hx'];simp only[nA,aA];rfl) (by simp) ho.rd0 ho.rd1
 have t1:(xs.drop 8).take 10=[.int .u8 e0,.int .u8 e1,.int .u8 e2,.int .u8 e3,.int .u8 e4,.int .u8 e5,.int .u8 e6,.int .u8 e7,.int .u8 e8,.int .u8 e9]:=by rw[hx'];rfl
 have t2:tkN xs 18 4=tag:=aK (pre:=be rd 8++[.int .u8 e0,.int .u8 e1,.int .u8 e2,.int .u8 e3,.int .u8 e4,.int .u8 e5,.int .u8 e6,.int .u8 e7,.int .u8 e8,.int .u8 e9]) (by rw[hx'];simp only[aA];rfl) (by simp[ap]) ho.tag0 ho.tag1
 have t3:tkN xs 22 3=lab:=aK (pre:=be rd 8++[.int .u8 e0,.int .u8 e1,.int .u8 e2,.int .u8 e3,.int .u8 e4,.int .u8 e5,.int .u8 e6,.int .u8 e7,.int .u8 e8,.int .u8 e9]++be tag 4) (post:=[]) (by rw[hx'];simp only[aA,List.append_nil]) (by simp[ap]) ho.lab0 ho.lab1
 refine⟨?_,?_,?_⟩
 . rw[hx,hl]
   unfold g1N ids
   simp(disch:=omega) only[aW,bi,iC,Nat.reduceAdd,t0,t1,t2,t3]
   rw[bc (n:=tag) ho.tag0 ho.tag1,bc (n:=lab) ho.lab0 (Int.lt_trans ho.lab1 (by decide))]
   rfl
 . rw[hx,hl];unfold g1R;simp(disch:=omega) only[aW,Nat.reduceAdd];rfl
 . rw[hx,hl];unfold g1R;simp(disch:=omega) only[aW,Nat.reduceAdd];rfl
theorem KM{rd e0 e1 e2 e3 e4 e5 e6 e7 e8 e9 tag pip plen gw lab:Int}(ho:OkP ⟨5,rd,e0,e1,e2,e3,e4,e5,e6,e7,e8,e9,tag,0,0,false,pip,plen,gw,lab,0⟩):Reads g5N (fun _ r=>g5R r) hO ⟨5,rd,e0,e1,e2,e3,e4,e5,e6,e7,e8,e9,tag,0,0,false,pip,plen,gw,lab,0⟩:=by
 have hx':hO ⟨5,rd,e0,e1,e2,e3,e4,e5,e6,e7,e8,e9,tag,0,0,false,pip,plen,gw,lab,0⟩=be rd 8++[.int .u8 e0,.int .u8 e1,.int .u8 e2,.int .u8 e3,.int .u8 e4,.int .u8 e5,.int .u8 e6,.int .u8 e7,.int .u8 e8,.int .u8 e9]++be tag 4++be plen 1++be pip 4++be gw 4++be lab 3:=by simp[hO]
 have hl:(hO ⟨5,rd,e0,e1,e2,e3,e4,e5,e6,e7,e8,e9,tag,0,0,false,pip,plen,gw,lab,0⟩).length=34:=by rw[hx'];simp[ap]
 generalize hx:hO ⟨5,rd,e0,e1,e2,e3,e4,e5,e6,e7,e8,e9,tag,0,0,false,pip,plen,gw,lab,0⟩=xs at hl hx'
 have t0:tkN xs 0 8=rd:=aK (pre:=[]) (by rw[hx'];simp only[nA,aA];rfl) (by simp) ho.rd0 ho.rd1
 have t1:(xs.drop 8).take 10=[.int .u8 e0,.int .u8 e1,.int .u8 e2,.int .u8 e3,.int .u8 e4,.int .u8 e5,.int .u8 e6,.int .u8 e7,.int .u8 e8,.int .u8 e9]:=by rw[hx'];rfl
 have t2:tkN xs 18 4=tag:=aK (pre:=be rd 8++[.int .u8 e0,.int .u8 e1,.int .u8 e2,.int .u8 e3,.int .u8 e4,.int .u8 e5,.int .u8 e6,.int .u8 e7,.int .u8 e8,.int .u8 e9]) (by rw[hx'];simp only[aA];rfl) (by simp[ap]) ho.tag0 ho.tag1
 have t3:tkN xs 22 1=plen:=aK (pre:=be rd 8++[.int .u8 e0,.int .u8 e1,.int .u8 e2,.int .u8 e3,.int .u8 e4,.int .u8 e5,.int .u8 e6,.int .u8 e7,.int .u8 e8,.int .u8 e9]++be tag 4) (by rw[hx'];simp only[aA];rfl) (by simp[ap]) ho.pl0 ho.pl1
 have t4:tkN xs 23 4=pip:=aK (pre:=be rd 8++[.int .u8 e0,.int .u8 e1,.int .u8 e2,.int .u8 e3,.int .u8 e4,.int .u8 e5,.int .u8 e6,.int .u8 e7,.int .u8 e8,.int .u8 e9]++be tag 4++be plen 1) (by rw[hx'];simp only[aA];rfl) (by simp[ap]) ho.pip0 ho.pip1
 have t5:tkN xs 27 4=gw:=aK (pre:=be rd 8++[.int .u8 e0,.int .u8 e1,.int .u8 e2,.int .u8 e3,.int .u8 e4,.int .u8 e5,.int .u8 e6,.int .u8 e7,.int .u8 e8,.int .u8 e9]++be tag 4++be plen 1++be pip 4) (by rw[hx'];simp only[aA];rfl) (by simp[ap]) ho.gw0 ho.gw1
 have t6:tkN xs 31 3=lab:=aK (pre:=be rd 8++[.int .u8 e0,.int .u8 e1,.int .u8 e2,.int .u8 e3,.int .u8 e4,.int .u8 e5,.int .u8 e6,.int .u8 e7,.int .u8 e8,.int .u8 e9]++be tag 4++be plen 1++be pip 4++be gw 4) (post:=[]) (by rw[hx'];simp only[aA,List.append_nil]) (by simp[ap]) ho.lab0 ho.lab1
 refine⟨?_,?_,?_⟩
 . rw[hx,hl]
   unfold g5N ids g5r
   simp(disch:=omega) only[aW,bi,iC,Nat.reduceAdd,t0,t1,t2,t3,t4,t5,t6]
   rw[bc (n:=tag) ho.tag0 ho.tag1,bc (n:=pip) ho.pip0 ho.pip1,bc (n:=gw) ho.gw0 ho.gw1,bc (n:=lab) ho.lab0 (Int.lt_trans ho.lab1 (by decide)),ai (n:=plen) (by have:=ho.pl0;simp only at this;omega) (by have:=ho.pl1;simp only at this;omega)]
   rfl
 . rw[hx,hl];unfold g5R g5r;simp(disch:=omega) only[aW,Nat.reduceAdd];rfl
 . rw[hx,hl];unfold g5R g5r;simp(disch:=omega) only[aW,Nat.reduceAdd];rfl
theorem KN{rd tag ip:Int}(ho:OkP ⟨3,rd,0,0,0,0,0,0,0,0,0,0,tag,0,ip,true,0,0,0,0,0⟩):Reads g3N g3R g9 ⟨3,rd,0,0,0,0,0,0,0,0,0,0,tag,0,ip,true,0,0,0,0,0⟩:=by
 have hx':g9 ⟨3,rd,0,0,0,0,0,0,0,0,0,0,tag,0,ip,true,0,0,0,0,0⟩=be rd 8++be tag 4++be 32 1++be ip 4:=by simp[g9]
 have hl:(g9 ⟨3,rd,0,0,0,0,0,0,0,0,0,0,tag,0,ip,true,0,0,0,0,0⟩).length=17:=by rw[hx'];simp[ap]
 generalize hx:g9 ⟨3,rd,0,0,0,0,0,0,0,0,0,0,tag,0,ip,true,0,0,0,0,0⟩=xs at hl hx'
 have t0:tkN xs 0 8=rd:=aK (pre:=[]) (by rw[hx'];simp only[nA,aA];rfl) (by simp) ho.rd0 ho.rd1
 have t1:tkN xs 8 4=tag:=aK (pre:=be rd 8) (by rw[hx'];simp only[aA];rfl) (by simp[ap]) ho.tag0 ho.tag1
 have t2:tkN xs 12 1=32:=aK (pre:=be rd 8++be tag 4) (by rw[hx'];simp only[aA];rfl) (by simp[ap]) (by decide) (by decide)
 have t3:tkN xs 13 4=ip:=aK (pre:=be rd 8++be tag 4++be 32 1) (post:=[]) (by rw[hx'];simp only[aA,List.append_nil]) (by simp[ap]) ho.ip0 ho.ip1
 refine⟨?_,?_,?_⟩
 . rw[hx,hl]
   unfold g3N gq
   simp(disch:=omega) only[aW,bi,Nat.reduceAdd,t0,t1,t2,t3,beq_self_eq_true,cT]
   rw[bc (n:=tag) ho.tag0 ho.tag1,bc (n:=ip) ho.ip0 ho.ip1]
   rfl
 . rw[hx,hl];unfold g3R da;simp(disch:=omega) only[aW,bi,Nat.reduceAdd,t2,beq_self_eq_true,cT];rfl
 . rw[hx,hl];unfold g3R da;simp(disch:=omega) only[aW,bi,Nat.reduceAdd,t2,beq_self_eq_true,cT];rfl
theorem KO{rd e0 e1 e2 e3 e4 e5 e6 e7 e8 e9 ip:Int}(ho:OkP ⟨4,rd,e0,e1,e2,e3,e4,e5,e6,e7,e8,e9,0,0,ip,true,0,0,0,0,0⟩):Reads g4N g4R hJ ⟨4,rd,e0,e1,e2,e3,e4,e5,e6,e7,e8,e9,0,0,ip,true,0,0,0,0,0⟩:=by
 have hx':hJ ⟨4,rd,e0,e1,e2,e3,e4,e5,e6,e7,e8,e9,0,0,ip,true,0,0,0,0,0⟩=be rd 8++[.int .u8 e0,.int .u8 e1,.int .u8 e2,.int .u8 e3,.int .u8 e4,.int .u8 e5,.int .u8 e6,.int .u8 e7,.int .u8 e8,.int .u8 e9]++be 32 1++be ip 4:=by simp[hJ]
 have hl:(hJ ⟨4,rd,e0,e1,e2,e3,e4,e5,e6,e7,e8,e9,0,0,ip,true,0,0,0,0,0⟩).length=23:=by rw[hx'];simp[ap]
 generalize hx:hJ ⟨4,rd,e0,e1,e2,e3,e4,e5,e6,e7,e8,e9,0,0,ip,true,0,0,0,0,0⟩=xs at hl hx'
 have t0:tkN xs 0 8=rd:=aK (pre:=[]) (by rw[hx'];simp only[nA,aA];rfl) (by simp) ho.rd0 ho.rd1
 have t1:(xs.drop 8).take 10=[.int .u8 e0,.int .u8 e1,.int .u8 e2,.int .u8 e3,.int .u8 e4,.int .u8 e5,.int .u8 e6,.int .u8 e7,.int .u8 e8,.int .u8 e9]:=by rw[hx'];rfl
 have t2:tkN xs 18 1=32:=aK (pre:=be rd 8++[.int .u8 e0,.int .u8 e1,.int .u8 e2,.int .u8 e3,.int .u8 e4,.int .u8 e5,.int .u8 e6,.int .u8 e7,.int .u8 e8,.int .u8 e9]) (by rw[hx'];simp only[aA];rfl) (by simp[ap]) (by decide) (by decide)
 have t3:tkN xs 19 4=ip:=aK (pre:=be rd 8++[.int .u8 e0,.int .u8 e1,.int .u8 e2,.int .u8 e3,.int .u8 e4,.int .u8 e5,.int .u8 e6,.int .u8 e7,.int .u8 e8,.int .u8 e9]++be 32 1) (post:=[]) (by rw[hx'];simp only[aA,List.append_nil]) (by simp[ap]) ho.ip0 ho.ip1
 refine⟨?_,?_,?_⟩
 . rw[hx,hl]
   unfold g4N gq ids
   simp(disch:=omega) only[aW,bi,iC,Nat.reduceAdd,t0,t1,t2,t3,beq_self_eq_true,cT]
   rw[bc (n:=ip) ho.ip0 ho.ip1]
   rfl
 . rw[hx,hl];unfold g4R da;simp(disch:=omega) only[aW,bi,Nat.reduceAdd,t2,beq_self_eq_true,cT];rfl
 . rw[hx,hl];unfold g4R da;simp(disch:=omega) only[aW,bi,Nat.reduceAdd,t2,beq_self_eq_true,cT];rfl
theorem Ho{rd e0 e1 e2 e3 e4 e5 e6 e7 e8 e9 tag mac ip lab:Int}(ho:OkP ⟨2,rd,e0,e1,e2,e3,e4,e5,e6,e7,e8,e9,tag,mac,ip,true,0,0,0,lab,0⟩):Reads g2N g2R bI ⟨2,rd,e0,e1,e2,e3,e4,e5,e6,e7,e8,e9,tag,mac,ip,true,0,0,0,lab,0⟩:=by
 have hx':bI ⟨2,rd,e0,e1,e2,e3,e4,e5,e6,e7,e8,e9,tag,mac,ip,true,0,0,0,lab,0⟩=be rd 8++[.int .u8 e0,.int .u8 e1,.int .u8 e2,.int .u8 e3,.int .u8 e4,.int .u8 e5,.int .u8 e6,.int .u8 e7,.int .u8 e8,.int .u8 e9]++be tag 4++be 48 1++be mac 6++be 32 1++be ip 4++be lab 3:=by simp[bI]
 have hl:(bI ⟨2,rd,e0,e1,e2,e3,e4,e5,e6,e7,e8,e9,tag,mac,ip,true,0,0,0,lab,0⟩).length=37:=by rw[hx'];simp[ap]
 generalize hx:bI ⟨2,rd,e0,e1,e2,e3,e4,e5,e6,e7,e8,e9,tag,mac,ip,true,0,0,0,lab,0⟩=xs at hl hx'
 have t0:tkN xs 0 8=rd:=aK (pre:=[]) (by rw[hx'];simp only[nA,aA];rfl) (by simp) ho.rd0 ho.rd1
 have t1:(xs.drop 8).take 10=[.int .u8 e0,.int .u8 e1,.int .u8 e2,.int .u8 e3,.int .u8 e4,.int .u8 e5,.int .u8 e6,.int .u8 e7,.int .u8 e8,.int .u8 e9]:=by rw[hx'];rfl
 have t2:tkN xs 18 4=tag:=aK (pre:=be rd 8++[.int .u8 e0,.int .u8 e1,.int .u8 e2,.int .u8 e3,.int .u8 e4,.int .u8 e5,.int .u8 e6,.int .u8 e7,.int .u8 e8,.int .u8 e9]) (by rw[hx'];simp only[aA];rfl) (by simp[ap]) ho.tag0 ho.tag1
 have t3:tkN xs 22 1=48:=aK (pre:=be rd 8++[.int .u8 e0,.int .u8 e1,.int .u8 e2,.int .u8 e3,.int .u8 e4,.int .u8 e5,.int .u8 e6,.int .u8 e7,.int .u8 e8,.int .u8 e9]++be tag 4) (by rw[hx'];simp only[aA];rfl) (by simp[ap]) (by decide) (by decide)
 have t4:tkN xs 23 6=mac:=aK (pre:=be rd 8++[.int .u8 e0,.int .u8 e1,.int .u8 e2,.int .u8 e3,.int .u8 e4,.int .u8 e5,.int .u8 e6,.int .u8 e7,.int .u8 e8,.int .u8 e9]++be tag 4++be 48 1) (by rw[hx'];simp only[aA];rfl) (by simp[ap]) ho.mac0 ho.mac1
 have t5:tkN xs 29 1=32:=aK (pre:=be rd 8++[.int .u8 e0,.int .u8 e1,.int .u8 e2,.int .u8 e3,.int .u8 e4,.int .u8 e5,.int .u8 e6,.int .u8 e7,.int .u8 e8,.int .u8 e9]++be tag 4++be 48 1++be mac 6) (by rw[hx'];simp only[aA];rfl) (by simp[ap]) (by decide) (by decide)
 have t6:tkN xs 30 4=ip:=aK (pre:=be rd 8++[.int .u8 e0,.int .u8 e1,.int .u8 e2,.int .u8 e3,.int .u8 e4,.int .u8 e5,.int .u8 e6,.int .u8 e7,.int .u8 e8,.int .u8 e9]++be tag 4++be 48 1++be mac 6++be 32 1) (by rw[hx'];simp only[aA];rfl) (by simp[ap]) ho.ip0 ho.ip1
 have t7:tkN xs 34 3=lab:=aK (pre:=be rd 8++[.int .u8 e0,.int .u8 e1,.int .u8 e2,.int .u8 e3,.int .u8 e4,.int .u8 e5,.int .u8 e6,.int .u8 e7,.int .u8 e8,.int .u8 e9]++be tag 4++be 48 1++be mac 6++be 32 1++be ip 4) (post:=[]) (by rw[hx'];simp only[aA,List.append_nil]) (by simp[ap]) ho.lab0 ho.lab1
 refine⟨?_,?_,?_⟩
 . rw[hx,hl]
   unfold g2N g2n g2r gq da ids
   simp(disch:=omega) only[aW,bi,iC,Nat.reduceAdd,t0,t1,t2,t4,t5,t6,t7,beq_self_eq_true,cT,show decide (left (RD 37 37) > 0)=false from rfl,cT,cF]
   rw[bc (n:=tag) ho.tag0 ho.tag1,bc (n:=ip) ho.ip0 ho.ip1,bc (n:=lab) ho.lab0 (Int.lt_trans ho.lab1 (by decide))]
   rfl
 . rw[hx,hl];unfold g2R g2r da;simp(disch:=omega) only[aW,bi,Nat.reduceAdd,t5,beq_self_eq_true,cT,show decide (left (RD 37 37) > 0)=false from rfl,cT,cF];rfl
 . rw[hx,hl];unfold g2R g2r da;simp(disch:=omega) only[aW,bi,Nat.reduceAdd,t5,beq_self_eq_true,cT,show decide (left (RD 37 37) > 0)=false from rfl,cT,cF];rfl
theorem Hp{rd e0 e1 e2 e3 e4 e5 e6 e7 e8 e9 tag mac ip lab lab2:Int}(ho:OkP ⟨2,rd,e0,e1,e2,e3,e4,e5,e6,e7,e8,e9,tag,mac,ip,true,0,0,0,lab,lab2⟩)(h2:(lab2 !=0)=true):Reads g2N g2R bI ⟨2,rd,e0,e1,e2,e3,e4,e5,e6,e7,e8,e9,tag,mac,ip,true,0,0,0,lab,lab2⟩:=by
 have hx':bI ⟨2,rd,e0,e1,e2,e3,e4,e5,e6,e7,e8,e9,tag,mac,ip,true,0,0,0,lab,lab2⟩=be rd 8++[.int .u8 e0,.int .u8 e1,.int .u8 e2,.int .u8 e3,.int .u8 e4,.int .u8 e5,.int .u8 e6,.int .u8 e7,.int .u8 e8,.int .u8 e9]++be tag 4++be 48 1++be mac 6++be 32 1++be ip 4++be lab 3++be lab2 3:=by simp[bI,h2]
 have hl:(bI ⟨2,rd,e0,e1,e2,e3,e4,e5,e6,e7,e8,e9,tag,mac,ip,true,0,0,0,lab,lab2⟩).length=40:=by rw[hx'];simp[ap]
 generalize hx:bI ⟨2,rd,e0,e1,e2,e3,e4,e5,e6,e7,e8,e9,tag,mac,ip,true,0,0,0,lab,lab2⟩=xs at hl hx'
 have t0:tkN xs 0 8=rd:=aK (pre:=[]) (by rw[hx'];simp only[nA,aA];rfl) (by simp) ho.rd0 ho.rd1
 have t1:(xs.drop 8).take 10=[.int .u8 e0,.int .u8 e1,.int .u8 e2,.int .u8 e3,.int .u8 e4,.int .u8 e5,.int .u8 e6,.int .u8 e7,.int .u8 e8,.int .u8 e9]:=by rw[hx'];rfl
 have t2:tkN xs 18 4=tag:=aK (pre:=be rd 8++[.int .u8 e0,.int .u8 e1,.int .u8 e2,.int .u8 e3,.int .u8 e4,.int .u8 e5,.int .u8 e6,.int .u8 e7,.int .u8 e8,.int .u8 e9]) (by rw[hx'];simp only[aA];rfl) (by simp[ap]) ho.tag0 ho.tag1
 have t3:tkN xs 22 1=48:=aK (pre:=be rd 8++[.int .u8 e0,.int .u8 e1,.int .u8 e2,.int .u8 e3,.int .u8 e4,.int .u8 e5,.int .u8 e6,.int .u8 e7,.int .u8 e8,.int .u8 e9]++be tag 4) (by rw[hx'];simp only[aA];rfl) (by simp[ap]) (by decide) (by decide)
 have t4:tkN xs 23 6=mac:=aK (pre:=be rd 8++[.int .u8 e0,.int .u8 e1,.int .u8 e2,.int .u8 e3,.int .u8 e4,.int .u8 e5,.int .u8 e6,.int .u8 e7,.int .u8 e8,.int .u8 e9]++be tag 4++be 48 1) (by rw[hx'];simp only[aA];rfl) (by simp[ap]) ho.mac0 ho.mac1
 have t5:tkN xs 29 1=32:=aK (pre:=be rd 8++[.int .u8 e0,.int .u8 e1,.int .u8 e2,.int .u8 e3,.int .u8 e4,.int .u8 e5,.int .u8 e6,.int .u8 e7,.int .u8 e8,.int .u8 e9]++be tag 4++be 48 1++be mac 6) (by rw[hx'];simp only[aA];rfl) (by simp[ap]) (by decide) (by decide)
 have t6:tkN xs 30 4=ip:=aK (pre:=be rd 8++[.int .u8 e0,.int .u8 e1,.int .u8 e2,.int .u8 e3,.int .u8 e4,.int .u8 e5,.int .u8 e6,.int .u8 e7,.int .u8 e8,.int .u8 e9]++be tag 4++be 48 1++be mac 6++be 32 1) (by rw[hx'];simp only[aA];rfl) (by simp[ap]) ho.ip0 ho.ip1
 have t7:tkN xs 34 3=lab:=aK (pre:=be rd 8++[.int .u8 e0,.int .u8 e1,.int .u8 e2,.int .u8 e3,.int .u8 e4,.int .u8 e5,.int .u8 e6,.int .u8 e7,.int .u8 e8,.int .u8 e9]++be tag 4++be 48 1++be mac 6++be 32 1++be ip 4) (by rw[hx'];simp only[aA];rfl) (by simp[ap]) ho.lab0 ho.lab1
 have t8:tkN xs 37 3=lab2:=aK (pre:=be rd 8++[.int .u8 e0,.int .u8 e1,.int .u8 e2,.int .u8 e3,.int .u8 e4,.int .u8 e5,.int .u8 e6,.int .u8 e7,.int .u8 e8,.int .u8 e9]++be tag 4++be 48 1++be mac 6++be 32 1++be ip 4++be lab 3) (post:=[]) (by rw[hx'];simp only[aA,List.append_nil]) (by simp[ap]) ho.lac0 ho.lac1
 refine⟨?_,?_,?_⟩
 . rw[hx,hl]
   unfold g2N g2n g2r gq da ids
   simp(disch:=omega) only[aW,bi,iC,Nat.reduceAdd,t0,t1,t2,t4,t5,t6,t7,t8,beq_self_eq_true,cT,show decide (left (RD 37 40) > 0)=true from rfl,cT]
   rw[bc (n:=tag) ho.tag0 ho.tag1,bc (n:=ip) ho.ip0 ho.ip1,bc (n:=lab) ho.lab0 (Int.lt_trans ho.lab1 (by decide)),bc (n:=lab2) ho.lac0 (Int.lt_trans ho.lac1 (by decide))]
   rfl
 . rw[hx,hl];unfold g2R g2r da;simp(disch:=omega) only[aW,bi,Nat.reduceAdd,t5,beq_self_eq_true,cT,show decide (left (RD 37 40) > 0)=true from rfl,cT];rfl
 . rw[hx,hl];unfold g2R g2r da;simp(disch:=omega) only[aW,bi,Nat.reduceAdd,t5,beq_self_eq_true,cT,show decide (left (RD 37 40) > 0)=true from rfl,cT];rfl
theorem Hq{rd e0 e1 e2 e3 e4 e5 e6 e7 e8 e9 tag mac lab:Int}(ho:OkP ⟨2,rd,e0,e1,e2,e3,e4,e5,e6,e7,e8,e9,tag,mac,0,false,0,0,0,lab,0⟩):Reads g2N g2R bI ⟨2,rd,e0,e1,e2,e3,e4,e5,e6,e7,e8,e9,tag,mac,0,false,0,0,0,lab,0⟩:=by
 have hx':bI ⟨2,rd,e0,e1,e2,e3,e4,e5,e6,e7,e8,e9,tag,mac,0,false,0,0,0,lab,0⟩=be rd 8++[.int .u8 e0,.int .u8 e1,.int .u8 e2,.int .u8 e3,.int .u8 e4,.int .u8 e5,.int .u8 e6,.int .u8 e7,.int .u8 e8,.int .u8 e9]++be tag 4++be 48 1++be mac 6++be 0 1++be lab 3:=by simp[bI]
 have hl:(bI ⟨2,rd,e0,e1,e2,e3,e4,e5,e6,e7,e8,e9,tag,mac,0,false,0,0,0,lab,0⟩).length=33:=by rw[hx'];simp[ap]
 generalize hx:bI ⟨2,rd,e0,e1,e2,e3,e4,e5,e6,e7,e8,e9,tag,mac,0,false,0,0,0,lab,0⟩=xs at hl hx'
 have t0:tkN xs 0 8=rd:=aK (pre:=[]) (by rw[hx'];simp only[nA,aA];rfl) (by simp) ho.rd0 ho.rd1
 have t1:(xs.drop 8).take 10=[.int .u8 e0,.int .u8 e1,.int .u8 e2,.int .u8 e3,.int .u8 e4,.int .u8 e5,.int .u8 e6,.int .u8 e7,.int .u8 e8,.int .u8 e9]:=by rw[hx'];rfl
 have t2:tkN xs 18 4=tag:=aK (pre:=be rd 8++[.int .u8 e0,.int .u8 e1,.int .u8 e2,.int .u8 e3,.int .u8 e4,.int .u8 e5,.int .u8 e6,.int .u8 e7,.int .u8 e8,.int .u8 e9]) (by rw[hx'];simp only[aA];rfl) (by simp[ap]) ho.tag0 ho.tag1
 have t3:tkN xs 22 1=48:=aK (pre:=be rd 8++[.int .u8 e0,.int .u8 e1,.int .u8 e2,.int .u8 e3,.int .u8 e4,.int .u8 e5,.int .u8 e6,.int .u8 e7,.int .u8 e8,.int .u8 e9]++be tag 4) (by rw[hx'];simp only[aA];rfl) (by simp[ap]) (by decide) (by decide)
 have t4:tkN xs 23 6=mac:=aK (pre:=be rd 8++[.int .u8 e0,.int .u8 e1,.int .u8 e2,.int .u8 e3,.int .u8 e4,.int .u8 e5,.int .u8 e6,.int .u8 e7,.int .u8 e8,.int .u8 e9]++be tag 4++be 48 1) (by rw[hx'];simp only[aA];rfl) (by simp[ap]) ho.mac0 ho.mac1
 have t5:tkN xs 29 1=0:=aK (pre:=be rd 8++[.int .u8 e0,.int .u8 e1,.int .u8 e2,.int .u8 e3,.int .u8 e4,.int .u8 e5,.int .u8 e6,.int .u8 e7,.int .u8 e8,.int .u8 e9]++be tag 4++be 48 1++be mac 6) (by rw[hx'];simp only[aA];rfl) (by simp[ap]) (by decide) (by decide)
 have t6:tkN xs 30 3=lab:=aK (pre:=be rd 8++[.int .u8 e0,.int .u8 e1,.int .u8 e2,.int .u8 e3,.int .u8 e4,.int .u8 e5,.int .u8 e6,.int .u8 e7,.int .u8 e8,.int .u8 e9]++be tag 4++be 48 1++be mac 6++be 0 1) (post:=[]) (by rw[hx'];simp only[aA,List.append_nil]) (by simp[ap]) ho.lab0 ho.lab1
 refine⟨?_,?_,?_⟩
 . rw[hx,hl]
   unfold g2N g2n g2r gq da ids
   simp(disch:=omega) only[aW,bi,iC,Nat.reduceAdd,t0,t1,t2,t4,t5,t6,show((0:Int)==32)=false from rfl,cF,show decide (left (RD 33 33) > 0)=false from rfl,cF]
   rw[bc (n:=tag) ho.tag0 ho.tag1,bc (n:=lab) ho.lab0 (Int.lt_trans ho.lab1 (by decide))]
   rfl
 . rw[hx,hl];unfold g2R g2r da;simp(disch:=omega) only[aW,bi,Nat.reduceAdd,t5,show((0:Int)==32)=false from rfl,cF,show decide (left (RD 33 33) > 0)=false from rfl,cF];rfl
 . rw[hx,hl];unfold g2R g2r da;simp(disch:=omega) only[aW,bi,Nat.reduceAdd,t5,show((0:Int)==32)=false from rfl,cF,show decide (left (RD 33 33) > 0)=false from rfl,cF];rfl
theorem Hr{rd e0 e1 e2 e3 e4 e5 e6 e7 e8 e9 tag mac lab lab2:Int}(ho:OkP ⟨2,rd,e0,e1,e2,e3,e4,e5,e6,e7,e8,e9,tag,mac,0,false,0,0,0,lab,lab2⟩)(h2:(lab2 !=0)=true):Reads g2N g2R bI ⟨2,rd,e0,e1,e2,e3,e4,e5,e6,e7,e8,e9,tag,mac,0,false,0,0,0,lab,lab2⟩:=by
 have hx':bI ⟨2,rd,e0,e1,e2,e3,e4,e5,e6,e7,e8,e9,tag,mac,0,false,0,0,0,lab,lab2⟩=be rd 8++[.int .u8 e0,.int .u8 e1,.int .u8 e2,.int .u8 e3,.int .u8 e4,.int .u8 e5,.int .u8 e6,.int .u8 e7,.int .u8 e8,.int .u8 e9]++be tag 4++be 48 1++be mac 6++be 0 1++be lab 3++be lab2 3:=by simp[bI,h2]
 have hl:(bI ⟨2,rd,e0,e1,e2,e3,e4,e5,e6,e7,e8,e9,tag,mac,0,false,0,0,0,lab,lab2⟩).length=36:=by rw[hx'];simp[ap]
 generalize hx:bI ⟨2,rd,e0,e1,e2,e3,e4,e5,e6,e7,e8,e9,tag,mac,0,false,0,0,0,lab,lab2⟩=xs at hl hx'
 have t0:tkN xs 0 8=rd:=aK (pre:=[]) (by rw[hx'];simp only[nA,aA];rfl) (by simp) ho.rd0 ho.rd1
 have t1:(xs.drop 8).take 10=[.int .u8 e0,.int .u8 e1,.int .u8 e2,.int .u8 e3,.int .u8 e4,.int .u8 e5,.int .u8 e6,.int .u8 e7,.int .u8 e8,.int .u8 e9]:=by rw[hx'];rfl
 have t2:tkN xs 18 4=tag:=aK (pre:=be rd 8++[.int .u8 e0,.int .u8 e1,.int .u8 e2,.int .u8 e3,.int .u8 e4,.int .u8 e5,.int .u8 e6,.int .u8 e7,.int .u8 e8,.int .u8 e9]) (by rw[hx'];simp only[aA];rfl) (by simp[ap]) ho.tag0 ho.tag1
 have t3:tkN xs 22 1=48:=aK (pre:=be rd 8++[.int .u8 e0,.int .u8 e1,.int .u8 e2,.int .u8 e3,.int .u8 e4,.int .u8 e5,.int .u8 e6,.int .u8 e7,.int .u8 e8,.int .u8 e9]++be tag 4) (by rw[hx'];simp only[aA];rfl) (by simp[ap]) (by decide) (by decide)
 have t4:tkN xs 23 6=mac:=aK (pre:=be rd 8++[.int .u8 e0,.int .u8 e1,.int .u8 e2,.int .u8 e3,.int .u8 e4,.int .u8 e5,.int .u8 e6,.int .u8 e7,.int .u8 e8,.int .u8 e9]++be tag 4++be 48 1) (by rw[hx'];simp only[aA];rfl) (by simp[ap]) ho.mac0 ho.mac1
 have t5:tkN xs 29 1=0:=aK (pre:=be rd 8++[.int .u8 e0,.int .u8 e1,.int .u8 e2,.int .u8 e3,.int .u8 e4,.int .u8 e5,.int .u8 e6,.int .u8 e7,.int .u8 e8,.int .u8 e9]++be tag 4++be 48 1++be mac 6) (by rw[hx'];simp only[aA];rfl) (by simp[ap]) (by decide) (by decide)
 have t6:tkN xs 30 3=lab:=aK (pre:=be rd 8++[.int .u8 e0,.int .u8 e1,.int .u8 e2,.int .u8 e3,.int .u8 e4,.int .u8 e5,.int .u8 e6,.int .u8 e7,.int .u8 e8,.int .u8 e9]++be tag 4++be 48 1++be mac 6++be 0 1) (by rw[hx'];simp only[aA];rfl) (by simp[ap]) ho.lab0 ho.lab1
 have t7:tkN xs 33 3=lab2:=aK (pre:=be rd 8++[.int .u8 e0,.int .u8 e1,.int .u8 e2,.int .u8 e3,.int .u8 e4,.int .u8 e5,.int .u8 e6,.int .u8 e7,.int .u8 e8,.int .u8 e9]++be tag 4++be 48 1++be mac 6++be 0 1++be lab 3) (post:=[]) (by rw[hx'];simp only[aA,List.append_nil]) (by simp[ap]) ho.lac0 ho.lac1
 refine⟨?_,?_,?_⟩
 . rw[hx,hl]
   unfold g2N g2n g2r gq da ids
   simp(disch:=omega) only[aW,bi,iC,Nat.reduceAdd,t0,t1,t2,t4,t5,t6,t7,show((0:Int)==32)=false from rfl,cF,show decide (left (RD 33 36) > 0)=true from rfl,cT,cF]
   rw[bc (n:=tag) ho.tag0 ho.tag1,bc (n:=lab) ho.lab0 (Int.lt_trans ho.lab1 (by decide)),bc (n:=lab2) ho.lac0 (Int.lt_trans ho.lac1 (by decide))]
   rfl
 . rw[hx,hl];unfold g2R g2r da;simp(disch:=omega) only[aW,bi,Nat.reduceAdd,t5,show((0:Int)==32)=false from rfl,cF,show decide (left (RD 33 36) > 0)=true from rfl,cT,cF];rfl
 . rw[hx,hl];unfold g2R g2r da;simp(disch:=omega) only[aW,bi,Nat.reduceAdd,t5,show((0:Int)==32)=false from rfl,cF,show decide (left (RD 33 36) > 0)=true from rfl,cT,cF];rfl
def byl(l:List SV):Prop:=∀ v ∈ l,∃ x:Int,v= .int .u8 x/\0<=x/\x<=255
theorem byl.ok{l:List SV}(h:byl l):mN l:=by
 intro k
 unfold dg
 rw[gD0]
 cases hk:l[k]? with
 | none=>simp[asI]
 | some v=>
  obtain⟨x,rfl,h1,h2⟩:=h v (List.mem_of_getElem? hk)
  exact⟨h1,h2⟩
theorem byl.sl{l:List SV}(h:byl l)(a b:Nat):byl (sl l a b):=fun v hv=>h v (List.mem_of_mem_drop (List.mem_of_mem_take hv))
theorem byl.app{a b:List SV}(h:byl a)(k:byl b):byl (a++b):=fun v hv=>by
 rcases List.mem_append.1 hv with h1 | h1
 . exact h v h1
 . exact k v h1
theorem byl.be(n:Int):∀ k,byl (be n k)
 | 0=>fun v hv=>by cases hv
 | k+1=>fun v hv=>by
  rcases List.mem_cons.1 hv with rfl | h
  . exact⟨_,rfl,Int.emod_nonneg _ (by decide),by have:=Int.emod_lt_of_pos (n / 256 ^ k) (show(0:Int) < 256 by decide);omega⟩
  . exact byl.be n k v h
theorem uF{a b:List SV}(ha:byl a)(hb:byl b)(h:a.map Am.byteOf=b.map Am.byteOf):a=b:=by
 induction a generalizing b with
 | nil=>cases b with
  | nil=>rfl
  | cons x b=>cases h
 | cons x a ih=>cases b with
  | nil=>cases h
  | cons y b=>
   simp only[List.map_cons,List.cons.injEq]at h
   obtain⟨p,rfl,p0,p1⟩:=ha x (by simp)
   obtain⟨q,rfl,q0,q1⟩:=hb y (by simp)
   have:p=q:=by
    have h1:=congrArg UInt8.toNat h.1
    simp only[Am.byteOf,UInt8.toNat_ofNat']at h1
    omega
   rw[this,ih (fun v hv=>ha v (by simp[hv])) (fun v hv=>hb v (by simp[hv])) h.2]
structure RgN (n:Nl):Prop where
 rd:0<=n.rd/\n.rd < 18446744073709551616
 tag:0<=n.tag/\n.tag < 4294967296
 mac:0<=n.mac/\n.mac < 18446744073709551616
 ip:0<=n.ip/\n.ip < 4294967296
 pip:0<=n.pip/\n.pip < 4294967296
 gw:0<=n.gw/\n.gw < 4294967296
 lab:0<=n.lab/\n.lab < 4294967296
 lab2:0<=n.lab2/\n.lab2 < 4294967296
theorem wI    {n:Nl}(h:RgN n)(hc:chk n=0):OkP n:=by
 have h1:=h.rd;have h2:=h.tag;have h3:=h.mac;have h4:=h.ip;have h5:=h.pip;have h6:=h.gw;have h7:=h.lab;have h8:=h.lab2
 unfold chk at hc
 cases c1:(decide (n.kind < 1)||decide (n.kind > 5))with
 | true=>rw[c1]at hc;cases hc
 | false=>
  rw[c1,cF]at hc
  cases c2: !fm n with
  | true=>rw[c2]at hc;cases hc
  | false=>
   rw[c2,cF]at hc
   cases c3:big n with
   | true=>rw[c3]at hc;cases hc
   | false=>
    rw[c3,cF]at hc
    cases c4: !vld n.plen with
    | true=>rw[c4]at hc;cases hc
    | false=>
     have hv:vld n.plen=true:=by simpa using c4
     have hp:=(kY _).1 hv
     unfold big at c3
     simp at c3
     refine⟨h1.1,h1.2,h2.1,h2.2,h3.1,?_,h4.1,h4.2,h5.1,h5.2,hp.1,by omega,h6.1,h6.2,h7.1,?_,h8.1,?_⟩ <;> omega
def RgE(n:Nl):Prop:=byl [.int .u8 n.e0,.int .u8 n.e1,.int .u8 n.e2,.int .u8 n.e3,.int .u8 n.e4,.int .u8 n.e5,.int .u8 n.e6,.int .u8 n.e7,.int .u8 n.e8,.int .u8 n.e9]
theorem bR(n:Int):0<=w3 n/\w3 n < 4294967296:=by
 simp[w3,IntKind.wrap,IntKind.bits,IntKind.signed];omega
theorem jL{es:List SV}(h:mN es)(r:Rd)(k:Nat):0<=r.num es k/\r.num es k < 256 ^ k:=by
 have hp:(0:Int) < 256 ^ k:=Int.pow_pos (by decide)
 unfold Rd.num
 cases r.err !=0 with
 | true=>exact⟨Int.le_refl _,hp⟩
 | false=>
  cases r.few k with
  | true=>exact⟨Int.le_refl _,hp⟩
  | false=>exact aX h _ _
theorem lr{es:List SV}(h:byl es)(r:Rd)(k:Nat):byl (r.sub es k):=by
 unfold Rd.sub
 cases r.err !=0 with
 | true=>exact fun v hv=>by cases hv
 | false=>
  cases r.few k with
  | true=>exact fun v hv=>by cases hv
  | false=>exact h.sl _ _
theorem FI{xs:List SV}(h:byl xs)(j:Nat):0<=idB xs j/\idB xs j<=255:=by
 unfold idB
 cases Nat.blt j xs.length with
 | true=>exact h.ok j
 | false=>exact⟨by simp,by simp⟩
theorem o6{xs:List SV}(h:byl xs)(n:Nl):RgE (ids xs n):=by
 intro v hv
 simp only[ids,List.mem_cons,List.not_mem_nil,or_false]at hv
 rcases hv with rfl | rfl | rfl | rfl | rfl | rfl | rfl | rfl | rfl | rfl <;> exact⟨_,rfl,FI h _⟩
theorem zE(k:Int):RgE (zK k):=by
 intro v hv
 simp only[zK,zN,List.mem_cons,List.not_mem_nil,or_false,or_self]at hv
 exact⟨0,hv,by decide,by decide⟩
theorem o7{es:List SV}{r:Rd}{n:Nl}(h:0<=n.ip/\n.ip < 4294967296):0<=(gq es r n).ip/\(gq es r n).ip < 4294967296:=by
 unfold gq
 simp only[]
 cases r.num es 1==32 with
 | true=>exact bR _
 | false=>exact h
theorem z0:(0:Int)<=0/\(0:Int) < 4294967296:=⟨by decide,by decide⟩
theorem z6:(0:Int)<=0/\(0:Int) < 18446744073709551616:=⟨by decide,by decide⟩
theorem p8{n:Int}(h:0<=n/\n < 256 ^ 8):0<=n/\n < 18446744073709551616:=h
theorem p6{n:Int}(h:0<=n/\n < 256 ^ 6):0<=n/\n < 18446744073709551616:=⟨h.1,Int.lt_trans h.2 (by decide)⟩
theorem rg1{es:List SV}(h:byl es)(r:Rd)(k:Int):RgN (g1N es r (zK k))/\RgE (g1N es r (zK k))/\(g1N es r (zK k)).kind=k:=
 ⟨⟨p8 (jL h.ok _ _),bR _,z6,z0,z0,z0,bR _,z0⟩,o6 (lr h (r.adv 8) 10) (zK k),rfl⟩
theorem rg2{es:List SV}(h:byl es)(r:Rd)(k:Int):RgN (g2N es r (zK k))/\RgE (g2N es r (zK k))/\(g2N es r (zK k)).kind=k:=by
 refine⟨⟨p8 (jL h.ok _ _),bR _,p6 (jL h.ok _ _),o7 z0,z0,z0,bR _,?_⟩,o6 (lr h (r.adv 8) 10) (zK k),rfl⟩
 unfold g2N
 simp only[]
 cases decide (left ((g2r es r).adv 3) > 0)with
 | true=>exact bR _
 | false=>exact z0
theorem rg3{es:List SV}(h:byl es)(r:Rd)(k:Int):RgN (g3N es r (zK k))/\RgE (g3N es r (zK k))/\(g3N es r (zK k)).kind=k:=
 ⟨⟨p8 (jL h.ok _ _),bR _,z6,o7 z0,z0,z0,z0,z0⟩,zE k,rfl⟩
theorem rg4{es:List SV}(h:byl es)(r:Rd)(k:Int):RgN (g4N es r (zK k))/\RgE (g4N es r (zK k))/\(g4N es r (zK k)).kind=k:=
 ⟨⟨p8 (jL h.ok _ _),z0,z6,o7 z0,z0,z0,z0,z0⟩,o6 (lr h (r.adv 8) 10) (zK k),rfl⟩
theorem rg5{es:List SV}(h:byl es)(r:Rd)(k:Int):RgN (g5N es r (zK k))/\RgE (g5N es r (zK k))/\(g5N es r (zK k)).kind=k:=
 ⟨⟨p8 (jL h.ok _ _),bR _,z6,z0,bR _,bR _,bR _,z0⟩,o6 (lr h (r.adv 8) 10) (zK k),rfl⟩
theorem Ah(n:Int):0<=IntKind.u8.wrap n/\IntKind.u8.wrap n<=255:=by
 simp[IntKind.wrap,IntKind.bits,IntKind.signed];omega
theorem Ci    {n:Nl}(h:RgE n):byl (nb n):=by
 have e:∀ val:Nl->List SV,byl (val n)->byl (gz val n):=by
  intro val hv
  refine byl.app (fun v hx=> ?_) hv
  simp only[List.mem_cons,List.not_mem_nil,or_false]at hx
  rcases hx with rfl | rfl <;> exact⟨_,rfl,Ah _⟩
 have b:=byl.be
 unfold nb
 cases n.kind==1 with
 | true=>exact e _ ((((b _ 8).app h).app (b _ _)).app (b _ _))
 | false=>cases n.kind==2 with
  | true=>
   refine e _ (((((((b _ 8).app h).app (b _ _)).app (b _ _)).app (b _ _)).app ?_).app (b _ _) |>.app ?_)
   . cases n.hip
     . exact b _ _
     . exact(b _ _).app (b _ _)
   . cases(n.lab2 !=0)
     . exact fun v hv=>by cases hv
     . exact b _ _
  | false=>cases n.kind==3 with
   | true=>exact e _ ((((b _ 8).app (b _ _)).app (b _ _)).app (b _ _))
   | false=>cases n.kind==4 with
    | true=>exact e _ ((((b _ 8).app h).app (b _ _)).app (b _ _))
    | false=>exact e _ (((((((b _ 8).app h).app (b _ _)).app (b _ _)).app (b _ _)).app (b _ _)).app (b _ _))
end Go.Proofs.YtnlmhpancboddaaGreat
