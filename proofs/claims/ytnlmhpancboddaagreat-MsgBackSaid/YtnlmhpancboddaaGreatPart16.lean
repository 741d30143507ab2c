/- What has been written is read: the values. -/
import Derived.Test.YtnlmhpancboddaaGreatPart15
set_option linter.unusedVariables false
set_option linter.unusedSimpArgs false
namespace Go.Proofs.YtnlmhpancboddaaGreat
open Go.Am
set_option maxRecDepth 100000
structure Valid (a:At):Prop where
 ok:OkA a
 ori:a.ori<=2
 pl:a.path.length<=32
 cl:a.cl.length<=16
 cm:a.cm.length<=64
 med:a.hm=false->a.med=0
 prf:a.hp=false->a.prf=0
 orr:a.ho=false->a.orr=0
 tk:a.tk=0\/a.tk=3\/a.tk=6
 t0:a.tk=0->a.tl=0/\a.tr=0/\a.tg=0
 t6:a.tk=6->a.tg=0
 ps:GL a.path
 cs:GL a.cl
 ms:sh8 a.cm
theorem lG{xs pre post:List SV}{n:Int}{s:Nat}(hx:xs=pre++(be n 1++post))(hs:s=pre.length)(h0:0<=n)(h1:n < 256):dg xs s=n:=by
 rw[<- tk1];exact aW hx hs h0 (by simpa using h1)
theorem p3:(256:Int) ^ 3=16777216:=by decide
section
variable {a:At} (h:Valid a) (R U:List SV)
include h
theorem LV(d:Ds):okC 1 (bn 0 a R U)=true/\gD 1 (bn 0 a R U) d={d with ori:=a.ori}:=by
 obtain⟨o0,o1⟩:=h.ok.ori
 have h2:=h.ori
 have ht:tkN (be (w6 a.ori) 1) 0 1=a.ori:=by
  rw[cf o0 (by omega)]
  exact aW (pre:=[]) (post:=[]) (by simp) rfl o0 (by simp;omega)
 refine⟨?_,?_⟩
 . show(decide ((be (w6 a.ori) 1).length=1)&&decide (tkN (be (w6 a.ori) 1) 0 1<=2))=true
   rw[ah,ht,dT0 rfl,dT0 h2];rfl
 . show({d with ori:=IntKind.i64.wrap (tkN (be (w6 a.ori) 1) 0 1)}:Ds)=_
   rw[ht,am (by omega) (by omega)]
omit h in
theorem tk4{n:Int}(h0:0<=n)(h1:n < 4294967296):tkN (be (w6 n) 4) 0 4=n:=by
 rw[cf h0 (by omega)]
 exact aW (pre:=[]) (post:=[]) (by simp) rfl h0 (by rw[p4n];exact h1)
omit h in
theorem I7{n:Int}(h0:0<=n)(h1:n < 4294967296):(decide ((be (w6 n) 4).length=4)&&decide (tkN (be (w6 n) 4) 0 4<=4294967295))=true:=by
 rw[ah,tk4 h0 h1,dT0 rfl,dT0 (by omega)];rfl
theorem LW(d:Ds):okC 4 (bn 2 a R U)=true/\gD 4 (bn 2 a R U) d={d with hm:=true,med:=a.med}:=by
 obtain⟨o0,o1⟩:=h.ok.med
 refine⟨I7 o0 o1,?_⟩
 show({d with hm:=true,med:=w3 (tkN (be (w6 a.med) 4) 0 4)}:Ds)=_
 rw[tk4 o0 o1,bS o0 o1]
theorem LX(d:Ds):okC 5 (bn 3 a R U)=true/\gD 5 (bn 3 a R U) d={d with hp:=true,prf:=a.prf}:=by
 obtain⟨o0,o1⟩:=h.ok.prf
 refine⟨I7 o0 o1,?_⟩
 show({d with hp:=true,prf:=w3 (tkN (be (w6 a.prf) 4) 0 4)}:Ds)=_
 rw[tk4 o0 o1,bS o0 o1]
theorem LY(d:Ds):okC 9 (bn 4 a R U)=true/\gD 9 (bn 4 a R U) d={d with ho:=true,orr:=a.orr}:=by
 obtain⟨o0,o1⟩:=h.ok.orr
 refine⟨I7 o0 o1,?_⟩
 show({d with ho:=true,orr:=w3 (tkN (be (w6 a.orr) 4) 0 4)}:Ds)=_
 rw[tk4 o0 o1,bS o0 o1]
theorem LZ  (d:Ds):okC 2 (bn   1 a R U)=true/\gD 2 (bn   1 a R U) d={d with path:=a.path}:=by
 have hp:=h.pl
 show kw (cL a)=true/\ptG (cL a) d=_
 by_cases h0:a.path.length=0
 . have hn:a.path=[]:=List.length_eq_zero_iff.1 h0
   have hb:cL a=[]:=by unfold cL;rw[hn];rfl
   rw[hb,hn];exact⟨rfl,rfl⟩
 . have hb:cL a=(be 2 1++be (w6 a.path.length) 1)++(wds a.path.length a.path 0++[]):=by
     unfold cL;rw[dT0 (by omega),List.append_nil];rfl
   have hl:(cL a).length=2+4 * a.path.length:=by rw[hb];simp[ah,lU];omega
   have d0:dg (cL a) 0=2:=lG (pre:=[]) (post:=be (w6 a.path.length) 1++wds a.path.length a.path 0) (by rw[hb];simp[aA]) rfl (by omega) (by omega)
   have d1:dg (cL a) 1=a.path.length:=lG (pre:=be 2 1) (post:=wds a.path.length a.path 0) (n:=(a.path.length:Int)) (by rw[hb,cf (by omega) (by omega)];simp[aA]) (by simp[ah]) (by omega) (by omega)
   have hq:elQ (((cL a).length - 2:Nat):Int) 4=((a.path.length:Nat):Int):=by
    rw[hl,show 2+4 * a.path.length - 2=4 * a.path.length by omega]
    have:=vk (4 * a.path.length) (by omega) 4 (by omega)
    rw[Nat.mul_div_cancel_left _ (by omega)]at this
    exact this
   have hB:elB (((cL a).length - 2:Nat):Int) 4 32=true:=by
    rw[hl,show 2+4 * a.path.length - 2=4 * a.path.length by omega]
    exact(rU (k:=4 * a.path.length) (by omega) (z:=4) (m:=32) (by omega)).2 (by omega)
   have hw:wd (cL a) 2 a.path.length=a.path:=by
    rw[hb]
    have:=xI h.ps [] a.path.length 0 (be 2 1++be (w6 a.path.length) 1) (by omega) (by omega)
    rw[lA0,ah,ah]at this
    rw[this];simp
   refine⟨?_,?_⟩
   . unfold kw
     rw[hB,hq,d0,d1,show((cL a).length==0)=false by rw[hl];simp,dT0 (by omega)]
     simp
   . unfold ptG
     rw[hq,show((cL a).length==0)=false by rw[hl];simp,cF]
     show({d with path:=wd (cL a) 2 a.path.length}:Ds)=_
     rw[hw]
theorem L0(hp:0 < a.cl.length)(d:Ds):okC 10 (bn 5 a R U)=true/\gD 10 (bn 5 a R U) d={d with cl:=a.cl}:=by
 have hm:=h.cl
 have hl:(wds a.cl.length a.cl 0).length=4 * a.cl.length:=lU _ _ _
 refine⟨?_,?_⟩
 . show elB ((wds a.cl.length a.cl 0).length:Int) 4 16=true
   rw[hl]
   exact(rU (k:=4 * a.cl.length) (by omega) (z:=4) (m:=16) (by omega)).2 (by omega)
 . show({d with cl:=wd (wds a.cl.length a.cl 0) 0 ((wds a.cl.length a.cl 0).length / 4)}:Ds)=_
   rw[hl,Nat.mul_div_cancel_left _ (by omega)]
   have:=xI h.cs [] a.cl.length 0 [] (by omega) (by omega)
   simp only[nA,List.append_nil,List.length_nil]at this
   rw[this];simp
theorem L1(hp:0 < a.cm.length)(d:Ds):okC 16 (bn 8 a R U)=true/\gD 16 (bn 8 a R U) d={d with cm:=a.cm}:=by
 have hm:=h.cm
 have hl:(gp a.cm.length a.cm 0).length=8 * a.cm.length:=qW _ _ _
 refine⟨?_,?_⟩
 . show elB ((gp a.cm.length a.cm 0).length:Int) 8 64=true
   rw[hl]
   exact(rU (k:=8 * a.cm.length) (by omega) (z:=8) (m:=64) (by omega)).2 (by omega)
 . show({d with cm:=cw (gp a.cm.length a.cm 0) 0 ((gp a.cm.length a.cm 0).length / 8)}:Ds)=_
   rw[hl,Nat.mul_div_cancel_left _ (by omega)]
   have:=zu h.ms [] a.cm.length 0 [] (by omega) (by omega)
   simp only[nA,List.append_nil,List.length_nil]at this
   rw[this];simp
omit h in
theorem BO(post:List SV):tkN (fam++post) 0 3=6470:=aW (pre:=[]) (post:=post) (n:=6470) (k:=3) (by simp[fam]) rfl (by decide) (by rw[p3];decide)
omit h in
theorem L2{u:List SV}(hU:U=nbs u)(hg:gG u)(ho:okR u=true)(d:Ds):okC 15 (bn 7 a R U)=true/\gD 15 (bn 7 a R U) d={d with unr:=u}:=by
 obtain⟨e1,e2⟩:=DS hg ho
 have hv:bn 7 a R U=fam++nbs u:=by rw[hU];rfl
 rw[hv]
 have hd:(fam++nbs u).drop 3=nbs u:=List.drop_left' (by simp[fam,ah])
 refine⟨?_,?_⟩
 . show sH (fam++nbs u)=true
   unfold sH
   rw[hd,BO,e1,dT0 (by simp[fam,ah])];rfl
 . show({d with unr:=rdL ((fam++nbs u).drop 3)}:Ds)=_
   rw[hd,e2]
theorem L3{r:List SV}(hR:R=nbs r)(hg:gG r)(ho:okR r=true)(hn:0 < r.length)(d:Ds):okC 14 (bn 6 a R U)=true/\gD 14 (bn 6 a R U) d={d with nx:=a.nx,rch:=r}:=by
 obtain⟨e1,e2⟩:=DS hg ho
 obtain⟨o0,o1⟩:=h.ok.nx
 have hv:bn 6 a R U=fam++(be 4 1++(be (w6 a.nx) 4++(be 0 1++nbs r))):=by
  rw[hR];show lw a (nbs r)=_;unfold lw;simp[aA]
 rw[hv]
 have hfl:fam.length=3:=ah _ _
 have hd:(fam++(be 4 1++(be (w6 a.nx) 4++(be 0 1++nbs r)))).drop 9=nbs r:=by
  rw[show fam++(be 4 1++(be (w6 a.nx) 4++(be 0 1++nbs r)))=(fam++be 4 1++be (w6 a.nx) 4++be 0 1)++nbs r by simp[aA]]
  exact List.drop_left' (by simp[hfl,ah])
 have d3:dg (fam++(be 4 1++(be (w6 a.nx) 4++(be 0 1++nbs r)))) 3=4:=lG (pre:=fam) (post:=be (w6 a.nx) 4++(be 0 1++nbs r)) rfl hfl.symm (by omega) (by omega)
 have d8:dg (fam++(be 4 1++(be (w6 a.nx) 4++(be 0 1++nbs r)))) 8=0:=lG (pre:=fam++be 4 1++be (w6 a.nx) 4) (post:=nbs r) (by simp[aA]) (by simp[hfl,ah]) (by omega) (by omega)
 have t4:tkN (fam++(be 4 1++(be (w6 a.nx) 4++(be 0 1++nbs r)))) 4 4=a.nx:=aW (pre:=fam++be 4 1) (post:=be 0 1++nbs r) (n:=a.nx) (k:=4) (by rw[cf o0 (by omega)];simp[aA]) (by simp[hfl,ah]) o0 (by rw[p4n];exact o1)
 refine⟨?_,?_⟩
 . show tN (fam++(be 4 1++(be (w6 a.nx) 4++(be 0 1++nbs r))))=true
   unfold tN
   rw[hd,BO,d3,d8,e1,e2,dT0 (by simp[hfl,ah];omega),dT0 (by omega)];rfl
 . show({d with nx:=tkN (fam++(be 4 1++(be (w6 a.nx) 4++(be 0 1++nbs r)))) 4 4,rch:=rdL ((fam++(be 4 1++(be (w6 a.nx) 4++(be 0 1++nbs r)))).drop 9)}:Ds)=_
   rw[hd,e2,t4]
theorem L4(hp:a.tk≠0)(d:Ds):okC 22 (bn 9 a R U)=true/\gD 22 (bn 9 a R U) d=dT d a.tk a.tl a.tr a.tg:=by
 obtain⟨k0,k1⟩:=h.ok.tk
 obtain⟨l0,l1⟩:=h.ok.tl
 obtain⟨r0,r1⟩:=h.ok.tr
 obtain⟨g0,g1⟩:=h.ok.tg
 have htB:gR a=be 0 1++(be a.tk 1++(be a.tl 3++be a.tr 4)):=by
  unfold gR;rw[cf k0 (by omega),cf l0 (by omega),cf r0 (by omega)];simp[aA]
 have key:∀ post:List SV,dg (gR a++post) 0=0/\dg (gR a++post) 1=a.tk/\tkN (gR a++post) 2 3=a.tl/\tkN (gR a++post) 5 4=a.tr:=by
  intro post
  rw[htB]
  exact⟨lG (pre:=[]) (post:=be a.tk 1++(be a.tl 3++be a.tr 4)++post) (by simp[aA]) rfl (by omega) (by omega),
   lG (pre:=be 0 1) (post:=be a.tl 3++be a.tr 4++post) (by simp[aA]) (by simp[ah]) k0 k1,
   aW (pre:=be 0 1++be a.tk 1) (post:=be a.tr 4++post) (by simp[aA]) (by simp[ah]) l0 (by rw[p3];exact l1),
   aW (pre:=be 0 1++be a.tk 1++be a.tl 3) (post:=post) (by simp[aA]) (by simp[ah]) r0 (by rw[p4n];exact r1)⟩
 have hlB:(gR a).length=9:=by rw[htB];simp[ah]
 show kx (mP a)=true/\tnG (mP a) d=_
 rcases h.tk with hk | hk | hk
 . exact absurd hk hp
 . have hA:mP a=gR a++be a.tg 4:=by unfold mP GY;rw[hk,cf g0 (by omega)];rfl
   obtain⟨c0,c1,c2,c3⟩:=key (be a.tg 4)
   have c4:tkN (gR a++be a.tg 4) 9 4=a.tg:=aW (pre:=gR a) (post:=[]) (by simp) hlB.symm g0 (by rw[p4n];exact g1)
   rw[hA]
   unfold kx tnG
   rw[c0,c1,c2,c3,c4,hk,dT0 (show(gR a++be a.tg 4).length=13 by rw[lA0,hlB,ah])]
   exact⟨rfl,rfl⟩
 . have hA:mP a=gR a++[]:=by unfold mP;rw[hk,List.append_nil];rfl
   obtain⟨c0,c1,c2,c3⟩:=key []
   rw[hA]
   unfold kx tnG
   have h9:(gR a++[]).length=9:=by rw[List.append_nil,hlB]
   rw[c0,c1,c2,c3,hk,h.t6 hk,h9]
   exact⟨rfl,rfl⟩
end
end Go.Proofs.YtnlmhpancboddaaGreat
namespace Go.Proofs.YtnlmhpancboddaaGreat
open Go.Am
set_option maxRecDepth 100000
def pD(a:At)(R U:List SV):List Nat->List SV
 | []=>[]
 | k :: ks=>cX k a R U++pD a R U ks
noncomputable def sF(a:At)(R U:List SV):List Nat->List (Int × Bool)->List (Int × Bool)
 | [],s=>s
 | k :: ks,s=>sF a R U ks (bif wrB k a R U then stK s (aV k)else s)
noncomputable def zF(a:At)(R U:List SV):List Nat->Dz->Dz
 | [],z=>z
 | k :: ks,z=>zF a R U ks (bif wrB k a R U then gC (aV k) (bn k a R U) z else z)
noncomputable def dF(a:At)(R U:List SV):List Nat->Ds->Ds
 | [],d=>d
 | k :: ks,d=>dF a R U ks (bif wrB k a R U then gD (aV k) (bn k a R U) d else d)
theorem Mb(a:At)(R U:List SV):∀ (ks:List Nat) (z:Dz),(zF a R U ks z).d=dF a R U ks z.d
 | [],_=>rfl
 | k :: ks,z=>by
  rw[zF,dF,Mb a R U ks]
  cases wrB k a R U <;> rfl
theorem yy(s:List (Int × Bool))(w:Bool)(c' c:Int):bj (bif w then stK s c' else s) c=(bj s c||(w&&c==c')):=by
 cases w with
 | false=>simp
 | true=>
  show bj (stK s c') c=_
  rw[show bj (stK s c') c=bif c==c' then true else bj s c from m7 c' true s c]
  cases c==c' <;> simp
theorem yz(a:At)(R U:List SV)(c:Int):∀ (ks:List Nat) (s:List (Int × Bool)),bj (sF a R U ks s) c=(bj s c||ks.any (fun r=>wrB r a R U&&c==aV r))
 | [],s=>by simp[sF]
 | k :: ks,s=>by rw[sF,yz a R U c ks,yy,List.any_cons,Bool.or_assoc]
theorem rO{a:At}{R U es:List SV}(hv:∀ r,(bn r a R U).length<=65535)(hok:∀ r,r<=9->wrB r a R U=true->okC (aV r) (bn r a R U)=true):∀ (ks:List Nat) (pre:List SV) (x:Int) (s:List (Int × Bool)) (z:Dz),es=pre++pD a R U ks->
  (∀ r ∈ ks,r<=9)->(ks.map aV).Nodup->(∀ r ∈ ks,bj s (aV r)=false)->∃ y,gq es es.length pre.length x s z=(0,y,sF a R U ks s,zF a R U ks z)
 | [],pre,x,s,z,hes,_,_,_=>by
  have hl:es.length=pre.length:=by rw[hes,pD,List.append_nil]
  exact⟨x,by unfold gq;rw[ur (by omega)];rfl⟩
 | k :: ks,pre,x,s,z,hes,h9,hnd,hs=>by
  rw[List.map_cons,List.nodup_cons]at hnd
  obtain⟨y,hy⟩:=GW (lk:=bj) (st:=stK) (es:=es) (pre:=pre) (post:=pD a R U ks) (r:=k) (a:=a) (R:=R) (U:=U) (h9 k (by simp)) hes (hv k) (x:=x) (s:=s) (z:=z) (hs k (by simp)) (hok k (h9 k (by simp)))
  unfold gq at *
  rw[hy,sF,zF]
  refine rO hv hok ks (pre++cX k a R U) y _ _ (by rw[hes,pD,aA]) (fun r hr=>h9 r (by simp[hr])) hnd.2 (fun r hr=> ?_)
  rw[yy,hs r (by simp[hr])]
  have hne:aV r≠aV k:=fun e=>hnd.1 (by rw[<- e];exact List.mem_map_of_mem hr)
  rw[show(aV r==aV k)=false by simpa using hne]
  simp
def oq:List Nat:=[0,1,2,3,4,5,6,7,8,9]
theorem Ak(a:At)(R U:List SV):pD a R U oq=fT a R U:=by
 unfold fT oq;simp only[pD,List.append_nil,nA,aA]
def uU(a:At)(r u:List SV):Ds:=⟨a.ori,a.nx,a.med,a.prf,a.orr,a.tk,a.tl,a.tr,a.tg,a.hm,a.hp,a.ho,a.path,a.cl,a.cm,r,u⟩
theorem nbs_pos{l:List SV}:0 < (nbs l).length↔0 < l.length:=by have:=kb l;omega
theorem wr_at{a:At}{R U:List SV}:wrB 0 a R U=decide ((R.length:Int) > 0)/\wrB 1 a R U=decide ((R.length:Int) > 0)/\wrB 6 a R U=decide ((R.length:Int) > 0):=⟨rfl,rfl,rfl⟩
def u0(a:At)(d:Ds):Ds:={d with ori:=a.ori}
def u1(a:At)(d:Ds):Ds:={d with path:=a.path}
def u2(a:At)(d:Ds):Ds:={d with hm:=a.hm,med:=a.med}
def u3(a:At)(d:Ds):Ds:={d with hp:=a.hp,prf:=a.prf}
def u4(a:At)(d:Ds):Ds:={d with ho:=a.ho,orr:=a.orr}
def u5(a:At)(d:Ds):Ds:={d with cl:=a.cl}
def u6(a:At)(r:List SV)(d:Ds):Ds:={d with nx:=a.nx,rch:=r}
def u7(u:List SV)(d:Ds):Ds:={d with unr:=u}
def u9(a:At)(d:Ds):Ds:={d with cm:=if 0 < a.cm.length then a.cm else d.cm,tk:=if a.tk=0 then d.tk else a.tk,tl:=if a.tk=0 then d.tl else a.tl,tr:=if a.tk=0 then d.tr else a.tr,tg:=if a.tk=0 then d.tg else a.tg}
section
variable {a:At} (h:Valid a) {r u:List SV} (hr:gG r) (hu:gG u) (or:okR r=true) (ou:okR u=true)
include h hr hu or ou
theorem Ji:∀ k,k<=9->wrB k a (nbs r) (nbs u)=true->okC (aV k) (bn k a (nbs r) (nbs u))=true
 | 0,_,_=>(LV h _ _ dI0).1
 | 1,_,_=>(LZ h _ _ dI0).1
 | 2,_,_=>(LW h _ _ dI0).1
 | 3,_,_=>(LX h _ _ dI0).1
 | 4,_,_=>(LY h _ _ dI0).1
 | 5,_,hw=>(L0 h _ _ (by have:(a.cl.length:Int) > 0:=of_decide_eq_true hw;omega) dI0).1
 | 6,_,hw=>(L3 h _ _ rfl hr or (nbs_pos.1 (by have:((nbs r).length:Int) > 0:=of_decide_eq_true hw;omega)) dI0).1
 | 7,_,_=>(L2 (a:=a) (nbs r) _ rfl hu ou dI0).1
 | 8,_,hw=>(L1 h _ _ (by have:(a.cm.length:Int) > 0:=of_decide_eq_true hw;omega) dI0).1
 | 9,_,hw=>(L4 h _ _ (by have:(a.tk !=0)=true:=hw;simpa using this) dI0).1
 | k+10,hk,_=>by omega
omit hr hu or ou in
theorem Cl(d:Ds):dF a (nbs r) (nbs u) [8,9] d=u9 a d:=by
 have er8:∀ d:Ds,(bif wrB 8 a (nbs r) (nbs u)then gD (aV 8) (bn 8 a (nbs r) (nbs u)) d else d)={d with cm:=if 0 < a.cm.length then a.cm else d.cm}:=by
  intro d
  by_cases hp:0 < a.cm.length
  . rw[show wrB 8 a (nbs r) (nbs u)=true from dT0 (by omega),cT,if_pos hp];exact(L1 h _ _ hp d).2
  . rw[show wrB 8 a (nbs r) (nbs u)=false from dF0 (by omega),cF,if_neg hp]
 have er9:∀ d:Ds,(bif wrB 9 a (nbs r) (nbs u)then gD (aV 9) (bn 9 a (nbs r) (nbs u)) d else d)={d with tk:=if a.tk=0 then d.tk else a.tk,tl:=if a.tk=0 then d.tl else a.tl,tr:=if a.tk=0 then d.tr else a.tr,tg:=if a.tk=0 then d.tg else a.tg}:=by
  intro d
  by_cases hp:a.tk=0
  . rw[show wrB 9 a (nbs r) (nbs u)=false by show(a.tk !=0)=false;simpa using hp,cF,if_pos hp,if_pos hp,if_pos hp,if_pos hp]
  . rw[show wrB 9 a (nbs r) (nbs u)=true by show(a.tk !=0)=true;simpa using hp,cT,if_neg hp,if_neg hp,if_neg hp,if_neg hp]
    exact(L4 h _ _ hp d).2
 rw[dF,dF,dF,er8,er9];rfl
omit h hr or in
theorem er7(d:Ds)(hd:d.unr=[]):(bif wrB 7 a (nbs r) (nbs u)then gD (aV 7) (bn 7 a (nbs r) (nbs u)) d else d)=u7 u d:=by
 cases hw:wrB 7 a (nbs r) (nbs u)with
 | true=>rw[cT];exact(L2 (a:=a) (nbs r) _ rfl hu ou d).2
 | false=>
  have hz:¬ 0 < u.length:=by
   intro hp
   have h2:=nbs_pos.2 hp
   have:wrB 7 a (nbs r) (nbs u)=true:=by
    show(bif decide (((nbs u).length:Int) > 0)then true else((nbs r).length:Int)==0)=true
    rw[dT0 (by omega)];rfl
   rw[hw]at this;cases this
  rw[cF]
  unfold u7
  rw[List.length_eq_zero_iff.1 (show u.length=0 by omega),<- hd]
omit hr hu or ou in
theorem er5(d:Ds)(hd:d.cl=[]):(bif wrB 5 a (nbs r) (nbs u)then gD (aV 5) (bn 5 a (nbs r) (nbs u)) d else d)=u5 a d:=by
 by_cases hp:0 < a.cl.length
 . rw[show wrB 5 a (nbs r) (nbs u)=true from dT0 (by omega),cT];exact(L0 h _ _ hp d).2
 . rw[show wrB 5 a (nbs r) (nbs u)=false from dF0 (by omega),cF]
   unfold u5
   rw[List.length_eq_zero_iff.1 (show a.cl.length=0 by omega),<- hd]
omit hr hu or ou in
theorem er2(d:Ds)(h1:d.hm=false)(h2:d.med=0):(bif wrB 2 a (nbs r) (nbs u)then gD (aV 2) (bn 2 a (nbs r) (nbs u)) d else d)=u2 a d:=by
 show(bif a.hm then gD (aV 2) (bn 2 a (nbs r) (nbs u)) d else d)=_
 unfold u2
 cases hm:a.hm with
 | true=>exact(LW h _ _ d).2
 | false=>
  rw[h.med hm]
  show d={d with hm:=false,med:=0}
  rw[<- h1,<- h2]
omit hr hu or ou in
theorem er3(d:Ds)(h1:d.hp=false)(h2:d.prf=0):(bif wrB 3 a (nbs r) (nbs u)then gD (aV 3) (bn 3 a (nbs r) (nbs u)) d else d)=u3 a d:=by
 show(bif a.hp then gD (aV 3) (bn 3 a (nbs r) (nbs u)) d else d)=_
 unfold u3
 cases hm:a.hp with
 | true=>exact(LX h _ _ d).2
 | false=>
  rw[h.prf hm]
  show d={d with hp:=false,prf:=0}
  rw[<- h1,<- h2]
omit hr hu or ou in
theorem er4(d:Ds)(h1:d.ho=false)(h2:d.orr=0):(bif wrB 4 a (nbs r) (nbs u)then gD (aV 4) (bn 4 a (nbs r) (nbs u)) d else d)=u4 a d:=by
 show(bif a.ho then gD (aV 4) (bn 4 a (nbs r) (nbs u)) d else d)=_
 unfold u4
 cases hm:a.ho with
 | true=>exact(LY h _ _ d).2
 | false=>
  rw[h.orr hm]
  show d={d with ho:=false,orr:=0}
  rw[<- h1,<- h2]
omit hr hu or ou in
theorem Mc:u9 a (u7 u (u6 a r (u5 a (u4 a (u3 a (u2 a (u1 a (u0 a dI0))))))))=uU a r u:=by
 have hc:(if 0 < a.cm.length then a.cm else([]:List SV))=a.cm:=by
  by_cases hp:0 < a.cm.length
  . rw[if_pos hp]
  . rw[if_neg hp,List.length_eq_zero_iff.1 (show a.cm.length=0 by omega)]
 show(⟨a.ori,a.nx,a.med,a.prf,a.orr,if a.tk=0 then 0 else a.tk,if a.tk=0 then 0 else a.tl,if a.tk=0 then 0 else a.tr,if a.tk=0 then 0 else a.tg,a.hm,a.hp,a.ho,a.path,a.cl,if 0 < a.cm.length then a.cm else [],r,u⟩:Ds)=⟨a.ori,a.nx,a.med,a.prf,a.orr,a.tk,a.tl,a.tr,a.tg,a.hm,a.hp,a.ho,a.path,a.cl,a.cm,r,u⟩
 rw[hc]
 by_cases hk:a.tk=0
 . obtain⟨t1,t2,t3⟩:=h.t0 hk
   rw[if_pos hk,if_pos hk,if_pos hk,if_pos hk,t1,t2,t3,hk]
 . rw[if_neg hk,if_neg hk,if_neg hk,if_neg hk]
theorem Fz(hn:0 < r.length):dF a (nbs r) (nbs u) oq dI0=uU a r u:=by
 have hR:=nbs_pos.2 hn
 have w0:wrB 0 a (nbs r) (nbs u)=true:=dT0 (by omega)
 have w1:wrB 1 a (nbs r) (nbs u)=true:=dT0 (by omega)
 have w6:wrB 6 a (nbs r) (nbs u)=true:=dT0 (by omega)
 have q0:gD (aV 0) (bn 0 a (nbs r) (nbs u)) dI0=u0 a dI0:=(LV h _ _ dI0).2
 have q1:∀ d,gD (aV 1) (bn 1 a (nbs r) (nbs u)) d=u1 a d:=fun d=>(LZ h _ _ d).2
 have q6:∀ d,gD (aV 6) (bn 6 a (nbs r) (nbs u)) d=u6 a r d:=fun d=>(L3 h _ _ rfl hr or hn d).2
 have q7:=fun d hd=>er7 (a:=a) (r:=r) hu ou d hd
 rw[<- Mc h]
 show dF a (nbs r) (nbs u) [0,1,2,3,4,5,6,7,8,9] dI0=_
 rw[dF,w0,cT,q0,dF,w1,cT,q1,dF,er2 h _ rfl rfl,dF,er3 h _ rfl rfl,dF,er4 h _ rfl rfl,dF,er5 h _ rfl,dF,w6,cT,q6,dF,er7 hu ou _ rfl,Cl h]
omit hr or in
theorem FA(hn:r.length=0)(hz:a.hm=false/\a.hp=false/\a.ho=false/\a.cl.length=0):(dF a (nbs r) (nbs u) oq dI0).unr=u:=by
 obtain⟨z1,z2,z3,z4⟩:=hz
 have hR:(nbs r).length=0:=by have:=kb r;omega
 have w0:wrB 0 a (nbs r) (nbs u)=false:=dF0 (by omega)
 have w1:wrB 1 a (nbs r) (nbs u)=false:=dF0 (by omega)
 have w6:wrB 6 a (nbs r) (nbs u)=false:=dF0 (by omega)
 have w5:wrB 5 a (nbs r) (nbs u)=false:=dF0 (by omega)
 have w2:wrB 2 a (nbs r) (nbs u)=false:=z1
 have w3':wrB 3 a (nbs r) (nbs u)=false:=z2
 have w4:wrB 4 a (nbs r) (nbs u)=false:=z3
 unfold oq
 rw[dF,w0,cF,dF,w1,cF,dF,w2,cF,dF,w3',cF,dF,w4,cF,dF,w5,cF,dF,w6,cF,dF,er7 hu ou _ rfl,Cl h];rfl
theorem Jj(lr:r.length<=40)(lu:u.length<=40)(hz:r.length=0->a.hm=false/\a.hp=false/\a.ho=false/\a.cl.length=0):
  rdQ (fT a (nbs r) (nbs u)) (fT a (nbs r) (nbs u)).length=(0,0,if 0 < r.length then uU a r u else {dI0 with unr:=u}):=by
 have l1:=kb r
 have l2:=kb u
 obtain⟨y,hy⟩:=rO (es:=fT a (nbs r) (nbs u)) (a:=a) (R:=nbs r) (U:=nbs u) (fun k=>by have:=vT h.ok (nbs r) (nbs u) k;omega) (Ji h hr hu or ou) oq [] 0 [] zI (by rw[Ak];rfl) (by decide) (by decide) (fun _ _=>rfl)
 unfold rdQ rdO
 rw[show([]:List SV).length=0 from rfl]at hy
 rw[hy]
 simp only[Mb]
 have k14:bj (sF a (nbs r) (nbs u) oq []) 14=wrB 6 a (nbs r) (nbs u):=by rw[yz];simp[oq,aV,bj]
 have k1:bj (sF a (nbs r) (nbs u) oq []) 1=wrB 0 a (nbs r) (nbs u):=by rw[yz];simp[oq,aV,bj]
 have k2:bj (sF a (nbs r) (nbs u) oq []) 2=wrB 1 a (nbs r) (nbs u):=by rw[yz];simp[oq,aV,bj]
 rw[k14,k1,k2,wr_at.1,wr_at.2.1,wr_at.2.2]
 by_cases hn:0 < r.length
 . have hR:=nbs_pos.2 hn
   rw[dT0 (show((nbs r).length:Int) > 0 by omega),if_pos hn,show zI.d=dI0 from rfl,Fz h hr hu or ou hn];rfl
 . rw[dF0 (show ¬ ((nbs r).length:Int) > 0 by omega),if_neg hn,show zI.d=dI0 from rfl,FA h hu ou (by omega) (hz (by omega))];rfl
end
end Go.Proofs.YtnlmhpancboddaaGreat
