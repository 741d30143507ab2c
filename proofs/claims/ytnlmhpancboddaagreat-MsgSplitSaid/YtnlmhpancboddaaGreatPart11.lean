/- The reference's bytes of a route, valid or not. -/
import Derived.Test.YtnlmhpancboddaaGreatPart10
set_option linter.unusedVariables false
set_option linter.unusedSimpArgs false
namespace Go.Proofs.YtnlmhpancboddaaGreat
open Go.Am
set_option maxRecDepth 100000
noncomputable def rb_s:CSumm:=fun args H=>match args,H with
 | [x],[]=>match nlOf x with
  | some n=>.ite(dec(RgN n/\(n.kind=1\/n.kind=2\/n.kind=3\/n.kind=4\/n.kind=5)))(.ite(chk n!=0)(.ret(.tup [.nils,.int .i64(chk n)]) [])(.ret(.tup [.qs 0 1 0(nb n).length,.int .i64 0]) [(0,some(.seq 5(nb n)))])) .fail
  | none=>.fail
 | _,_=>.fail
theorem rb_bad{n:Nl}(hk:n.kind=1\/n.kind=2\/n.kind=3\/n.kind=4\/n.kind=5)(hc:(chk n!=0)=true):opn κe Tryz.f138 [n.v] []= .ret(.tup [.nils,.int .i64(chk n)]) []:=by
 obtain⟨kind,rd,e0,e1,e2,e3,e4,e5,e6,e7,e8,e9,tag,mac,ip,hip,pip,plen,gw,lab,lab2⟩:=n
 simp only[]at hk
 obtain rfl | rfl | rfl | rfl | rfl:=hk
 . rw[rby_t1,hc];rfl
 . cases hip with
   | true=>rw[rby_t2true,hc];rfl
   | false=>rw[rby_t2false,hc];rfl
 . rw[rby_t3,hc];rfl
 . rw[rby_t4,hc];rfl
 . rw[rby_t5,hc];rfl
theorem rb_k:Known Tryz.prog 138 rb_s:=by
 refine⟨rbytes_k.fn,fun args H v ups h=> ?_⟩
 unfold rb_s at h
 split at h
 . rename_i x
   split at h
   . rename_i n hn
     have hx:=nlOf_v hn
     subst hx
     rw[crun_ite]at h
     cases hd:dec(RgN n/\(n.kind=1\/n.kind=2\/n.kind=3\/n.kind=4\/n.kind=5))with
     | false=>rw[hd]at h;cases h
     | true=>
      rw[hd,cT,crun_ite]at h
      obtain⟨h1,h2⟩:=dec_iff.1 hd
      cases hc:chk n!=0 with
      | true=>
       rw[hc]at h
       exact(openKnown eOk Tryz.func138 rfl).ok _ _ v ups((congrArg crun(rb_bad h2 hc)).trans h)
      | false=>
       rw[hc,cF]at h
       have hc0:chk n=0:=by simpa using hc
       refine rbytes_k.ok _ _ v ups ?_
       unfold nbytes_s
       simp only[hn]
       rw[crun_ite,dT0(show chk n=0/\OkP n from⟨hc0,okP_of h1 hc0⟩),cT]
       exact h
   . cases h
 . cases h
/- The reference's loop over routes. -/
noncomputable def body111:Code:=Tryz.f132.body.getD .skip
noncomputable def c111:Code:=(loopAt 3 body111).getD .skip
noncomputable def rl_s:CSumm:=fun args H=>match args,H with
 | [.psl 5 p,.ptr 0 0,.qs 1 21 0 m,.int .i64 a],[(0,.cells 28 [.int .i64 0,.int .i64 0]),(1,.seq 88 rs)]=>.ite(dec(byl p/\p.length<=1000000/\m=rs.length/\rs.length<=4096/\0<=a/\a<=p.length))
   (.ite((pcsL(p.drop a.toNat)a rs).1==0)
    (.ret(.tup [.int .i64 2,.junk,.ptr 0 0,.qs 2 21 0(pcsL(p.drop a.toNat)a rs).2.2.length]) [(1,none),(2,some(.seq 88(pcsL(p.drop a.toNat)a rs).2.2))])
    (.ret(.tup [.int .i64 1,.nils,.ptr 0 0,.qs 2 21 0(pcsL(p.drop a.toNat)a rs).2.2.length]) [(0,some(.cells 28 [.int .i64(pcsL(p.drop a.toNat)a rs).1,.int .i64(pcsL(p.drop a.toNat)a rs).2.1])),(1,none),(2,some(.seq 88(pcsL(p.drop a.toNat)a rs).2.2))])) .fail
 | _,_=>.fail
def rlM:List SV->HpL->Nat
 | [.psl _ p,_,_,.int _ a],_=>p.length - a.toNat
 | _,_=>0
noncomputable def e111:LEnt:={ins:=[0,3,4,5],outs:=[2,3,4],keep:=[],size:=96,code:=c111,s:=rl_s}
noncomputable abbrev κv:=tbl [(137,value_s),(138,rb_s)]
theorem vOk:KOk Tryz.prog κv:=tbl_cons value_k(tbl_cons rb_k ok0)
noncomputable abbrev κw:=openT Tryz.prog κv 300 5
noncomputable abbrev ιw:Nat->Bool:=fun g=>inl κv g&&hasBody Tryz.prog g
abbrev w64(n:Int):Int:=IntKind.i64.wrap n
def rEnd(p:List SV)(a:Int):Int:=w64(w64(a+2)+w64(dg p(w64(a+1)).toNat))
def rKd(p:List SV)(a:Int):Int:=w64(dg p a.toNat)
def rVal(p:List SV)(a:Int):List SV:=(p.drop(w64(a+2)).toNat).take((rEnd p a).toNat - (w64(a+2)).toNat)
def rPce(p:List SV)(a:Int):List SV:=(p.drop a.toNat).take((rEnd p a).toNat - a.toNat)
def rFlt(m:Nat)(c a:Int):CTree:=.ret(.tup [.int .i64 1,.nils,.ptr 0 0,.qs 1 21 0 m]) [(0,some(.cells 28 [.int .i64 c,.int .i64 a]))]
noncomputable def rNext(N:Nat)(p:List SV)(m:Nat)(rs:List SV)(a:Int):CTree:=
 bif Nat.blt(p.length - a.toNat)N then bif dec(byl p/\p.length<=1000000/\m=rs.length/\rs.length<=4096/\0<=a/\a<=p.length)then
  bif(pcsL(p.drop a.toNat)a rs).1==0 then .ret(.tup [.int .i64 2,.junk,.ptr 0 0,.qs 2 21 0(pcsL(p.drop a.toNat)a rs).2.2.length]) [(1,none),(2,some(.seq 88(pcsL(p.drop a.toNat)a rs).2.2))]
  else .ret(.tup [.int .i64 1,.nils,.ptr 0 0,.qs 2 21 0(pcsL(p.drop a.toNat)a rs).2.2.length]) [(0,some(.cells 28 [.int .i64(pcsL(p.drop a.toNat)a rs).1,.int .i64(pcsL(p.drop a.toNat)a rs).2.1])),(1,none),(2,some(.seq 88(pcsL(p.drop a.toNat)a rs).2.2))]
 else .fail else .fail
noncomputable def rTail(N:Nat)(p:List SV)(m:Nat)(rs:List SV)(a:Int)(x:Nl)(bs:List UInt8):CTree:=
 bif decide(0<=a)&&decide(a<=rEnd p a)&&decide(rEnd p a<=p.length)then bif !(bs==(rPce p a).map Am.byteOf)then rFlt m 3 a
  else bif decide(m=rs.length)then bif grB rs.length then rNext N p(rs.length+1)(rs++[x.v])(rEnd p a)else .fail else .fail else .fail
noncomputable def rVK(N:Nat)(p:List SV)(m:Nat)(rs:List SV)(a:Int)(x:Nl):CTree:=
 bif dec(RgN x/\(x.kind=1\/x.kind=2\/x.kind=3\/x.kind=4\/x.kind=5))then
  bif chk x!=0 then(bif chk x!=0 then rFlt m 3 a else rTail N p m rs a x(([]:List SV).map Am.byteOf))else strG(nb x)(rTail N p m rs a x)
 else .fail
theorem round111(N m:Nat)(p rs:List SV)(a:Int):loopOnce Tryz.prog κw ιw(ltab [])true 300 e111{e111 with s:=boundT rlM rl_s N}c111 [.psl 5 p,.ptr 0 0,.qs 1 21 0 m,.int .i64 a] [(0,.cells 28 [.int .i64 0,.int .i64 0]),(1,.seq 88 rs)]=
 bif decide(a < p.length)then bif(m:Int)==4096 then rFlt m 7 a else bif decide(w64(a+2) > p.length)then rFlt m 4 a else bif inB(w64(a+1))p.length then bif decide(rEnd p a > p.length)then rFlt m 4 a else
  bif inB a p.length then bif inB(w64(a+1))p.length then bif(bif decide(rKd p a < 1)then true else decide(rKd p a > 5))then rFlt m 6 a else
   bif decide(0<=w64(a+2))&&decide(w64(a+2)<=rEnd p a)&&decide(rEnd p a<=p.length)then
    bif dec(byl(rVal p a)/\(rVal p a).length<=1000000/\(rKd p a=1\/rKd p a=2\/rKd p a=3\/rKd p a=4\/rKd p a=5))then rVK N p m rs a(valN(rKd p a)(rVal p a))else .fail
   else .fail else .fail else .fail else .fail
 else .ret(.tup [.int .i64 2,.junk,.ptr 0 0,.qs 1 21 0 m]) []:=by kernel_rfl
end Go.Proofs.YtnlmhpancboddaaGreat
namespace Go.Proofs.YtnlmhpancboddaaGreat
open Go.Am
set_option maxRecDepth 100000
def rlH(rs:List SV):HpL:=[(0,.cells 28 [.int .i64 0,.int .i64 0]),(1,.seq 88 rs)]
theorem rlH_ren{L:Nat}{rs rs':List SV}{c0:Chunk}(h0:renC(sw 1 2)c0=c0):∀ x,updF [(0,some c0),(1,none),(2,some(.seq 88 rs))] (rlH rs).get x=
  if x=2 then(updF [(0,some c0)] (rlH rs).get 1).map(renC(sw 1 2))else if x=1 then none else(updF [(0,some c0)] (rlH rs).get x).map(renC(sw 1 2))
 | 0=>by show some c0=some(renC(sw 1 2)c0);rw[h0]
 | 1=>rfl | 2=>rfl
 | x+3=>by
  have h1:∀ k,k < 3->¬ (x+3=k):=fun k hk=>by omega
  have h2:∀ k,k < 3->Nat.beq k(x+3)=false:=fun k hk=>nb_f(by omega)
  simp only[updF,rlH,HpL.get,h1 2(by omega),h1 1(by omega),h1 0(by omega),if_false,h2 0(by omega),h2 1(by omega),cF,Option.map_none]
theorem rlH_no{rs:List SV}:∀ x c,(rlH rs).get x=some c->2 ∉ namesC c:=by
 intro x c hx
 have:=HpL_get_some _ _ _ hx
 simp only[rlH,List.mem_cons,pJ,List.not_mem_nil,or_false]at this
 rcases this with⟨_,rfl⟩ | ⟨_,rfl⟩ <;> simp[namesC,namesL,namesS]
theorem flt_ren{rs:List SV}{c a:Int}:Renamed(rlH rs)(.tup [.int .i64 1,.nils,.ptr 0 0,.qs 1 21 0 rs.length]) [(0,some(.cells 28 [.int .i64 c,.int .i64 a]))]
  (.tup [.int .i64 1,.nils,.ptr 0 0,.qs 2 21 0 rs.length]) [(0,some(.cells 28 [.int .i64 c,.int .i64 a])),(1,none),(2,some(.seq 88 rs))]:=by
 refine⟨1,2,by simp[rlH],by simp[namesS,namesL],?_,rfl,rlH_ren(L:=0)(rs':=[])rfl⟩
 intro x c' hx
 simp only[updF]at hx
 by_cases h0:x=0
 . rw[if_pos h0]at hx;cases hx;simp[namesC,namesL,namesS]
 . rw[if_neg h0]at hx;exact rlH_no x c' hx
theorem end_ren{rs:List SV}:Renamed(rlH rs)(.tup [.int .i64 2,.junk,.ptr 0 0,.qs 1 21 0 rs.length]) [] (.tup [.int .i64 2,.junk,.ptr 0 0,.qs 2 21 0 rs.length]) [(1,none),(2,some(.seq 88 rs))]:=by
 refine⟨1,2,by simp[rlH],by simp[namesS,namesL],fun x c hx=>rlH_no x c hx,rfl,fun x=> ?_⟩
 have:=rlH_ren(L:=0)(rs:=rs)(rs':=[])(c0:=.cells 28 [.int .i64 0,.int .i64 0])rfl x
 have e:∀ l x,updF((0,some(.cells 28 [.int .i64 0,.int .i64 0])) :: l)(rlH rs).get x=updF l(rlH rs).get x:=by
  intro l x
  show updF l _ x=updF l _ x
  congr 1
  funext y
  by_cases h0:y=0
  . subst h0;rfl
  . rw[if_neg h0]
 rw[e,e,e]at this
 exact this
section
variable{p:List SV}{a:Int}(hb:byl p)(hl:p.length<=1000000)(h0:0<=a)(h1:a < p.length)
include hb hl h0 h1
theorem q_len:(p.drop a.toNat).length=p.length - a.toNat/\byl(p.drop a.toNat)/\(p.drop a.toNat).length≠0:=by
 have h:=List.length_drop(l:=p)(i:=a.toNat)
 exact⟨h,hb.dropb _,by omega⟩
omit hl h1 hb in
theorem q_dg(j:Nat):dg(p.drop a.toNat)j=dg p(a+j).toNat:=by
 unfold dg
 rw[gD0,List.getElem?_drop,gD0,show a.toNat+j=(a+j).toNat by omega]
theorem rEnd_eq:rEnd p a=a+2+dg(p.drop a.toNat)1:=by
 obtain⟨r1,r2⟩:=(hb.dropb a.toNat).ok 1
 have hd:dg p(w64(a+1)).toNat=dg(p.drop a.toNat)1:=by
  rw[q_dg h0 1,show w64(a+1)=a+1 from w64_id(by omega)(by omega)];rfl
 unfold rEnd
 rw[hd]
 show IntKind.i64.wrap(IntKind.i64.wrap(a+2)+IntKind.i64.wrap _)=_
 rw[w64_id(n:=a+2)(by omega)(by omega),w64_id(n:=dg(p.drop a.toNat)1)(by omega)(by omega),w64_id(by omega)(by omega)]
omit hl h1 in
theorem rKd_eq:rKd p a=dg(p.drop a.toNat)0:=by
 obtain⟨r1,r2⟩:=(hb.dropb a.toNat).ok 0
 have hd:dg p a.toNat=dg(p.drop a.toNat)0:=by rw[q_dg h0 0];simp
 unfold rKd
 rw[hd]
 exact w64_id(by omega)(by omega)
omit hl h0 h1 in
theorem pce_cut(hc:((p.drop a.toNat).length:Int) < 2+dg(p.drop a.toNat)1\/(p.drop a.toNat).length < 2):decE((p.drop a.toNat).take(szP(p.drop a.toNat)))=4:=by
 obtain⟨r1,r2⟩:=(hb.dropb a.toNat).ok 1
 have hs:szP(p.drop a.toNat)=(p.drop a.toNat).length:=by unfold szP;split <;> omega
 rw[hs,List.take_length]
 unfold decE
 by_cases h2:(p.drop a.toNat).length < 2
 . rw[if_pos h2]
 . rw[if_neg h2,if_pos(by omega)]
end
theorem pce_ok{q:List SV}(hb:byl q)(hc:¬ (q.length:Int) < 2+dg q 1):(szP q:Int)=2+dg q 1/\(q.take(szP q)).length=szP q/\dg(q.take(szP q))0=dg q 0/\dg(q.take(szP q))1=dg q 1/\2<=szP q/\szP q<=q.length/\byl(q.take(szP q)):=by
 obtain⟨r1,r2⟩:=hb.ok 1
 have hs:szP q=(2+dg q 1).toNat:=by unfold szP;split <;> omega
 have hle:=szP_le(p:=q)
 have h2:2<=szP q:=by omega
 have hd:∀ j,j < 2->dg(q.take(szP q))j=dg q j:=by
  intro j hj
  unfold dg
  rw[gD0,List.getElem?_take,if_pos(by omega),gD0]
 exact⟨by omega,by rw[List.length_take];omega,hd 0(by omega),hd 1(by omega),h2,hle,fun v hv=>hb v(List.mem_of_mem_take hv)⟩
theorem rl_valid:ValidL Tryz.prog e111:=loop_valid2(κ:=κw)(ι:=ιw)(T:=ltab [])(sp:=true)(fuel:=300)(c:=c111)(μ:=rlM)(openT_ok noNumTry mixTry vOk 300 5)mixTry ltab_nil(show fillC(ltab [])c111=c111 by kernel_rfl)(by
 intro N args H v' ups' hbt h
 unfold e111 rl_s at h
 simp only[]at h
 split at h
 . rename_i p m a rs
   rw[crun_ite]at h
   cases hc:dec(byl p/\p.length<=1000000/\m=rs.length/\rs.length<=4096/\0<=a/\a<=p.length)with
   | false=>rw[hc]at h;cases h
   | true=>
    rw[hc,cT]at h
    obtain⟨hb,hl,rfl,h4,h0,h1⟩:=dec_iff.1 hc
    have hrd:=round111 N rs.length p rs a
    have hN:Nat.blt(p.length - a.toNat)(N+1)=true:=hbt
    by_cases hlt:a < p.length
    . obtain⟨hq,hbq,hq0⟩:=q_len hb hl h0 hlt
      have hE:=rEnd_eq hb hl h0 hlt
      have hK:=rKd_eq(a:=a)hb h0
      have hcut:=pce_cut(a:=a)hb
      obtain⟨d1,d2⟩:=hbq.ok 1
      have w2:w64(a+2)=a+2:=w64_id(by omega)(by omega)
      have w1:w64(a+1)=a+1:=w64_id(by omega)(by omega)
      rw[dT0 hlt,cT]at hrd
      rw[pcsL_step hbq hq0]at h
      by_cases h46:rs.length=4096
      . rw[if_pos h46]at h
        rw[show((rs.length:Int)==4096)=true by simp;omega]at hrd
        cases h
        exact .inr⟨_,_,congrArg crun hrd,flt_ren⟩
      rw[if_neg h46]at h
      rw[show((rs.length:Int)==4096)=false by simp;omega,cF,w2]at hrd
      by_cases hcs:(p.drop a.toNat).length < 2
      . rw[hcut(.inr hcs),if_pos(by decide)]at h
        rw[dT0(show a+2 > (p.length:Int)by omega)]at hrd
        cases h
        exact .inr⟨_,_,congrArg crun hrd,flt_ren⟩
      rw[dF(show ¬ a+2 > (p.length:Int)by omega),cF,w1,show inB(a+1)p.length=true by unfold inB;simp;omega,cT]at hrd
      by_cases hcl:((p.drop a.toNat).length:Int) < 2+dg(p.drop a.toNat)1
      . rw[hcut(.inl hcl),if_pos(by decide)]at h
        rw[dT0(show rEnd p a > (p.length:Int)by omega)]at hrd
        cases h
        exact .inr⟨_,_,congrArg crun hrd,flt_ren⟩
      rw[dF(show ¬ rEnd p a > (p.length:Int)by omega),cF,show inB a p.length=true by unfold inB;simp;omega,cT,cT]at hrd
      obtain⟨s1,s2,s3,s4,s5,s6,s7⟩:=pce_ok hbq hcl
      have hEs:rEnd p a=a+(szP(p.drop a.toNat):Nat):=by omega
      have hV:rVal p a=((p.drop a.toNat).take(szP(p.drop a.toNat))).drop 2:=by
       unfold rVal
       rw[w2,hEs,List.drop_take,List.drop_drop,show(a+2).toNat=a.toNat+2 by omega,show(a+(szP(p.drop a.toNat):Nat)).toNat - (a.toNat+2)=szP(p.drop a.toNat) - 2 by omega]
      have hP:rPce p a=(p.drop a.toNat).take(szP(p.drop a.toNat)):=by
       unfold rPce
       rw[hEs,show(a+(szP(p.drop a.toNat):Nat)).toNat - a.toNat=szP(p.drop a.toNat)by omega]
      generalize hk:szP(p.drop a.toNat)=k at *
      generalize hpc:(p.drop a.toNat).take k=pc at *
      rw[hK]at hrd
      by_cases hk6:dg pc 0 < 1\/5 < dg pc 0
      . have he:decE pc=6:=by unfold decE;rw[if_neg(by omega),if_neg(by omega),if_pos hk6]
        rw[he,if_pos(by decide)]at h
        have:(bif decide(dg(p.drop a.toNat)0 < 1)then true else decide(dg(p.drop a.toNat)0 > 5))=true:=by
         by_cases hx:dg(p.drop a.toNat)0 < 1
         . rw[dT0 hx];rfl
         . rw[dF hx,cF];exact dT0(by omega)
        rw[this]at hrd
        cases h
        exact .inr⟨_,_,congrArg crun hrd,flt_ren⟩
      have hkk:dg pc 0=1\/dg pc 0=2\/dg pc 0=3\/dg pc 0=4\/dg pc 0=5:=by omega
      have hbv:byl(pc.drop 2):=s7.dropb 2
      obtain⟨q1,q2,q3⟩:=valN_rg hbv _ hkk
      rw[dF(show ¬ dg(p.drop a.toNat)0 < 1 by omega),dF(show ¬ dg(p.drop a.toNat)0 > 5 by omega),cF,cF,dT0(show 0<=a+2 by omega),dT0(show a+2<=rEnd p a by omega),dT0(show rEnd p a<=(p.length:Int)by omega),hV,<- s3,
       dec_iff.2⟨hbv,by rw[List.length_drop];omega,hkk⟩]at hrd
      simp only[Bool.and_self,cT]at hrd
      unfold rVK at hrd
      rw[dec_iff.2⟨q1,by rw[q3];exact hkk⟩,cT]at hrd
      by_cases hex:∃ n,DecOk pc n
      . obtain⟨n,hn⟩:=hex
        obtain⟨v1,v2,v3,v4,v5⟩:=dec_val hn
        have hx:valN(dg pc 0)(pc.drop 2)=n:=by rw[v3,v1];exact valN_of hn.1 hn.2.1
        rw[decE_ok hn,if_neg(by simp),decN_eq hn]at h
        rw[hx,hn.1,strG_ok,hn.2.2]at hrd
        unfold rTail at hrd
        have hblt:Nat.blt(p.length - (a+(k:Nat)).toNat)N=true:=by rw[bL]at hN ⊢;omega
        rw[hP,hEs,dT0 h0,dT0(show a<=a+(k:Nat)by omega),dT0(show a+(k:Nat)<=(p.length:Int)by omega),dT0 rfl,show grB rs.length=true by unfold grB;simp;omega]at hrd
        simp only[Bool.and_self,cT,beq_self_eq_true,Bool.not_true,cF,bne_self_eq_false]at hrd
        unfold rNext at hrd
        rw[hblt,dec_iff.2⟨hb,hl,by simp,by simp;omega,by omega,by omega⟩,cT,cT,show(a+(k:Nat)).toNat=a.toNat+k by omega,<- List.drop_drop]at hrd
        generalize pcsL((p.drop a.toNat).drop k)(a+k)(rs++[n.v])=r at *
        rw[crun_ite]at h
        cases he:r.1==0 with
        | true=>rw[he]at h hrd;cases h;exact .inl⟨_,congrArg crun hrd,fun x=>rfl⟩
        | false=>rw[he]at h hrd;cases h;exact .inl⟨_,congrArg crun hrd,fun x=>rfl⟩
      . have he:decE pc=3:=by unfold decE;rw[if_neg(by omega),if_neg(by omega),if_neg hk6,if_neg hex]
        rw[he,if_pos(by decide)]at h
        cases h
        refine .inr⟨_,_,(congrArg crun hrd).trans ?_,flt_ren⟩
        generalize valN(dg pc 0)(pc.drop 2)=x at *
        cases hcc:chk x!=0 with
        | true=>rfl
        | false=>
         have hc0:chk x=0:=by simpa using hcc
         rw[cF,strG_ok]
         unfold rTail
         rw[hP,hEs,dT0 h0,dT0(show a<=a+(k:Nat)by omega),dT0(show a+(k:Nat)<=(p.length:Int)by omega)]
         simp only[Bool.and_self,cT]
         cases hq2:((nb x).map Am.byteOf==pc.map Am.byteOf)with
         | false=>rfl
         | true=>exact absurd⟨x,hc0,okP_of q1 hc0,byte_inj(nb_byl q2)s7(eq_of_beq hq2)⟩hex
    . have hq0:(p.drop a.toNat).length=0:=by rw[List.length_drop];omega
      rw[dF hlt,cF]at hrd
      rw[pcsL_nil hq0]at h
      cases h
      exact .inr⟨_,_,congrArg crun hrd,end_ren⟩
 . cases h)
end Go.Proofs.YtnlmhpancboddaaGreat
namespace Go.Proofs.YtnlmhpancboddaaGreat
open Go.Am
set_option maxRecDepth 100000
def fs111:List(Option(Nat × Nat)):=[none,none,some(88,21),none]
noncomputable def e111i:LEnt:={e111 with s:=inS fs111 rl_s}
theorem rl_in:ValidL Tryz.prog e111i:=loop_in rl_valid(fs:=fs111)⟨fun h=>absurd h(by decide),trivial⟩
noncomputable abbrev T111:LTab:=ltab [("r",e111i)]
noncomputable abbrev m111:Code:=markC [(3, "r")]body111
noncomputable def rread_b:CSumm:=bodyCL Tryz.prog κw ιw T111 true 300 Tryz.f132 m111
theorem rread_k0:Known Tryz.prog 132 rread_b:=⟨⟨Tryz.f132,Tryz.func132,noNum_at noNumTry Tryz.func132,rfl⟩,bodyL_valid(openT_ok noNumTry mixTry vOk 300 5)mixTry(ltab_cons rl_in ltab_nil)Tryz.func132(show Tryz.f132.body=some(fillC T111 m111)by kernel_rfl)⟩
noncomputable def rreadK(r:Int × Int × List SV):CTree:=bif r.1==0 then .ret(.tup [.qs 0 21 0 r.2.2.length,.agg [.int .i64 0,.int .i64 0]]) [(0,some(.seq 88 r.2.2))]else .ret(.tup [.nils,.agg [.int .i64 r.1,.int .i64 r.2.1]]) []
theorem rread_t(p:List SV):rread_b [.psl 5 p] []=bif dec(byl p/\p.length<=1000000/\0=([]:List SV).length/\([]:List SV).length<=4096/\(0:Int)<=0/\(0:Int)<=p.length)then rreadK(pcsL(p.drop(0:Int).toNat)0 [])else .fail:=by kernel_rfl
noncomputable def rread_s:CSumm:=fun args H=>match args,H with
 | [.psl 5 p],[]=>.ite(dec(byl p/\p.length<=1000000))(.ret(.tup [.psl 88(rdL p),.agg [.int .i64(rdE p),.int .i64(rdA p)]]) []) .fail
 | _,_=>.fail
theorem rread_k:Known Tryz.prog 132 rread_s:=known_told rread_k0(by
 intro args H v' ups' h
 unfold rread_s at h
 split at h
 . rename_i p
   rw[crun_ite]at h
   cases hc:dec(byl p/\p.length<=1000000)with
   | false=>rw[hc]at h;cases h
   | true=>
    rw[hc]at h
    obtain⟨h1,h2⟩:=dec_iff.1 hc
    have ht:=rread_t p
    rw[dec_iff.2⟨h1,h2,rfl,by simp,by omega,by omega⟩,cT,show p.drop(0:Int).toNat=p from rfl]at ht
    unfold rdL rdE rdA at h
    cases h
    generalize pcsL p 0 []=r at ht ⊢
    unfold rreadK at ht
    have hg:∀ x c',HpL.get []x≠some c':=fun x c' hx=>by simp[HpL.get]at hx
    by_cases he:r.1=0
    . rw[show(r.1==0)=true by simpa using he]at ht
      rw[if_pos he,if_pos he,he]
      exact⟨_,_,congrArg crun ht,.inl⟨0,88,r.2.2,rfl,.tup(.cons(.qs rfl) .rfl'),fun x c' hx=>absurd hx(hg x c')⟩⟩
    . rw[show(r.1==0)=false by simpa using he]at ht
      rw[if_neg he,if_neg he]
      exact⟨_,_,congrArg crun ht,.inr⟨.tup(.cons .nils .rfl'),fun x c' hx=>⟨c',hx,.rfl'⟩⟩⟩
 . cases h)
noncomputable abbrev κn:=tbl [(69,num_s)]
theorem nOk:KOk Tryz.prog κn:=tbl_cons num_k ok0
def shC(a e f:Int):Chunk:=.cells 157 [.int .i64 a,.int .i64 a,.nils,.int .i64 e,.int .i64 f,.bool true]
def subK(r:Rd)(n:Nat)(k:Int)(K:Chunk->Rd->CTree):CTree:=
 bif r.err!=0 then K(shC r.at_ r.err r.fat)r else bif shortB r k then(bif r.err==0 then K(shC r.at_ 4 r.at_)⟨r.at_,r.end_,4,r.at_⟩else K(shC r.at_ r.err r.fat)r)else
 bif okSl r k n then K(rC⟨r.at_,wA r k,0,0⟩n)⟨wA r k,r.end_,r.err,r.fat⟩else .fail
def andI(k:IntKind)(a b:Int):Int:=k.wrap((BitVec.ofInt k.bits a&&& BitVec.ofInt k.bits b).toNat:Int)
abbrev w8(n:Int):Int:=IntKind.u8.wrap n
def nextL(r:Rd)(n:Nat)(es:List SV)(c:Chunk)(r':Rd):CTree:=
 .ret(.tup [.agg [.ptr 2 0,.int .i64 r.at_,.int .u8(w8(r.num es 1)),.int .u8(w8((r.adv 1).num es 1))],.bool(r'.err==0)]) [(0,some(rC r' n)),(2,some c)]
theorem next_t(r:Rd)(n:Nat)(es:List SV):opn κn Tryz.f98 [.ptr 0 0] (rH r n es)=
 rdC r n es 1(rdC(r.adv 1)n es 1(bif andI .u8(w8(r.num es 1))16!=0 then rdC((r.adv 1).adv 1)n es 2(subK(((r.adv 1).adv 1).adv 2)n(IntKind.i64.wrap(((r.adv 1).adv 1).num es 2))(nextL r n es))
  else rdC((r.adv 1).adv 1)n es 1(subK(((r.adv 1).adv 1).adv 1)n(IntKind.i64.wrap(((r.adv 1).adv 1).num es 1))(nextL r n es)))):=by kernel_rfl
end Go.Proofs.YtnlmhpancboddaaGreat
namespace Go.Proofs.YtnlmhpancboddaaGreat
open Go.Am
set_option maxRecDepth 100000
def hdN(es:List SV)(a:Nat):Nat:=if andI .u8(dg es a)16≠0 then 4 else 3
def lnN(es:List SV)(a:Nat):Nat:=(tkN es(a+2)(hdN es a - 2)).toNat
def okN(es:List SV)(a n:Nat):Prop:=a+hdN es a<=n/\a+hdN es a+lnN es a<=n
def cdN(es:List SV)(a n:Nat):Prop:=a < n/\n=es.length/\n<=1000000/\okBy es
theorem tk1(es:List SV)(s:Nat):tkN es s 1=dg es s:=by simp[tkN]
theorem w8_dg{es:List SV}(h:okBy es)(j:Nat):w8(dg es j)=dg es j:=by
 obtain⟨h1,h2⟩:=h j
 show IntKind.u8.wrap _=_
 rw[w8_eq];omega
theorem adv_bad{r:Rd}(h:(r.err!=0)=true)(k:Nat):r.adv k=r:=by
 unfold Rd.adv;rw[h];rfl
theorem adv_few{s L k:Nat}(h:¬ s+k<=L):(RD s L).adv k=⟨s,L,4,s⟩:=by
 have hf:(RD s L).few k=true:=by unfold Rd.few RD;exact dT0(by simp only[];omega)
 unfold Rd.adv;rw[hf];rfl
theorem sub_bad{r:Rd}(h:(r.err!=0)=true)(n:Nat)(k:Int)(K:Chunk->Rd->CTree):subK r n k K=K(shC r.at_ r.err r.fat)r:=by
 unfold subK;rw[h];rfl
theorem sub_few{s L n:Nat}{k:Int}(h:(k:Int) > L - s)(hs:s<=L)(hL:L<=1000000)(K:Chunk->Rd->CTree):subK(RD s L)n k K=K(shC s 4 s)⟨s,L,4,s⟩:=by
 have hsb:shortB(RD s L)k=true:=by
  unfold shortB RD
  simp only[]
  by_cases h0:k < 0
  . rw[dT0 h0];rfl
  . rw[dF h0,cF,w64_id(by omega)(by omega)];exact dT0(by omega)
 unfold subK;rw[hsb];rfl
theorem sub_ok{s L n k:Nat}(h:s+k<=L)(hn:L<=n)(hL:n<=1000000)(K:Chunk->Rd->CTree):subK(RD s L)n(k:Int)K=K(rC(RD s(s+k))n)(RD(s+k)L):=by
 have hw:wA(RD s L)k=((s+k:Nat):Int):=by
  unfold wA RD
  simp only[]
  rw[w64_id(by omega)(by omega)];omega
 have hwb:wB(RD s L)k=(s:Int):=by
  unfold wB
  rw[hw,w64_id(by omega)(by omega)];omega
 have hsb:shortB(RD s L)k=false:=by
  unfold shortB RD
  simp only[]
  rw[dF(show ¬ (k:Int) < 0 by omega),cF,w64_id(by omega)(by omega)];exact dF(by omega)
 have ho:okSl(RD s L)k n=true:=by
  unfold okSl
  rw[hw,hwb,dT0(by omega),dT0(by omega),dT0(by omega)];rfl
 unfold subK
 rw[hsb,ho,hw];rfl
section
variable{es:List SV}{a n:Nat}(hc:cdN es a n)
include hc
theorem rd_ok{s:Nat}(h:s<=n):OkRd(RD s n)es:=by
 obtain⟨h1,h2,h3,h4⟩:=hc
 exact⟨by simp[RD],by simp[RD];omega,by simp[RD];omega,by omega,h4⟩
theorem rdC_n{r:Rd}(h:OkRd r es){k:Int}(hk:0<=k/\k<=8)(K:CTree):rdC r n es k K=K:=by
 unfold rdC
 rw[dec_iff.2⟨h,hc.2.1,hk.1,hk.2⟩];rfl
theorem next_ok'(ho:okN es a n):opn κn Tryz.f98 [.ptr 0 0] (rH(RD a n)n es)=
  .ret(.tup [.agg [.ptr 2 0,.int .i64 a,.int .u8(dg es a),.int .u8(dg es(a+1))],.bool true]) [(0,some(rC(RD(a+hdN es a+lnN es a)n)n)),(2,some(rC(RD(a+hdN es a)(a+hdN es a+lnN es a))n))]:=by
 have h4:=hc.2.2.2
 have h3:=hc.2.2.1
 have hN:(a:Int) < 1000000:=by have:=hc.1;omega
 obtain⟨o1,o2⟩:=ho
 have hh:3<=hdN es a/\hdN es a<=4:=by unfold hdN;split <;> omega
 have e1:(RD a n).adv 1=RD(a+1)n:=adv_RD(by omega)
 have e2:(RD(a+1)n).adv 1=RD(a+2)n:=adv_RD(by omega)
 have n1:(RD a n).num es 1=dg es a:=by rw[num_RD(by omega),tk1]
 have n2:(RD(a+1)n).num es 1=dg es(a+1):=by rw[num_RD(by omega),tk1]
 have key:∀ K:Chunk->Rd->CTree,(bif andI .u8(w8(dg es a))16!=0 then rdC(RD(a+2)n)n es 2(subK((RD(a+2)n).adv 2)n(IntKind.i64.wrap((RD(a+2)n).num es 2))K)else rdC(RD(a+2)n)n es 1(subK((RD(a+2)n).adv 1)n(IntKind.i64.wrap((RD(a+2)n).num es 1))K))=
   K(rC(RD(a+hdN es a)(a+hdN es a+lnN es a))n)(RD(a+hdN es a+lnN es a)n):=by
  intro K
  rw[w8_dg h4]
  by_cases hf:andI .u8(dg es a)16≠0
  . have hd:hdN es a=4:=if_pos hf
    obtain⟨t1,t2⟩:=tkN_rng h4(a+2)2
    have t3:(256:Int) ^ 2=65536:=by decide
    have hl:lnN es a=(tkN es(a+2)2).toNat:=by unfold lnN;rw[hd]
    rw[show(andI .u8(dg es a)16!=0)=true by simpa using hf,cT,rdC_n hc(rd_ok hc(by omega))(by decide),adv_RD(by omega),num_RD(by omega),w64_id(by omega)(by omega),
     show tkN es(a+2)2=((tkN es(a+2)2).toNat:Nat)by omega,<- hl,sub_ok(by omega)(Nat.le_refl _)(by omega),hd]
  . have hd:hdN es a=3:=if_neg hf
    obtain⟨t1,t2⟩:=tkN_rng h4(a+2)1
    have t3:(256:Int) ^ 1=256:=by decide
    have hl:lnN es a=(tkN es(a+2)1).toNat:=by unfold lnN;rw[hd]
    rw[show(andI .u8(dg es a)16!=0)=false by simpa using hf,cF,rdC_n hc(rd_ok hc(by omega))(by decide),adv_RD(by omega),num_RD(by omega),w64_id(by omega)(by omega),
     show tkN es(a+2)1=((tkN es(a+2)1).toNat:Nat)by omega,<- hl,sub_ok(by omega)(Nat.le_refl _)(by omega),hd]
 rw[next_t,rdC_n hc(rd_ok hc(by omega))(by decide),e1,rdC_n hc(rd_ok hc(by omega))(by decide),e2,n1,key]
 unfold nextL
 rw[n1,e1,n2,w8_dg h4,w8_dg h4]
 rfl
theorem next_no(ho:¬ okN es a n):∃ f g c r',opn κn Tryz.f98 [.ptr 0 0] (rH(RD a n)n es)= .ret(.tup [.agg [.ptr 2 0,.int .i64 a,.int .u8 f,.int .u8 g],.bool false]) [(0,some(rC r' n)),(2,some c)]:=by
 have h4:=hc.2.2.2
 have h3:=hc.2.2.1
 have h1:=hc.1
 have e1:(RD a n).adv 1=RD(a+1)n:=adv_RD(by omega)
 have n1:(RD a n).num es 1=dg es a:=by rw[num_RD(by omega),tk1]
 have hr1:=rd_ok hc(s:=a)(by omega)
 rw[next_t,rdC_n hc hr1(by decide),rdC_n hc(hr1.adv 1)(by decide),n1,w8_dg h4]
 have hr2:=(hr1.adv 1).adv 1
 have fin:∀ c(r':Rd),r'.err=4->∃ f g c' r'',nextL(RD a n)n es c r'= .ret(.tup [.agg [.ptr 2 0,.int .i64 a,.int .u8 f,.int .u8 g],.bool false]) [(0,some(rC r'' n)),(2,some c')]:=by
  intro c r' hr
  refine⟨w8((RD a n).num es 1),w8(((RD a n).adv 1).num es 1),c,r',?_⟩
  unfold nextL
  rw[hr];rfl
 have body:∀ k:Nat,(k=1\/k=2)->hdN es a=k+2->∃ f g c r',rdC(((RD a n).adv 1).adv 1)n es k(subK((((RD a n).adv 1).adv 1).adv k)n(IntKind.i64.wrap((((RD a n).adv 1).adv 1).num es k))(nextL(RD a n)n es))=
   .ret(.tup [.agg [.ptr 2 0,.int .i64 a,.int .u8 f,.int .u8 g],.bool false]) [(0,some(rC r' n)),(2,some c)]:=by
  intro k hk hd
  rw[rdC_n hc hr2(by omega)]
  rw[e1]
  by_cases c2:a+2<=n
  . have e2:(RD(a+1)n).adv 1=RD(a+2)n:=adv_RD(by omega)
    rw[e2]
    by_cases c3:a+2+k<=n
    . obtain⟨t1,t2⟩:=tkN_rng h4(a+2)k
      have t3:(256:Int) ^ k<=65536:=by rcases hk with rfl | rfl <;> decide
      have hl:lnN es a=(tkN es(a+2)k).toNat:=by unfold lnN;rw[hd];rfl
      have hgt:¬ a+2+k+lnN es a<=n:=fun hh=>ho⟨by omega,by omega⟩
      rw[adv_RD(by omega),num_RD(by omega),w64_id(by omega)(by omega),sub_few(by omega)(by omega)(by omega)]
      exact fin _ _ rfl
    . rw[adv_few c3,sub_bad rfl]
      exact fin _ _ rfl
  . rw[adv_few(s:=a+1)(k:=1)(by omega),adv_bad rfl,sub_bad rfl]
    exact fin _ _ rfl
 by_cases hf:andI .u8(dg es a)16≠0
 . rw[show(andI .u8(dg es a)16!=0)=true by simpa using hf,cT]
   exact body 2(.inr rfl)(if_pos hf)
 . rw[show(andI .u8(dg es a)16!=0)=false by simpa using hf,cF]
   exact body 1(.inl rfl)(if_neg hf)
end
end Go.Proofs.YtnlmhpancboddaaGreat
namespace Go.Proofs.YtnlmhpancboddaaGreat
open Go.Am
set_option maxRecDepth 100000
structure Ds where
 (ori nx med prf orr tk tl tr tg:Int)(hm hp ho:Bool)(path cl cm rch unr:List SV)
def nz:Bool->Nat->List SV->SV
 | true,_,_=>.nils
 | false,e,l=>.psl e l
def dL(pb cb mb:Bool)(d:Ds):List SV:=[.int .i64 d.ori,nz pb 36 d.path,.int .u32 d.nx,.bool d.hm,.int .u32 d.med,.bool d.hp,.int .u32 d.prf,.bool d.ho,.int .u32 d.orr,nz cb 37 d.cl,nz mb 136 d.cm,.int .i64 d.tk,.int .u32 d.tl,.int .u32 d.tr,.int .u32 d.tg,.psl 88 d.rch,.psl 88 d.unr]
abbrev dC(pb cb mb:Bool)(d:Ds):Chunk:=.cells 177(dL pb cb mb d)
def nmH(r:Rd)(n:Nat)(es:List SV)(sz lim:Int)(f:Nat)(pb cb mb:Bool)(d:Ds):HpL:=
 [(0,rC r n),(1,.seq 5 es),(2,.cells 3 [.int .i64 sz]),(3,.cells 63 [.int .u64 lim]),(4,.cells 205 [.fn(.func f) [] [.ptr 5 0]]),(5,.cells 203 [.ptr 6 0]),(6,dC pb cb mb d)]
def nmA(off fl cd:Int):List SV:=[.agg [.ptr 0 0,.int .i64 off,.int .u8 fl,.int .u8 cd],.ptr 2 0,.ptr 3 0,.ptr 4 0]
noncomputable def nmT(r:Rd)(n:Nat)(es:List SV)(sz:Nat)(lim:Int)(pb cb mb:Bool)(d:Int->Ds):CTree:=
 bif IntKind.i64.wrap(r.end_ - r.at_)!=sz then .ret(.bool false) []else rdC r n es sz(bif decide(r.num es sz > lim)then .ret(.bool false) [(0,some(rC(r.adv sz)n))]else
  .ret(.bool true) [(6,some(dC pb cb mb(d(r.num es sz)))),(0,some(rC(r.adv sz)n))])
def d1(d:Ds)(x:Int):Ds:={d with ori:=IntKind.i64.wrap x}
def d4(d:Ds)(x:Int):Ds:={d with hm:=true,med:=w3 x}
def d5(d:Ds)(x:Int):Ds:={d with hp:=true,prf:=w3 x}
def d9(d:Ds)(x:Int):Ds:={d with ho:=true,orr:=w3 x}
theorem nm_t1(r:Rd)(n:Nat)(es:List SV)(off fl cd:Int)(pb cb mb:Bool)(d:Ds):opn κn Tryz.f135(nmA off fl cd)(nmH r n es 1 2 112 pb cb mb d)=nmT r n es 1 2 pb cb mb(d1 d):=by
 cases pb <;> cases cb <;> cases mb <;> kernel_rfl
theorem nm_t4(r:Rd)(n:Nat)(es:List SV)(off fl cd:Int)(pb cb mb:Bool)(d:Ds):opn κn Tryz.f135(nmA off fl cd)(nmH r n es 4 4294967295 115 pb cb mb d)=nmT r n es 4 4294967295 pb cb mb(d4 d):=by
 cases pb <;> cases cb <;> cases mb <;> kernel_rfl
theorem nm_t5(r:Rd)(n:Nat)(es:List SV)(off fl cd:Int)(pb cb mb:Bool)(d:Ds):opn κn Tryz.f135(nmA off fl cd)(nmH r n es 4 4294967295 116 pb cb mb d)=nmT r n es 4 4294967295 pb cb mb(d5 d):=by
 cases pb <;> cases cb <;> cases mb <;> kernel_rfl
theorem nm_t9(r:Rd)(n:Nat)(es:List SV)(off fl cd:Int)(pb cb mb:Bool)(d:Ds):opn κn Tryz.f135(nmA off fl cd)(nmH r n es 4 4294967295 117 pb cb mb d)=nmT r n es 4 4294967295 pb cb mb(d9 d):=by
 cases pb <;> cases cb <;> cases mb <;> kernel_rfl
end Go.Proofs.YtnlmhpancboddaaGreat
