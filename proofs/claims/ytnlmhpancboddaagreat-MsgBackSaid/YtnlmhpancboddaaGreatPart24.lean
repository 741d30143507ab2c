/- MsgBack: Bytes, known. -/
import Derived.Test.YtnlmhpancboddaaGreatPart23
set_option linter.unusedVariables false
set_option linter.unusedSimpArgs false
namespace Go.Proofs.YtnlmhpancboddaaGreat
open Go.Am
set_option maxRecDepth 100000
def gV(d:Ds):List SV:=fT (atG d) (nbs d.rch) (nbs d.unr)
def bdM(m:Mg):List SV:=bif m.k==1 then pC m.s else bif m.k==3 then be m.code 1++be m.sub 1 else bif m.k==2 then be 0 2++be ((gV m.d).length:Int) 2++gV m.d else bif m.k==5 then be 1638470 4 else []
def wrp(k:Int)(es:List SV):List SV:=ffs++be (19+(es.length:Int)) 2++be k 1++es
def enM(m:Mg):List SV:=wrp m.k (bdM m)
def erM(m:Mg):Int:=bif l7 m.k then 6 else bif frn m then 3 else bif m.k==1 then(bif sS m.s then 2 else 0)else bif m.k==3 then(bif ntB m.code m.sub then 2 else 0)else
 bif m.k==2 then(bif bg (atG m.d) m.d.rch m.d.unr !=0 then bg (atG m.d) m.d.rch m.d.unr else bif decide (((gV m.d).length:Int) > 4073)then 5 else 0)else 0
structure MOkF (asn id:Int) (d:Ds):Prop where
 a0:0<=asn
 a1:asn < 4294967296
 i0:0<=id
 i1:id < 4294967296
 inn:In (atG d) d.rch d.unr
 rl:d.rch.length<=40
 ul:d.unr.length<=40
abbrev MOk(m:Mg):Prop:=MOkF m.s.asn m.s.id m.d
theorem MOkF.fit{asn id:Int}{d:Ds}(h:MOkF asn id d):Fit (atG d) d.rch d.unr:=h.inn.fit h.rl h.ul
theorem Iu{k:Int}{es:List SV}(h0:0<=k)(h1:k < 256)(hl:es.length<=4077):byR k es.length es= .ret (.tup [.qs 0 1 0 (wrp k es).length,.int .i64 0]) [(0,some (.seq 5 (wrp k es)))]:=by
 unfold byR wrp
 have hw:w64 (19+(es.length:Int))=19+es.length:=am (by omega) (by omega)
 rw[Jf,hw,eq (show 0<=19+(es.length:Int)by omega) (by omega),cY (by omega) (by omega) (by rw[ffs_len];decide) (by decide),cY h0 (by omega) (by simp only[lA0,ah,ffs_len];decide) (by decide),xa (by simp only[lA0,ah,ffs_len];omega),mT (by simp only[lA0,ah,ffs_len];omega)]
structure OpV (s:Cs):Prop where
 a0:0<=s.asn
 a1:s.asn < 4294967296
 i0:0<=s.id
 i1:s.id < 4294967296
 r0:0<=s.rst
 r1:s.rst < 4096
 h0:0<=s.hold
 h1:s.hold < 65536
 h3:s.hold=0\/3<=s.hold
theorem Br{s:Cs}(a0:0<=s.asn)(a1:s.asn < 4294967296)(i0:0<=s.id)(i1:s.id < 4294967296)(h:sS s=false):OpV s:=by
 have ho2:∀ x y:Bool,(bif x then true else y)=(x||y):=by decide
 have hb:∀ x y:Bool,(bif x then y else false)=(x&&y):=by decide
 simp only[sS,ho2,hb,Bool.or_eq_false_iff,Bool.and_eq_false_imp,bne_iff_ne,decide_eq_false_iff_not]at h
 obtain⟨⟨h1,h2⟩,h3⟩:=h
 by_cases hz:s.hold=0
 . exact⟨a0,a1,i0,i1,by omega,by omega,by omega,by omega,.inl hz⟩
 . obtain⟨h4,h5⟩:=h1 hz
   exact⟨a0,a1,i0,i1,by omega,by omega,by omega,by omega,.inr (by omega)⟩
theorem yb{s:Cs}(h:OpV s)(a:Int)(h0:0<=a)(h1:a < 65536)(K:Nat->List SV->CTree):zO s a (bY s).length (bY s) K=
  K (be 4 1++be a 2++be s.hold 2++be s.id 4++be (((bY s).length:Int)+2) 1++be 2 1++be ((bY s).length:Int) 1++bY s).length (be 4 1++be a 2++be s.hold 2++be s.id 4++be (((bY s).length:Int)+2) 1++be 2 1++be ((bY s).length:Int) 1++bY s):=by
 obtain⟨g0,g1,g2,g3,g4,g5,g6,g7,g8⟩:=h
 obtain⟨l0,l1⟩:=oG s
 unfold zO
 generalize bY s=C at *
 rw[eq h0 (by omega),eq g6 (by omega),eq g2 (by omega),show w64 ((C.length:Int)+2)=(C.length:Int)+2 from am (by omega) (by omega),eq (show 0<=(C.length:Int)+2 by omega) (by omega),eq (show 0<=(C.length:Int)by omega) (by omega)]
 rw[o6 (by decide) (by decide) (by decide) (by decide),cY h0 (by omega) (by simp only[lA0,ah];decide) (by decide),cY g6 (by omega) (by simp only[lA0,ah];decide) (by decide),cY g2 (by omega) (by simp only[lA0,ah];decide) (by decide),cY (by omega) (by omega) (by simp only[lA0,ah];decide) (by decide),cY (by decide) (by decide) (by simp only[lA0,ah];decide) (by decide),cY (by omega) (by omega) (by simp only[lA0,ah];decide) (by decide),xa (by simp only[lA0,ah];omega),mT (by simp only[lA0,ah];omega)]
theorem ER{s:Cs}(h:OpV s)(K:Nat->List SV->CTree):(bif decide (s.asn > 65535)then zO s 23456 (bY s).length (bY s) K else zO s s.asn (bY s).length (bY s) K)=K (pC s).length (pC s):=by
 have g0:=h.a0
 unfold pC asV
 by_cases ha:s.asn > 65535
 . rw[dT0 ha,cT,cT,yb h 23456 (by decide) (by decide)]
 . rw[dF0 ha,cF,cF,yb h s.asn g0 (by omega)]
noncomputable def yc:ag:=rh fun m=>.ite (dec (MOk m)) (.ite (erM m !=0) (.ret (.tup [.nils,.int .i64 (erM m)]) []) (.ret (.tup [.qs 0 1 0 (enM m).length,.int .i64 0]) [(0,some (.seq 5 (enM m)))])) .fail
theorem ES{B:List SV}(h:B.length<=4073):Bh B=byR 2 (be 0 2++be (B.length:Int) 2++B).length (be 0 2++be (B.length:Int) 2++B):=by
 unfold Bh
 rw[dF0 (by omega),cF,eq (show 0<=(B.length:Int)by omega) (by omega),o6 (by decide) (by decide) (by decide) (by decide),cY (by omega) (by omega) (by rw[ah];decide) (by decide),xa (by simp only[lA0,ah];omega),mT (by simp only[lA0,ah];omega)]
theorem byG_k:Known Tryz.prog 13 yc   :=by
 have k0:=aj (f:=13) (fn:=Tryz.f13) (ac EH ok0) Tryz.func13 rfl
 have kU:=aj (f:=13) (fn:=Tryz.f13) (ac EI ok0) Tryz.func13 rfl
 have k2:=aj (f:=13) (fn:=Tryz.f13) Ny Tryz.func13 rfl
 have kk:=aj (f:=13) (fn:=Tryz.f13) Nx Tryz.func13 rfl
 refine⟨k0.fn,fun args H v ups h=> ?_⟩
 obtain⟨m,rfl,rfl,h'⟩:=eh h
 rw[aa]at h'
 cases hc:dec (MOk m)with
 | false=>rw[hc]at h';cases h'
 | true=>
  rw[hc,cT,aa]at h'
  have ho:=dec_iff.1 hc
  obtain⟨k,s,code,sub,d⟩:=m
  have er:∀ e:Int,e≠0->erM ⟨k,s,code,sub,d⟩=e->ae (cE .nils e)=some (v,ups):=fun e he hr=>by
   rw[hr,show(e !=0)=true by simpa using he]at h'
   exact h'
  have gd:∀ es,es.length<=4077->0<=k->k < 256->erM ⟨k,s,code,sub,d⟩=0->bdM ⟨k,s,code,sub,d⟩=es->ae (byR k es.length es)=some (v,ups):=fun es hl hk0 hk1 hr hb=>by
   rw[hr]at h'
   unfold enM at h'
   rw[hb]at h'
   rw[Iu hk0 hk1 hl]
   exact h'
  cases hk:l7 k with
  | true=>
   refine k0.ok _ _ _ _ ?_
   refine(congrArg ae (Lo _)).trans ?_
   rw[show l7 (Mg.mk k s code sub d).k=true from hk,cT]
   exact er 6 (by decide) (by unfold erM;rw[show l7 (Mg.mk k s code sub d).k=true from hk];rfl)
  | false=>
   have hk5:1<=k/\k<=5:=by
    unfold l7 at hk
    by_cases q1:k < 1
    . rw[dT0 q1]at hk;cases hk
    . rw[dF0 q1,cF]at hk
      have:=of_decide_eq_false hk
      omega
   cases hf:frn ⟨k,s,code,sub,d⟩with
   | true=>
    have e3:erM ⟨k,s,code,sub,d⟩=3:=by unfold erM;rw[hf,show l7 (Mg.mk k s code sub d).k=false from hk];rfl
    have hr:=er 3 (by decide) e3
    rcases(show k=1\/k=2\/k=3\/k=4\/k=5 by omega)with rfl | rfl | rfl | rfl | rfl
    . refine kk.ok _ _ _ _ ((congrArg ae (Hj s code sub d)).trans ?_);rw[hf];exact hr
    . refine k2.ok _ _ _ _ ((congrArg ae (Hn s code sub d)).trans ?_);rw[hf];exact hr
    . refine kk.ok _ _ _ _ ((congrArg ae (Hk s code sub d)).trans ?_);rw[hf];exact hr
    . refine kk.ok _ _ _ _ ((congrArg ae (Hl s code sub d)).trans ?_);rw[hf];exact hr
    . refine kk.ok _ _ _ _ ((congrArg ae (Hm s code sub d)).trans ?_);rw[hf];exact hr
   | false=>
    rcases(show k=1\/k=2\/k=3\/k=4\/k=5 by omega)with rfl | rfl | rfl | rfl | rfl
    . have e1:erM ⟨1,s,code,sub,d⟩=bif sS s then 2 else 0:=by unfold erM;rw[hf];rfl
      refine kk.ok _ _ _ _ ((congrArg ae (Hj s code sub d)).trans ?_)
      rw[hf,cF]
      cases ho1:sS s with
      | true=>exact er 2 (by decide) (by rw[e1,ho1];rfl)
      | false=>
       have hv:OpV s:=Br ho.a0 ho.a1 ho.i0 ho.i1 ho1
       obtain⟨l0,l1⟩:=oG s
       rw[cF]
       unfold Ll
       rw[dT0 ⟨hv.a0,hv.a1,hv.r0,hv.r1⟩,cT]
       refine(congrArg ae (ER hv (byR 1))).trans ?_
       exact gd _ (by rw[uT];omega) (by decide) (by decide) (by rw[e1,ho1];rfl) rfl
    . have e1:erM ⟨2,s,code,sub,d⟩=bif bg     (atG d) d.rch d.unr !=0 then bg     (atG d) d.rch d.unr else bif decide (((gV   d).length:Int) > 4073)then 5 else 0:=by unfold erM;rw[hf];rfl
      have hfit:=ho.fit
      by_cases h0:bg (atG d) d.rch d.unr=0
      . refine k2.ok _ _ _ _ ((congrArg ae (Hn s code sub d)).trans ?_)
        rw[hf,cF,dec_iff.2 ⟨hfit,h0⟩,cT]
        rw[show(bg (atG d) d.rch d.unr !=0)=false by simpa using h0,cF]at e1
        show ae (Bh (gV d))=_
        by_cases hl:((gV d).length:Int) > 4073
        . rw[dT0 hl]at e1
          unfold Bh
          rw[dT0 hl,cT]
          exact er 5 (by decide) e1
        . rw[dF0 hl]at e1
          rw[ES (by omega)]
          exact gd _ (by simp only[lA0,ah];omega) (by decide) (by decide) e1 rfl
      . refine kU.ok _ _ _ _ ((congrArg ae (Lp _)).trans ?_)
        rw[dec_iff.2 ⟨rfl,hf,hfit,h0⟩,cT,show(bg (atG (Mg.mk 2 s code sub d).d) (Mg.mk 2 s code sub d).d.rch (Mg.mk 2 s code sub d).d.unr !=0)=true by simpa using h0,cT]
        exact er _ h0 (by rw[e1,show(bg (atG d) d.rch d.unr !=0)=true by simpa using h0];rfl)
    . have e1:erM ⟨3,s,code,sub,d⟩=bif ntB code sub then 2 else 0:=by unfold erM;rw[hf];rfl
      refine kk.ok _ _ _ _ ((congrArg ae (Hk s code sub d)).trans ?_)
      rw[hf,cF]
      cases ho1:ntB code sub with
      | true=>exact er 2 (by decide) (by rw[e1,ho1];rfl)
      | false=>
       have hn:(0<=code/\code<=255)/\0<=sub/\sub<=255:=by
        have ho2:∀ x y:Bool,(bif x then true else y)=(x||y):=by decide
        have hq:=ho1
        simp only[ntB,ho2,Bool.or_eq_false_iff,decide_eq_false_iff_not]at hq
        omega
       rw[cF,eq hn.1.1 (by omega),eq hn.2.1 (by omega),o6 hn.1.1 (by omega) (by decide) (by decide),cY hn.2.1 (by omega) (by rw[ah];decide) (by decide),mT (by simp only[lA0,ah];decide)]
       exact gd _ (by simp only[lA0,ah];decide) (by decide) (by decide) (by rw[e1,ho1];rfl) rfl
    . have e1:erM ⟨4,s,code,sub,d⟩=0:=by unfold erM;rw[hf];rfl
      refine kk.ok _ _ _ _ ((congrArg ae (Hl s code sub d)).trans ?_)
      rw[hf,cF]
      exact gd [] (by decide) (by decide) (by decide) e1 rfl
    . have e1:erM ⟨5,s,code,sub,d⟩=0:=by unfold erM;rw[hf];rfl
      refine kk.ok _ _ _ _ ((congrArg ae (Hm s code sub d)).trans ?_)
      rw[hf,cF,o6 (by decide) (by decide) (by decide) (by decide),mT (by rw[ah];decide)]
      exact gd _ (by rw[ah];decide) (by decide) (by decide) e1 rfl
theorem qm{o:Bool}{c s:Int}{z:Bool}{r u:Nat}(h:il o c s z r u=true):o=true/\c=0/\s=0/\z=true/\r=0/\u=0:=by
 have hb:∀ x y:Bool,(bif x then y else false)=(x&&y):=by decide
 simp only[il,hb,bA,beq_iff_eq]at h
 obtain⟨⟨⟨⟨⟨h1,h2⟩,h3⟩,h4⟩,h5⟩,h6⟩:=h
 exact⟨h1,h2,h3,h4,by omega,by omega⟩
theorem oQ{d:Ds}(h:cC (atG d)=true)(hr:d.rch.length=0)(hu:d.unr.length=0):d=dI0:=by
 have e:=ry h d.unr
 have e1:uU (atG d) [] d.unr={d with rch:=[]}:=rfl
 rw[e1,List.length_eq_zero_iff.1 hu]at e
 cases d with
 | mk a1 a2 a3 a4 a5 a6 a7 a8 a9 b1 b2 b3 p c m r u=>
  have h1:r=[]:=List.length_eq_zero_iff.1 hr
  have h2:u=[]:=List.length_eq_zero_iff.1 hu
  subst h1 h2
  exact e
theorem oR{s:Cs}(h:osZ s=true):oV s=oV cs0:=by
 simp only[osZ,bA,beq_iff_eq]at h
 obtain⟨h1,h2,h3,h4,h5⟩:=h
 unfold oV
 rw[h1,h2,h3,h4,h5];rfl
theorem we{m:Mg}{s:Cs}(h:oV m.s=oV s):mgV {m with s:=s}=mgV m:=by
 unfold mgV;simp only[];rw[h]
structure EnOk (m:Mg):Prop where
 ok:MOk m
 k0:1<=m.k
 k1:m.k<=5
 bl:(bdM m).length<=4077
 by_:byl (bdM m)
 rd:∃ m',rdP m.k (bdM m)=(m',0)/\mgV m'=mgV m
theorem Kx{n:Int}{l:List SV}(h0:0<=n)(h1:n < 256):dg (be n 1++l) 0=n:=lG (pre:=[]) (post:=l) rfl rfl h0 h1
theorem Ky(s:Cs):pC s=mh s (.int .u8 2 :: .int .u8 ((bY s).length:Int) :: ([]++bY s)):=by
 obtain⟨l0,l1⟩:=oG s
 unfold pC mh
 have e1:be (((bY s).length:Int)+2) 1=[.int .u8 (((bY s).length:Int)+2)]:=by
  show [SV.int .u8 _]=_
  rw[Int.pow_zero,Int.ediv_one,Int.emod_eq_of_lt (by omega) (by omega)]
 have e2:be ((bY s).length:Int) 1=[.int .u8 ((bY s).length:Int)]:=by
  show [SV.int .u8 _]=_
  rw[Int.pow_zero,Int.ediv_one,Int.emod_eq_of_lt (by omega) (by omega)]
 have e3:be 2 1=[.int .u8 2]:=rfl
 rw[e1,e2,e3]
 simp only[aA,nA,List.cons_append,List.length_cons]
 rw[show(((bY s).length+1+1:Nat):Int)=((bY s).length:Int)+2 by omega]
theorem DT{m:Mg}(h:MOk m)(h0:bg (atG m.d) m.d.rch m.d.unr=0):byl (gV m.d):=by
 have hr:=h.rl;have hu:=h.ul
 exact(h.inn.vd (by omega) (by omega) h0).byl
theorem Kz{m:Mg}(h:MOk m)(h0:bg (atG m.d) m.d.rch m.d.unr=0)(hl:(gV m.d).length<=4073):upP (be 0 2++be ((gV m.d).length:Int) 2++gV m.d)=(mgD m.d,0):=by
 have hr:=h.rl;have hu:=h.ul
 have hv:=h.inn.vd (by omega) (by omega) h0
 have hrd:=hv.read hr hu
 have e:uU (atG m.d) m.d.rch m.d.unr=m.d:=rfl
 rw[e]at hrd
 change rdQ (gV m.d) (gV m.d).length=_ at hrd
 generalize gV m.d=B at *
 have hd:(be 0 2++be (B.length:Int) 2++B).drop 4=B:=by kernel_rfl
 have hlen:(be 0 2++be (B.length:Int) 2++B).length=4+B.length:=by simp only[lA0,ah]
 have t0:tkN (be 0 2++be (B.length:Int) 2++B) 0 2=0:=aW (pre:=[]) (post:=be (B.length:Int) 2++B) (by simp) rfl (by omega) (by omega)
 have t2:tkN (be 0 2++be (B.length:Int) 2++B) 2 2=B.length:=aW (pre:=be 0 2) (post:=B) (by simp) (by rw[ah]) (by omega) (by omega)
 unfold upP upB
 rw[hd,hlen,t0,t2,Nat.add_sub_cancel_left,hrd,dT0 (by omega),dT0 rfl,dT0 (by omega)]
 rfl
theorem MZ(p:List SV):rdP 2 p=upP p:=rfl
theorem tx     {m:Mg}(h:MOk m)(he:erM m=0):EnOk m:=by
 have hk:l7 m.k=false:=by
  cases hk:l7 m.k with
  | false=>rfl
  | true=>unfold erM at he;rw[hk]at he;cases he
 have hk5:1<=m.k/\m.k<=5:=by
  unfold l7 at hk
  by_cases q1:m.k < 1
  . rw[dT0 q1]at hk;cases hk
  . rw[dF0 q1,cF]at hk
    have:=of_decide_eq_false hk
    omega
 have hf:frn m=false:=by
  cases hf:frn m with
  | false=>rfl
  | true=>unfold erM at he;rw[hk,hf]at he;cases he
 unfold erM at he
 rw[hk,hf,cF,cF]at he
 obtain⟨k,s,code,sub,d⟩:=m
 simp only[]at hk5 he
 have gk0:(1:Int)<=(Mg.mk k s code sub d).k:=hk5.1
 have gk1:(Mg.mk k s code sub d).k<=5:=hk5.2
 rcases(show k=1\/k=2\/k=3\/k=4\/k=5 by omega)with rfl | rfl | rfl | rfl | rfl
 . have ho:sS s=false:=by
     cases ho:sS s with
     | false=>rfl
     | true=>rw[ho]at he;cases he
   have hz:il true code sub (cC (atG d)) d.rch.length d.unr.length=true:=by
    have:frn ⟨1,s,code,sub,d⟩= !il true code sub (cC (atG d)) d.rch.length d.unr.length:=rfl
    rw[this]at hf
    simpa using hf
   obtain⟨-,rfl,rfl,z4,z5,z6⟩:=qm hz
   obtain rfl:=oQ z4 z5 z6
   have hv:OpV s:=Br h.a0 h.a1 h.i0 h.i1 ho
   have hw:Ck s:=⟨hv.a0,hv.a1,hv.r0,hv.r1,hv.h0,hv.h1,hv.i0,hv.i1,hv.h3⟩
   obtain⟨l0,l1⟩:=oG s
   have hb:bdM ⟨1,s,0,0,dI0⟩=pC s:=rfl
   have hP:=GA hw (xs:=[]) (fun _ _=>rfl) (n:=((bY s).length:Int)) (by rw[nA])
   refine⟨h,gk0,gk1,by rw[hb,uT];omega,?_,⟨1,opT s,0,0,dI0⟩,?_,?_⟩
   . rw[hb]
     unfold pC
     exact byl.app (byl.app (byl.app (byl.app (byl.app (byl.app (byl.app (byl.be _ _) (byl.be _ _)) (byl.be _ _)) (byl.be _ _)) (byl.be _ _)) (byl.be _ _)) (byl.be _ _)) (Ei s)
   . rw[hb,Ky]
     exact Kt hw hP
   . obtain⟨-,-,e3,e4,e5,e6,e7⟩:=HX (w:=s)
     refine(we (m:=⟨1,opT s,0,0,dI0⟩) (s:=s) ?_).symm
     unfold oV
     simp only[]
     rw[e3,e4,e5,e6,e7]
 . have h0:bg     (atG d) d.rch d.unr=0:=by
     cases hq:bg (atG d) d.rch d.unr !=0 with
     | false=>simpa using hq
     | true=>
      rw[show((2:Int)==1)=false from rfl,show((2:Int)==3)=false from rfl,show((2:Int)==2)=true from rfl,hq]at he
      simp only[cF,cT]at he
      rw[he]at hq;cases hq
   have hl:(gV d).length<=4073:=by
    by_cases hq:((gV d).length:Int) > 4073
    . rw[h0,dT0 hq]at he;cases he
    . omega
   have hz:il (osZ s) code sub true 0 0=true:=by
    have:frn ⟨2,s,code,sub,d⟩= !il (osZ s) code sub true 0 0:=rfl
    rw[this]at hf
    simpa using hf
   obtain⟨z1,rfl,rfl,-,-,-⟩:=qm hz
   have hb:bdM ⟨2,s,0,0,d⟩=be 0 2++be ((gV d).length:Int) 2++gV d:=rfl
   refine⟨h,gk0,gk1,by rw[hb];simp only[lA0,ah];omega,?_,mgD d,?_,?_⟩
   . have hB:byl (gV d):=DT (m:=⟨2,s,0,0,d⟩) h h0
     rw[hb];exact byl.app (byl.app (byl.be _ _) (byl.be _ _)) hB
   . have e:upP (be 0 2++be ((gV d).length:Int) 2++gV d)=(mgD d,0):=Kz (m:=⟨2,s,0,0,d⟩) h h0 hl
     rw[hb]
     exact(MZ _).trans e
   . exact we (m:=⟨2,s,0,0,d⟩) (s:=cs0) (oR z1)
 . have ho:ntB code sub=false:=by
     cases ho:ntB code sub with
     | false=>rfl
     | true=>rw[ho]at he;cases he
   have hn:(0<=code/\code<=255)/\0<=sub/\sub<=255:=by
    have ho2:∀ x y:Bool,(bif x then true else y)=(x||y):=by decide
    simp only[ntB,ho2,Bool.or_eq_false_iff,decide_eq_false_iff_not]at ho
    omega
   have hz:il (osZ s) 0 0 (cC (atG d)) d.rch.length d.unr.length=true:=by
    have:frn ⟨3,s,code,sub,d⟩= !il (osZ s) 0 0 (cC (atG d)) d.rch.length d.unr.length:=rfl
    rw[this]at hf
    simpa using hf
   obtain⟨z1,-,-,z4,z5,z6⟩:=qm hz
   obtain rfl:=oQ z4 z5 z6
   have hb:bdM ⟨3,s,code,sub,dI0⟩=be code 1++be sub 1:=rfl
   refine⟨h,gk0,gk1,by rw[hb];simp only[lA0,ah];omega,?_,⟨3,cs0,code,sub,dI0⟩,?_,?_⟩
   . rw[hb];exact byl.app (byl.be _ _) (byl.be _ _)
   . have d0:dg (be code 1++be sub 1) 0=code:=Kx hn.1.1 (by omega)
     have d1:dg (be code 1++be sub 1) 1=sub:=lG (pre:=be code 1) (post:=[]) (by simp) (by rw[ah]) hn.2.1 (by omega)
     have:rdP 3 (be code 1++be sub 1)=(⟨3,cs0,dg (be code 1++be sub 1) 0,dg (be code 1++be sub 1) 1,dI0⟩,0):=rfl
     rw[hb,this,d0,d1]
   . exact we (m:=⟨3,s,code,sub,dI0⟩) (s:=cs0) (oR z1)
 . have hz:il (osZ s) code sub (cC (atG d)) d.rch.length d.unr.length=true:=by
     have:frn ⟨4,s,code,sub,d⟩= !il (osZ s) code sub (cC (atG d)) d.rch.length d.unr.length:=rfl
     rw[this]at hf
     simpa using hf
   obtain⟨z1,rfl,rfl,z4,z5,z6⟩:=qm hz
   obtain rfl:=oQ z4 z5 z6
   have hb:bdM ⟨4,s,0,0,dI0⟩=[]:=rfl
   exact⟨h,gk0,gk1,by rw[hb];decide,by rw[hb];exact dV,⟨mgK 4,by rw[hb];rfl,we (m:=⟨4,s,0,0,dI0⟩) (s:=cs0) (oR z1)⟩⟩
 . have hz:il (osZ s) code sub (cC (atG d)) d.rch.length d.unr.length=true:=by
     have:frn ⟨5,s,code,sub,d⟩= !il (osZ s) code sub (cC (atG d)) d.rch.length d.unr.length:=rfl
     rw[this]at hf
     simpa using hf
   obtain⟨z1,rfl,rfl,z4,z5,z6⟩:=qm hz
   obtain rfl:=oQ z4 z5 z6
   have hb:bdM ⟨5,s,0,0,dI0⟩=be 1638470 4:=rfl
   exact⟨h,gk0,gk1,by rw[hb,ah];decide,by rw[hb];exact byl.be _ _,⟨mgK 5,by rw[hb];kernel_rfl,we (m:=⟨5,s,0,0,dI0⟩) (s:=cs0) (oR z1)⟩⟩
/- Messages in a row. -/
theorem oS(k:Int)(es:List SV):(wrp k es).length=19+es.length:=by unfold wrp;simp only[lA0,ah,ffs_len]
theorem tz{k:Int}{es:List SV}(h:byl es):byl (wrp k es):=
 byl.app (byl.app (byl.app (fun v hv=>⟨255,List.eq_of_mem_replicate hv,by decide,by decide⟩) (byl.be _ _)) (byl.be _ _)) h
theorem DU{k:Int}{es post:List SV}(hl:es.length<=4077):tkN (wrp k es++post) 16 2=19+es.length:=
 aW (pre:=ffs) (post:=be k 1++(es++post)) (by unfold wrp;simp only[aA]) rfl (by omega) (by omega)
theorem xJ{k:Int}{es post:List SV}(h0:0<=k)(h1:k < 256):dg (wrp k es++post) 18=k:=
 lG (pre:=ffs++be (19+(es.length:Int)) 2) (post:=es++post) (by unfold wrp;simp only[aA]) (by rw[lA0,ah,ffs_len]) h0 h1
theorem KA(k:Int)(es post:List SV):mkd ((wrp k es++post).take 16)=true:=by kernel_rfl
theorem zw{k:Int}{es post:List SV}(h0:1<=k)(h1:k<=5)(hl:es.length<=4077):hdP (wrp k es++post)=(19+(es.length:Int),0):=by
 have hw:=oS k es
 unfold hdP
 rw[DU hl,xJ (by omega) (by omega),KA,dF0 (by rw[lA0];omega),dF0 (show ¬ (19+(es.length:Int)) < 19 by omega),dF0 (show ¬ (19+(es.length:Int)) > 4096 by omega),dF0 (show ¬ k < 1 by omega),dF0 (show ¬ k > 5 by omega),dF0 (by rw[lA0];omega)]
 rfl
theorem DV(k:Int)(es post:List SV):sl (wrp k es++post) 19 ((19+(es.length:Int)).toNat - 19)=es:=by
 have hd:(wrp k es++post).drop 19=es++post:=by kernel_rfl
 unfold sl
 rw[hd,show(19+(es.length:Int)).toNat - 19=es.length by omega,List.take_left']
 rfl
theorem GM{m:Mg}(h:EnOk m)(pre post rs:List SV):spL (pre++(enM m++post)) pre.length rs=spL (pre++(enM m++post)) (pre++enM m).length (rs++[mgV m]):=by
 obtain⟨m',h1,h2⟩:=h.rd
 have hk0:=h.k0;have hk1:=h.k1
 rw[gg,List.drop_left']
 . unfold enM
   rw[zw h.k0 h.k1 h.bl]
   simp only[]
   rw[show((0:Int)!=0)=false from rfl,cF,show((19+((bdM m).length:Int))==0)=false by rw[beq_eq_false_iff_ne];omega,cF,xJ (by omega) (by omega),DV,h1]
   simp only[]
   rw[show((0:Int)!=0)=false from rfl,cF,h2,lA0,oS,show(19+((bdM m).length:Int)).toNat=19+(bdM m).length by omega]
 . rfl
theorem DW{k:Int}{es:List SV}(h0:1<=k)(h1:k<=5)(hl:es.length<=4077){c:Nat}(hc:c < (wrp k es).length):hdP ((wrp k es).take c)=(0,0):=by
 rcases DH (wrp k es) c with ⟨h2,h3⟩ | h
 . exact Prod.ext h3 h2
 . have hw:=oS k es
   have hf:=zw (post:=[]) h0 h1 hl
   rw[List.append_nil]at hf
   rw[hf]at h
   have hcs:=ei ((wrp k es).take c) (by rw[h])
   rw[h,List.length_take]at hcs
   simp only[]at hcs
   omega
theorem DX{k:Int}{es:List SV}(h0:1<=k)(h1:k<=5)(hl:es.length<=4077){c:Nat}(hc:c < (wrp k es).length)(pre rs:List SV):spL (pre++(wrp k es).take c) pre.length rs=(0,pre.length,rs):=by
 rw[gg,List.drop_left']
 . rw[DW h0 h1 hl hc];rfl
 . rfl
theorem GN(pre rs:List SV):spL pre pre.length rs=(0,pre.length,rs):=by
 rw[gg,List.drop_length,ni (by decide)];rfl
def mj(m:Mg):Bool:=bif bif(bif bif decide ((m.d.path.length:Int)<=40)then decide ((m.d.cl.length:Int)<=20)else false then decide ((m.d.cm.length:Int)<=80)else false)then decide ((m.d.rch.length:Int)<=40)else false then decide ((m.d.unr.length:Int)<=40)else false
theorem MY(m:Mg):opn (tbl []) Tryz.f14 [mgV m] []= .ret (.bool (mj m)) []:=by kernel_rfl
noncomputable abbrev DD:ag:=rh fun m=>.ret (.bool (mj m)) []
theorem HY:Known Tryz.prog 14 DD:=(aj ok0 Tryz.func14 rfl).weak (by
 intro args H v ups h
 obtain⟨m,rfl,rfl,h'⟩:=eh h
 exact(congrArg ae (MY m)).trans h')
noncomputable abbrev DE:ag:=rh fun m=>.ite (dec (MOk m)) (.ret (.int .i64 (erM m)) []) .fail
theorem Ku(m:Mg):opn (tbl [(13,yc)]) Tryz.f15 [mgV m] []=bif dec (MOk m)then bif erM m !=0 then .ret (.int .i64 (erM m)) []else .ret (.int .i64 0) []else .fail:=by kernel_rfl
theorem Kv:Known Tryz.prog 15 DE:=(aj (ac byG_k ok0) Tryz.func15 rfl).weak (by
 intro args H v ups h
 obtain⟨m,rfl,rfl,h'⟩:=eh h
 refine(congrArg ae (Ku m)).trans ?_
 rw[aa]at h'
 cases hc:dec (MOk m)with
 | false=>rw[hc]at h';cases h'
 | true=>
  rw[hc,cT]at h'
  rw[cT]
  cases he:erM m !=0 with
  | true=>exact h'
  | false=>
   have:erM m=0:=by simpa using he
   rw[this]at h'
   exact h')
noncomputable def HZ:Code:=Tryz.f6.body.getD .skip
noncomputable def c6b:Code:=(bx 8 HZ).getD .skip
def bkF:Nat->List SV->Nat->List SV->List SV->Option (List SV × List SV)
 | 0,_,_,A,W=>some (A,W)
 | f+1,ls,i,A,W=>bif !mj (dB (ls.getD i .junk))then none else bif erM (dB (ls.getD i .junk))!=0 then bkF f ls (i+1) A W else bkF f ls (i+1) (A++enM (dB (ls.getD i .junk))) (W++[mgV (dB (ls.getD i .junk))])
structure MInF (asn id:Int) (d:Ds):Prop where
 a0:0<=asn
 a1:asn < 4294967296
 i0:0<=id
 i1:id < 4294967296
 inn:In (atG d) d.rch d.unr
abbrev MIn(m:Mg):Prop:=MInF m.s.asn m.s.id m.d
structure BkI (ls A W:List SV) (n k:Nat) (i:Int):Prop where
 hn:n=A.length
 hk:k=W.length
 l12:ls.length<=12
 i0:0<=i
 i1:i<=ls.length
 al:A.length<=4096 * i.toNat
 wl:W.length<=i.toNat
 inn:∀ j,j < ls.length->MIn (dB (ls.getD j .junk))
def bkA(ls:List SV)(n k:Nat)(i:Int):List SV:=[.psl 52 ls,.qs 0 1 0 n,.qs 1 25 0 k,.int .i64 i]
def bkH(A W:List SV):HpL:=[(0,.seq 5 A),(1,.seq 52 W)]
noncomputable def AU:ag:=fun args H=>match args,H with
 | [.psl 52 ls,.qs 0 1 0 n,.qs 1 25 0 k,.int .i64 i],[(0,.seq 5 A),(1,.seq 52 W)]=>.ite (dec (BkI ls A W n k i)) (.ite (bkF (ls.length - i.toNat) ls i.toNat A W).isSome
   (.ret (.tup [.int .i64 2,.junk,.qs 2 1 0 ((bkF (ls.length - i.toNat) ls i.toNat A W).getD ([],[])).1.length,.qs 3 25 0 ((bkF (ls.length - i.toNat) ls i.toNat A W).getD ([],[])).2.length])
    [(0,none),(1,none),(2,some (.seq 5 ((bkF (ls.length - i.toNat) ls i.toNat A W).getD ([],[])).1)),(3,some (.seq 52 ((bkF (ls.length - i.toNat) ls i.toNat A W).getD ([],[])).2))])
   (.ret (.tup [.int .i64 1,.bool true,.junk,.junk]) [(0,none),(1,none)])) .fail
 | _,_=>.fail
def bkM:List SV->HpL->Nat
 | [.psl _ ls,_,_,.int _ i],_=>ls.length - i.toNat
 | _,_=>0
noncomputable def e6b:LEnt:={ins:=[0,7,8,9],outs:=[6,7,8],keep:=[2,4],size:=168,code:=c6b,s:=AU}
noncomputable abbrev κbm:=tbl [(13,yc),(14,DD),(15,DE)]
theorem Ok:KOk Tryz.prog κbm:=ac byG_k (ac HY (ac Kv ok0))
noncomputable abbrev κb6:=bt Tryz.prog κbm 300 5
noncomputable abbrev ιb6:Nat->Bool:=fun g=>inl κbm g&&bJ Tryz.prog g
noncomputable def bkN(N:Nat)(p q:Nat)(ls A W:List SV)(n k:Nat)(i:Int):CTree:=
 bif Nat.blt (ls.length - i.toNat) N then bif dec (BkI ls A W n k i)then bif(bkF (ls.length - i.toNat) ls i.toNat A W).isSome then
   (.ret (.tup [.int .i64 2,.junk,.qs 2 1 0 ((bkF (ls.length - i.toNat) ls i.toNat A W).getD ([],[])).1.length,.qs 3 25 0 ((bkF (ls.length - i.toNat) ls i.toNat A W).getD ([],[])).2.length])
    [(p,none),(q,none),(2,some (.seq 5 ((bkF (ls.length - i.toNat) ls i.toNat A W).getD ([],[])).1)),(3,some (.seq 52 ((bkF (ls.length - i.toNat) ls i.toNat A W).getD ([],[])).2))])
   else(.ret (.tup [.int .i64 1,.bool true,.junk,.junk]) [(p,none),(q,none)])else .fail else .fail
def bkS(n k:Nat)(b:Bool):CTree:=.ret (.tup [.int .i64 1,.bool b,.qs 0 1 0 n,.qs 1 25 0 k]) []
noncomputable def bkP(N:Nat)(ls A W:List SV)(n k:Nat)(i:Int)(E:List SV)(x:SV):CTree:=
 bif decide (n=A.length)then elC 0 E.length E fun news=>bif ri (A.length+news.length)then bif inB i ls.length then bif decide (k=W.length)then bif I8 (W.length+1)then
  bkN N 1 0 ls (A++news) (W++[x]) (A.length+news.length) (W.length+1) (w64 (i+1))else .fail else .fail else .fail else .fail else .fail
noncomputable def bkG(N:Nat)(ls A W:List SV)(n k:Nat)(i:Int)(E:List SV)(m:Mg):CTree:=
 bif decide ((E.length:Int) < 19)then bkS n k false else bif decide ((E.length:Int) > 4096)then bkS n k false else
 bif inB 16 E.length then bif decide (16 < E.length)then bif inB 17 E.length then bif decide (17 < E.length)then bif(w64 (w64 (w64 (dg E 16) * 256)+w64 (dg E 17))!=(E.length:Int))then bkS n k false else
 bif inB 18 E.length then bif decide (18 < E.length)then bif inB i ls.length then bif w64 (dg E 18)!=m.k then bkS n k false else bkP N ls A W n k i E (mgV m)else .fail else .fail else .fail else .fail else .fail else .fail else .fail
noncomputable def bkX(N:Nat)(ls A W:List SV)(n k:Nat)(i:Int)(m:Mg):CTree:=bif erM m==0 then bkS n k false else bkN N 1 0 ls A W n k (w64 (i+1))
theorem Oj(N:Nat)(ls A W:List SV)(n k:Nat)(i:Int):ay Tryz.prog κb6 ιb6 (aL []) true 300 e6b {e6b with s:=az bkM AU N} c6b (bkA ls n k i) (bkH A W)=
 bif decide (i < ls.length)then bif inB i ls.length then(fun m:Mg=>bif !mj m then bkS n k true else bif inB i ls.length then bif dec (MOk m)then
  bif erM m !=0 then
   (bif inB i ls.length then bif dec (MOk m)then(bif erM m !=erM m then bkS n k false else bif erM m !=0 then bkX N ls A W n k i m else bkX N ls A W n k i m)else .fail else .fail)
  else(bif inB i ls.length then bif dec (MOk m)then bif 0 !=erM m then bkS n k false else bkG N ls A W n k i (enM m) m else .fail else .fail)
  else .fail else .fail) (dB (ls.getD i.toNat .junk))else .fail else .ret (.tup [.int .i64 2,.junk,.qs 0 1 0 n,.qs 1 25 0 k]) []:=by kernel_rfl
end Go.Proofs.YtnlmhpancboddaaGreat
