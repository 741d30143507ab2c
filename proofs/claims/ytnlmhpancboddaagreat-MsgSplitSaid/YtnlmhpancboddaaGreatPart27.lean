/- The reference reads attributes: the loop is valid. -/
import Derived.Test.YtnlmhpancboddaaGreatPart26
import Derived.Test.YtnlmhpancboddaaGreatPart25
import Derived.Test.YtnlmhpancboddaaGreatPart18
import Derived.Test.YtnlmhpancboddaaGreatPart22
set_option linter.unusedVariables false
set_option linter.unusedSimpArgs false
namespace Go.Proofs.YtnlmhpancboddaaGreat
open Go.Am
set_option maxRecDepth 100000
theorem stF_cn{f:Nat->Bool}{g:Int}(hg:knC g=true)(hf:cnF f=f):cnF(stF f g)=stF f g:=by
 refine cnF_id(fun i hi=> ?_)
 unfold stF
 have h1:Nat.beq i g.toNat=false:=by
  refine nb_f ?_
  rcases knC_of hg with rfl | rfl | rfl | rfl | rfl | rfl | rfl | rfl | rfl | rfl
  all_goals(intro e;omega)
 rw[h1,cF]
 have:=congrFun hf i
 rw[<- this]
 unfold cnF mtF
 rw[gD0,List.getElem?_eq_none(by rw[mtL_len];omega)];rfl
theorem oInv_next{z:Dz}{f:Nat->Bool}{g:Int}(v:List SV)(hg:knC g=true)(h:oInv z f):oInv(gC g v z)(stF f g):=by
 obtain⟨h1,h2,h3,h4⟩:=h
 have hs:∀ k:Nat,stF f g k=bif Nat.beq k g.toNat then true else f k:=fun _=>rfl
 refine⟨gC_nz hg v h1,fun hh=> ?_,fun hh=> ?_,fun hh=> ?_⟩
 . by_cases hk:g=2
   . subst hk;cases hh
   . have e1:(g==2)=false:=by simpa using hk
     have e2:Nat.beq 2 g.toNat=false:=nb_f(by omega)
     rw[hs,e2]at hh
     simp only[gC,e1,cF];exact h2 hh
 . by_cases hk:g=10
   . subst hk;cases hh
   . have e1:(g==10)=false:=by simpa using hk
     have e2:Nat.beq 10 g.toNat=false:=nb_f(by omega)
     rw[hs,e2]at hh
     simp only[gC,e1,cF];exact h3 hh
 . by_cases hk:g=16
   . subst hk;cases hh
   . have e1:(g==16)=false:=by simpa using hk
     have e2:Nat.beq 16 g.toNat=false:=nb_f(by omega)
     rw[hs,e2]at hh
     simp only[gC,e1,cF];exact h4 hh
theorem p3a{h:HpF}{a b c:Option Chunk}:∀ x,updF [(1,a),(0,b),(2,c)]h x=updF [(0,b),(1,a),(2,c)]h x:=by
 intro x
 simp only[updF]
 by_cases h2:x=2
 . simp only[h2,if_true]
 . by_cases h1:x=1
   . subst h1;rfl
   . simp only[h2,h1,if_false]
theorem p3b{h:HpF}{a b c:Option Chunk}:∀ x,updF [(1,a),(0,b),(2,c)]h x=updF [(2,c),(0,b),(1,a)]h x:=by
 intro x
 simp only[updF]
 by_cases h2:x=2
 . subst h2;rfl
 . by_cases h1:x=1
   . subst h1;rfl
   . simp only[h2,h1,if_false]
theorem told_cut{H:HpL}{p:List SV}{e a:Int}:ToldL Tryz.prog H(qV 1 p) [(1,some(qF e a)),(0,some aZc)] (qV 1 p) [(1,some(qF e a)),(0,some aZc),(2,none)]:=by
 refine⟨1,_,_,rfl,rfl,.rfl',fun x c' hx=>⟨c',?_,.rfl'⟩⟩
 simp only[updF]at hx ⊢
 by_cases h2:x=2
 . rw[if_pos h2]at hx;cases hx
 . rw[if_neg h2]at hx;exact hx
section
variable{N a:Nat}{p:List SV}{pb cb mb:Bool}{d:Ds}{f:Nat->Bool}{v':SV}{ups':List(Nat × Option Chunk)}
variable(hm:qInv p(a:Int)⟨pb,cb,mb,d⟩f)(hN:p.length - a < N+1)(h:crun(qEnd p(attM p p.length a 0 f⟨pb,cb,mb,d⟩))=some(v',ups'))
theorem qbad{er at':Int}{s:Nat->Bool}{z:Dz}(he:(er==0)=false)(h:crun(qEnd p(er,at',s,z))=some(v',ups')):v'=qV 1 p/\ups'=[(1,some(qF er at')),(0,some aZc),(2,none)]:=by
 unfold qEnd at h
 rw[crun_ite]at h
 simp only[he,cF]at h
 cases h;exact⟨rfl,rfl⟩
theorem qK_goes{o:Int × Int × (Nat->Bool) × Dz}{H:HpL}(h:crun(qEnd p o)=some(v',ups')):Goes H(qK p o)v' ups':=by
 refine .inl ?_
 unfold qEnd at h
 rw[crun_ite]at h
 unfold qK
 cases ho:o.1==0 with
 | true=>rw[ho]at h;cases h;exact⟨_,rfl,fun _=>rfl⟩
 | false=>rw[ho]at h;cases h;exact⟨_,rfl,p3a⟩
theorem qKu_goes{o:Int × Int × (Nat->Bool) × Dz}{H:HpL}(h:crun(qEnd p o)=some(v',ups')):Goes H(qKu p o)v' ups':=by
 refine .inl ?_
 unfold qEnd at h
 rw[crun_ite]at h
 unfold qKu
 cases ho:o.1==0 with
 | true=>rw[ho]at h;cases h;exact⟨_,rfl,fun _=>rfl⟩
 | false=>rw[ho]at h;cases h;exact⟨_,rfl,p3b⟩
theorem qNx_ok{b:Nat}{z:Dz}{K:Int × Int × (Nat->Bool) × Dz->CTree}(hN:p.length - b < N)(hm:qInv p(b:Int)z f):qNx N p(b:Int)z f K=K(attM p p.length b 0 f z):=by
 have h1:=hm.1.1
 have h2:=hm.2.1
 unfold qNx
 rw[h1,h2,show Nat.blt(p.length - ((b:Int)).toNat)N=true by rw[bL];exact hN,dec_iff.2⟨rfl,hm⟩];rfl
include hm hN h
theorem qgoes_u(hlt:a < p.length)(hx:¬ okN p a p.length\/knC(cdOf p a)=false):Goes(qH(rZ⟨pb,cb,mb,d⟩f))(qOnce N ou_s(qAr p a)(qH(rZ⟨pb,cb,mb,d⟩f)))v' ups':=by
 obtain⟨h1,h2,h3,h4,h5,h6⟩:=hm
 have hrd:=q_u N p a pb cb mb d f
 by_cases ho:okN p a p.length
 . have hk:knC(cdOf p a)=false:=by rcases hx with hx | hx;exact absurd ho hx;exact hx
   rw[qRd_ok h3 h4 hlt ho]at hrd
   have hE:vE p a<=p.length:=ho.2
   have hE3:a+3<=vE p a:=by have:=hdN_ge(es:=p)(a:=a);unfold vE;omega
   have w1:w64((a:Int)+1)=((a+1:Nat):Int):=by rw[show w64((a:Int)+1)=(a:Int)+1 from w64_id(by omega)(by omega)];omega
   obtain⟨b0,b1⟩:=h3.ok a
   unfold qOu at hrd
   rw[w1]at hrd
   rw[dec_iff.2⟨by show _=[(0,rZ(nZ⟨pb,cb,mb,d⟩)(cnF f))];rw[h1.1,h2],hk,b0,b1⟩,cT]at hrd
   rw[hrd]
   clear hrd
   rw[show((a:Int)).toNat=a from rfl]
   cases hf:andI .u8(dg p a)128==0 with
   | true=>
    rw[attM,attL_u17 hlt ho hk hf]at h
    obtain⟨rfl,rfl⟩:=qbad(by decide)h
    exact .inl⟨_,rfl,fun _=>rfl⟩
   | false=>
    rw[attM,attL_unk hlt ho hk hf]at h
    rw[cF,qNx_ok(by omega)⟨h1,h2,h3,h4,by omega,by omega⟩]
    exact qKu_goes(by rw[qEnd_any 0(a:Int)];exact h)
 . rw[qRd_cut h3 h4 hlt ho]at hrd
   rw[attM,attL_cut hlt ho]at h
   obtain⟨rfl,rfl⟩:=qbad(by decide)h
   rw[hrd]
   exact .inr(.inr⟨_,_,rfl,told_cut⟩)
theorem qgoes_k{g:Int}(hlt:a < p.length)(ho:okN p a p.length)(hg:cdOf p a=g)(hk:knC g=true)(hrd:qOnce N(on_s g)(qAr p a)(qH(rZ⟨pb,cb,mb,d⟩f))=qRd p a(qOn N g p a⟨pb,cb,mb,d⟩f)):
  Goes(qH(rZ⟨pb,cb,mb,d⟩f))(qOnce N(on_s g)(qAr p a)(qH(rZ⟨pb,cb,mb,d⟩f)))v' ups':=by
 obtain⟨h1,h2,h3,h4,h5,h6⟩:=hm
 rw[qRd_ok h3 h4 hlt ho]at hrd
 have hE:vE p a<=p.length:=ho.2
 have hE3:a+3<=vE p a:=by have:=hdN_ge(es:=p)(a:=a);unfold vE;omega
 have w1:w64((a:Int)+1)=((a+1:Nat):Int):=by rw[show w64((a:Int)+1)=(a:Int)+1 from w64_id(by omega)(by omega)];omega
 obtain⟨b0,b1⟩:=h3.ok a
 have hv:byl(vl p(vS p a)(vE p a)):=h3.sl _ _
 have hvl:(vl p(vS p a)(vE p a)).length<=5000:=by unfold vl sl;rw[List.length_take];omega
 unfold qOn at hrd
 have hz:nZ⟨pb,cb,mb,d⟩=⟨pb,cb,mb,d⟩:=h1.1
 rw[w1,hz,h2]at hrd
 rw[dec_iff.2⟨rfl,hg,hk,h1,hv,hvl,b0,b1⟩,cT]at hrd
 rw[hrd]
 clear hrd
 subst hg
 rw[show((a:Int)).toNat=a from rfl]
 unfold oneE
 cases hf:fitC(cdOf p a)(dg p a)with
 | false=>
  rw[attM,attL_fit hlt ho hk hf]at h
  obtain⟨rfl,rfl⟩:=qbad(by decide)h
  exact .inl⟨_,rfl,fun _=>rfl⟩
 | true=>
  rw[cT]
  cases hlk:f(cdOf p a).toNat with
  | true=>
   rw[attM,attL_dbl hlt ho hk hf hlk]at h
   obtain⟨rfl,rfl⟩:=qbad(by decide)h
   exact .inl⟨_,rfl,fun _=>rfl⟩
  | false=>
   rw[cF]
   cases hokc:okC(cdOf p a)(vl p(vS p a)(vE p a))with
   | false=>
    rw[attM,attL_bad hlt ho hk hf hlk hokc]at h
    obtain⟨rfl,rfl⟩:=qbad(by decide)h
    exact .inl⟨_,rfl,fun _=>rfl⟩
   | true=>
    rw[attM,attL_go hlt ho hk hf hlk hokc]at h
    rw[cT,show((0:Int)==0)=true from rfl,cT,qNx_ok(by omega)⟨oInv_next _ hk h1,stF_cn hk h2,h3,h4,by omega,by omega⟩]
    exact qK_goes(by rw[qEnd_any 0(a:Int)];exact h)
end
theorem q_valid:ValidL Tryz.prog e10:=loop_valid3(T:=ltab [])(sp:=true)(fuel:=300)(c:=c10)(μ:=qM)mixTry ltab_nil(show fillC(ltab [])c10=c10 by kernel_rfl)(by
 intro N args H v' ups' hbt h
 unfold e10 q_s at h
 simp only[]at h
 split at h
 . rename_i p a y0 y1 cs
   split at h
   . rename_i pb cb mb d f hd
     rw[crun_ite]at h
     cases hc:dec _ with
     | false=>rw[hc]at h;cases h
     | true=>
      rw[hc,cT]at h
      obtain⟨hH,hm⟩:=dec_iff.1 hc
      rw[hH]at hbt ⊢
      obtain⟨b,rfl⟩:=Int.eq_ofNat_of_zero_le hm.2.2.2.2.1
      have hN:p.length - b < N+1:=by
       have:Nat.blt(p.length - b)(N+1)=true:=hbt
       rwa [bL]at this
      rw[show((b:Int)).toNat=b from rfl]at h
      by_cases hlt:b < p.length
      . by_cases ho:okN p b p.length
        . cases hk:knC(cdOf p b)with
          | false=>exact⟨κq1 ou_s,ιq1,q1Ok ou_k,qgoes_u hm hN h hlt(.inr hk)⟩
          | true=>
           refine⟨κq1(on_s(cdOf p b)),ιq1,q1Ok(on_k _),?_⟩
           rcases knC_of hk with hg | hg | hg | hg | hg | hg | hg | hg | hg | hg
           . rw[hg];exact qgoes_k hm hN h hlt ho hg rfl(q_1 ..)
           . rw[hg];exact qgoes_k hm hN h hlt ho hg rfl(q_2 ..)
           . rw[hg];exact qgoes_k hm hN h hlt ho hg rfl(q_4 ..)
           . rw[hg];exact qgoes_k hm hN h hlt ho hg rfl(q_5 ..)
           . rw[hg];exact qgoes_k hm hN h hlt ho hg rfl(q_9 ..)
           . rw[hg];exact qgoes_k hm hN h hlt ho hg rfl(q_10 ..)
           . rw[hg];exact qgoes_k hm hN h hlt ho hg rfl(q_14 ..)
           . rw[hg];exact qgoes_k hm hN h hlt ho hg rfl(q_15 ..)
           . rw[hg];exact qgoes_k hm hN h hlt ho hg rfl(q_16 ..)
           . rw[hg];exact qgoes_k hm hN h hlt ho hg rfl(q_22 ..)
        . exact⟨κq1 ou_s,ιq1,q1Ok ou_k,qgoes_u hm hN h hlt(.inl ho)⟩
      . obtain⟨h1,h2,h3,h4,h5,h6⟩:=hm
        have hx:=q_u N p b pb cb mb d f
        rw[qRd_end hlt]at hx
        rw[attM,attL_end hlt]at h
        unfold qEnd at h
        rw[crun_ite]at h
        cases h
        refine⟨κq1 ou_s,ιq1,q1Ok ou_k,.inr(.inr⟨_,_,congrArg crun hx,2,_,_,rfl,rfl,.rfl',fun x c' hx=> ?_⟩)⟩
        simp only[updF]at hx
        by_cases x2:x=2
        . subst x2;rw[if_pos rfl]at hx;cases hx
          obtain⟨g1,g2,g3⟩:=nZ_iff.1 h1.1
          exact⟨_,rfl,.cells(co_app(.cons .rfl'(.cons(co_nz g1)(.cons .rfl'(.cons .rfl'(.cons .rfl'(.cons .rfl'(.cons .rfl'(.cons .rfl'(.cons .rfl'(.cons(co_nz g2)(.cons(co_nz g3) .rfl'))))))))))))⟩
        . rw[if_neg x2]at hx;exact⟨c',hx,.rfl'⟩
   . cases h
 . cases h)
end Go.Proofs.YtnlmhpancboddaaGreat
namespace Go.Proofs.YtnlmhpancboddaaGreat
open Go.Am
set_option maxRecDepth 100000
def f0:Nat->Bool:=fun _=>false
def rI:Chunk:=.cells 129([.int .i64 0,.nils,.int .u32 0,.bool false,.int .u32 0,.bool false,.int .u32 0,.bool false,.int .u32 0,.nils,.nils,.int .i64 0,.int .u32 0,.int .u32 0,.int .u32 0,.nils,.nils]++mtL f0 256 0)
noncomputable def qi_s:CSumm:=fun args H=>match args with
 | [.psl 5 p,.ptr 0 0,.nils,.nils,.ptr 1 0,.ptr 2 0,.int .i64 0]=>.ite(dec(H=qH rI/\byl p/\p.length<=5000))(qEnd p(attM p p.length 0 0 f0 zI)) .fail
 | _=>.fail
theorem qInv0{p:List SV}(h1:byl p)(h2:p.length<=5000):qInv p 0 zI f0:=⟨⟨rfl,fun _=>rfl,fun _=>rfl,fun _=>rfl⟩,cnF_id(fun _ _=>rfl),h1,h2,by omega,by omega⟩
theorem q_start{p:List SV}(h1:byl p)(h2:p.length<=5000):crun(q_s(qAr p 0)(qH(rZ zI f0)))=crun(qEnd p(attM p p.length 0 0 f0 zI)):=by
 have hcn:mtF(mtL f0 256 0)=f0:=cnF_id(fun _ _=>rfl)
 show crun(.ite(dec(qH(rZ zI f0)=qH(rZ⟨true,true,true,dI0⟩(mtF(mtL f0 256 0)))/\qInv p 0⟨true,true,true,dI0⟩(mtF(mtL f0 256 0))))(qEnd p(attM p p.length 0 0(mtF(mtL f0 256 0))⟨true,true,true,dI0⟩)) .fail)=_
 rw[hcn,crun_ite,dec_iff.2⟨rfl,qInv0 h1 h2⟩];rfl
theorem canon_qH{c:Chunk}:Canon(qH c):=fun i p h=>by
 have:=canonB_spec(qH c)0 rfl i p h
 omega
theorem qH_get{c:Chunk}{x:Nat}(h:x≠2)(c':Chunk):(qH c).get x=(qH c').get x:=by
 simp only[qH,HpL.get]
 rw[show Nat.beq 2 x=false from nb_f(fun e=>h e.symm)]
 rfl
theorem qi_valid:ValidL Tryz.prog{e10 with s:=qi_s}:=loop_from q_valid(by
 intro args H v ups h hcan
 unfold qi_s at h
 split at h
 . rename_i p
   rw[crun_ite]at h
   cases hc:dec _ with
   | false=>rw[hc]at h;cases h
   | true=>
    rw[hc,cT]at h
    obtain⟨hH,h1,h2⟩:=dec_iff.1 hc
    rw[hH]at hcan ⊢
    refine⟨qAr p 0,qH(rZ zI f0),ups,(q_start h1 h2).trans h,⟨.rfl',canon_qH,rfl,fun x c hx=> ?_,fun x c2 hx=> ?_⟩,fun x=> ?_⟩
    . by_cases h7:x=2
      . subst h7;cases hx
        exact⟨_,rfl,.cells(co_app(.cons .rfl'(.cons .rfl'(.cons .rfl'(.cons .rfl'(.cons .rfl'(.cons .rfl'(.cons .rfl'(.cons .rfl'(.cons .rfl'(.cons .rfl'(.cons .rfl'(.cons .rfl'(.cons .rfl'(.cons .rfl'(.cons .rfl'(.cons .nils(.cons .nils .rfl'))))))))))))))))))⟩
      . exact⟨c,by rw[qH_get h7 rI];exact hx,.rfl'⟩
    . by_cases h7:x=2
      . subst h7;exact⟨_,rfl⟩
      . exact⟨c2,by rw[qH_get h7(rZ zI f0)];exact hx⟩
    . have h7:∀ (f g:HpF),(∀ y,y≠2->f y=g y)->updF ups f x=updF ups g x:=by
        intro f g hfg
        unfold qEnd at h
        rw[crun_ite]at h
        cases ho:(attM p p.length 0 0 f0 zI).1==0 with
        | true=>
         rw[ho]at h;cases h
         simp only[updF]
         by_cases x7:x=2
         . subst x7;rfl
         . rw[hfg x x7]
        | false=>
         rw[ho]at h;cases h
         simp only[updF]
         by_cases x7:x=2
         . subst x7;rfl
         . rw[hfg x x7]
      exact h7 _ _(fun y hy=>qH_get hy _)
 . cases h)
noncomputable abbrev T10:LTab:=ltab [("q",{e10 with s:=qi_s})]
noncomputable abbrev m10:Code:=markC [(3, "q")]body10
noncomputable def rr_b:CSumm:=bodyCL Tryz.prog(κq1 no_s)ιq1 T10 true 300 Tryz.f35 m10
theorem no28:Known Tryz.prog 57 no_s:=ou_k.weak(fun _ _ _ _ h=>by cases h)
theorem rr_k0:Known Tryz.prog 35 rr_b:=⟨⟨Tryz.f35,Tryz.func35,noNum_at noNumTry Tryz.func35,rfl⟩,bodyL_valid(q1Ok no28)mixTry(ltab_cons qi_valid ltab_nil)Tryz.func35(show Tryz.f35.body=some(fillC T10 m10)by kernel_rfl)⟩
noncomputable def rrK(p:List SV)(o:Int × Int × (Nat->Bool) × Dz):CTree:=
 bif o.1==0 then bif !(o.2.2.1 14)then .ret(.tup [aI,.nils,.psl 88 o.2.2.2.d.unr,.agg [.int .i64 0,.int .i64 0]]) []else
  bif !(o.2.2.1 1)then fltR 17 p.length else bif !(o.2.2.1 2)then fltR 17 p.length else .ret(.tup [aD o.2.2.2.d,.psl 88 o.2.2.2.d.rch,.psl 88 o.2.2.2.d.unr,.agg [.int .i64 0,.int .i64 0]]) []
 else fltR o.1 o.2.1
theorem rr_t(p:List SV):rr_b [.psl 5 p] []=
 bif dec(qH rI=qH rI/\byl p/\p.length<=5000)then rrK p(attM p p.length 0 0 f0 zI)else .fail:=by kernel_rfl
noncomputable def aref_s:CSumm:=fun args H=>match args,H with
 | [.psl 5 p],[]=>.ite(dec(byl p/\p.length<=5000))(.ret(rdV(rdO lkF(attM p p.length 0 0 f0 zI)p.length)) []) .fail
 | _,_=>.fail
theorem aref_k:Known Tryz.prog 35 aref_s:=known_told rr_k0(by
 intro args H v' ups' h
 unfold aref_s at h
 split at h
 . rename_i p
   rw[crun_ite]at h
   cases hc:dec(byl p/\p.length<=5000)with
   | false=>rw[hc]at h;cases h
   | true=>
    rw[hc,cT]at h
    obtain⟨h1,h2⟩:=dec_iff.1 hc
    have ht:=rr_t p
    rw[dec_iff.2⟨rfl,h1,h2⟩,cT]at ht
    generalize attM p p.length 0 0 f0 zI=o at *
    have same:∀ {x:Nat}{c':Chunk},updF [] (HpL.get [])x=some c'->∃ c,updF [] (HpL.get [])x=some c/\CoC Tryz.prog x c c':=fun hx=>⟨_,hx,.rfl'⟩
    unfold rrK at ht
    unfold rdO at h
    have e14:lkF o.2.2.1 14=o.2.2.1 14:=rfl
    have e1:lkF o.2.2.1 1=o.2.2.1 1:=rfl
    have e2:lkF o.2.2.1 2=o.2.2.1 2:=rfl
    rw[e14,e1,e2]at h
    cases h0:o.1==0 with
    | true=>
     rw[h0,cT]at ht h
     cases h14:o.2.2.1 14 with
     | true=>
      rw[h14,Bool.not_true,cF]at ht
      rw[h14,cT]at h
      cases h1':o.2.2.1 1 with
      | true=>
       rw[h1']at ht h
       cases h2':o.2.2.1 2 with
       | true=>
        rw[h2']at ht h;cases h
        exact⟨_,_,congrArg crun ht,.inr⟨.rfl',fun x c' hx=>same hx⟩⟩
       | false=>
        rw[h2']at ht h;cases h
        exact⟨_,_,congrArg crun ht,.inr⟨.tup(.cons co_aI(.cons .nils(.cons .nils .rfl'))),fun x c' hx=>same hx⟩⟩
      | false=>
       rw[h1']at ht h;cases h
       exact⟨_,_,congrArg crun ht,.inr⟨.tup(.cons co_aI(.cons .nils(.cons .nils .rfl'))),fun x c' hx=>same hx⟩⟩
     | false=>
      rw[h14]at ht h
      cases h
      exact⟨_,_,congrArg crun ht,.inr⟨.tup(.cons co_aI(.cons .nils .rfl')),fun x c' hx=>same hx⟩⟩
    | false=>
     rw[h0,cF]at ht
     rw[h0]at h
     cases h
     exact⟨_,_,congrArg crun ht,.inr⟨.tup(.cons co_aI(.cons .nils(.cons .nils .rfl'))),fun x c' hx=>same hx⟩⟩
 . cases h)
theorem att_sim{es:List SV}{n:Nat}:∀ (m a:Nat)(x:Int)(kvs:List(Int × Bool))(f:Nat->Bool)(z:Dz),n - a<=m->(∀ g:Int,knC g=true->lookB kvs g=lkF f g)->
  (attK es n a x kvs z).1=(attM es n a x f z).1/\(attK es n a x kvs z).2.1=(attM es n a x f z).2.1/\(attK es n a x kvs z).2.2.2=(attM es n a x f z).2.2.2/\∀ g:Int,knC g=true->lookB(attK es n a x kvs z).2.2.1 g=lkF(attM es n a x f z).2.2.1 g
 | m,a,x,kvs,f,z,hm,hs=>by
  unfold attK attM
  by_cases hlt:a < n
  . by_cases ho:okN es a n
    . have hE3:a+3<=vE es a:=by have:=hdN_ge(es:=es)(a:=a);unfold vE;omega
      obtain⟨m',rfl⟩:∃ m',m=m'+1:=⟨m - 1,by omega⟩
      cases hk:knC(cdOf es a)with
      | false=>
       cases hf:andI .u8(dg es a)128==0 with
       | true=>rw[attL_u17 hlt ho hk hf,attL_u17 hlt ho hk hf];exact⟨rfl,rfl,rfl,hs⟩
       | false=>rw[attL_unk hlt ho hk hf,attL_unk hlt ho hk hf];exact att_sim m' _ _ _ _ _(by omega)hs
      | true=>
       have hl:=hs _ hk
       cases hf:fitC(cdOf es a)(dg es a)with
       | false=>rw[attL_fit hlt ho hk hf,attL_fit hlt ho hk hf];exact⟨rfl,rfl,rfl,hs⟩
       | true=>
        cases hlk:lookB kvs(cdOf es a)with
        | true=>rw[attL_dbl hlt ho hk hf hlk,attL_dbl hlt ho hk hf(hl ▸ hlk)];exact⟨rfl,rfl,rfl,hs⟩
        | false=>
         cases hv:okC(cdOf es a)(vl es(vS es a)(vE es a))with
         | false=>rw[attL_bad hlt ho hk hf hlk hv,attL_bad hlt ho hk hf(hl ▸ hlk)hv];exact⟨rfl,rfl,rfl,hs⟩
         | true=>
          rw[attL_go hlt ho hk hf hlk hv,attL_go hlt ho hk hf(hl ▸ hlk)hv]
          refine att_sim m' _ _ _ _ _(by omega)(fun g hg=> ?_)
          have e1:lookB(stK kvs(cdOf es a))g=bif g==cdOf es a then true else lookB kvs g:=lookB_set _ true kvs g
          have e2:lkF(stF f(cdOf es a))g=bif Nat.beq g.toNat(cdOf es a).toNat then true else lkF f g:=rfl
          rw[e1,e2,hs g hg]
          have pos:∀ k:Int,knC k=true->0 < k:=by
           intro k hk
           rcases knC_of hk with rfl | rfl | rfl | rfl | rfl | rfl | rfl | rfl | rfl | rfl <;> omega
          have p1:=pos g hg
          have p2:=pos _ hk
          by_cases he:g=cdOf es a
          . rw[<- he,show(g==g)=true by simp,show Nat.beq g.toNat g.toNat=true from nb_t rfl]
          . rw[show(g==cdOf es a)=false by simpa using he,show Nat.beq g.toNat(cdOf es a).toNat=false from nb_f(by omega)]
    . rw[attL_cut hlt ho,attL_cut hlt ho];exact⟨rfl,rfl,rfl,hs⟩
  . rw[attL_end hlt,attL_end hlt];exact⟨rfl,rfl,rfl,hs⟩
termination_by m=>m
theorem same_read(es:List SV):rdQ es es.length=rdO lkF(attM es es.length 0 0 f0 zI)es.length:=by
 obtain⟨h1,h2,h3,h4⟩:=att_sim(es:=es)(n:=es.length)es.length 0 0 []f0 zI(by omega)(fun _ _=>rfl)
 unfold rdQ rdO
 rw[h1,h2,h3,h4 14 rfl,h4 1 rfl,h4 2 rfl]
noncomputable abbrev κrm:=tbl [(18,y6_s),(34,ropen6_s),(35,aref_s)]
theorem rmOk:KOk Tryz.prog κrm:=tbl_cons y6_k(tbl_cons ropen6_k(tbl_cons aref_k ok0))
def mE(e:Int):CTree:=.ret(.tup [mgZ 0 cs0 0 0,.int .i64 e]) []
noncomputable def rmU(k:Int)(p:List SV):CTree:=
 bif decide((p.length:Int) < 4)then mE 3 else bif inB 0 p.length then bif dg p 0!=0 then mE 3 else bif inB 1 p.length then bif dg p 1!=0 then mE 3 else
 tkC6 p 2 2 fun sz=>bif w64 sz!=w64((p.length:Int) - 4)then mE 3 else slI p 4 p.length fun q=>bif dec(byl q/\q.length<=5000)then
  (fun o:Int × Int × Ds=>bif o.1!=0 then mE o.1 else .ret(.tup [mgV{mgD o.2.2 with k:=k},.int .i64 0]) [])(rdO lkF(attM q q.length 0 0 f0 zI)q.length)else .fail else .fail else .fail
noncomputable def rmD(k:Int)(p:List SV):CTree:=bif(p.length:Int)==4 then bif inB 0 p.length then bif dg p 0==0 then bif inB 1 p.length then bif dg p 1==25 then bif inB 3 p.length then
 (bif !(dg p 3==70)then mE 3 else .ret(.tup [mgZ k cs0 0 0,.int .i64 0]) [])else .fail else mE 3 else .fail else mE 3 else .fail else mE 3
theorem rm_t(k:Int)(p:List SV):opn κrm Tryz.f19 [.int .i64 k,.psl 5 p] []=
 bif k==1 then(bif dec(byl p/\p.length<=100000)then bif(roP p).2==0 then .ret(.tup [mgZ 1(roP p).1 0 0,.int .i64 0]) []else .ret(.tup [mgZ 0 cs0 0 0,.int .i64(roP p).2]) []else .fail)
 else bif k==2 then rmU k p else bif k==3 then bif decide((p.length:Int)>=2)then bif inB 0 p.length then bif inB 1 p.length then bif !(decide((p.length:Int)>=2))then mE 3 else .ret(.tup [mgZ k cs0(w64(dg p 0))(w64(dg p 1)),.int .i64 0]) []else .fail else .fail else bif !(decide((p.length:Int)>=2))then mE 3 else .ret(.tup [mgZ k cs0 0 0,.int .i64 0]) []
 else bif k==4 then(bif !((p.length:Int)==0)then mE 3 else .ret(.tup [mgZ k cs0 0 0,.int .i64 0]) [])else rmD k p:=by kernel_rfl
noncomputable def read6_s:CSumm:=fun args H=>match args,H with
 | [.int .i64 k,.psl 5 p],[]=>.ite(dec(1<=k/\k<=5/\byl p/\p.length<=5000))(mgR(mgV(rdP k p).1)(rdP k p).2) .fail
 | _,_=>.fail
theorem tk02{p:List SV}(hb:byl p):(tkN p 0 2=0)↔(dg p 0=0/\dg p 1=0):=by
 have e:tkN p 0 2=(0 * 256+dg p 0) * 256+dg p 1:=rfl
 obtain⟨a0,a1⟩:=hb.ok 0
 obtain⟨b0,b1⟩:=hb.ok 1
 rw[e];omega
theorem tk25{p:List SV}(hb:byl p):(tkN p 0 2=25)↔(dg p 0=0/\dg p 1=25):=by
 have e:tkN p 0 2=(0 * 256+dg p 0) * 256+dg p 1:=rfl
 obtain⟨a0,a1⟩:=hb.ok 0
 obtain⟨b0,b1⟩:=hb.ok 1
 rw[e];omega
theorem rmU_ok{p:List SV}(hb:byl p)(hl:p.length<=5000):rmU 2 p=bif !upB p then mE 3 else bif(rdQ(p.drop 4)(p.length - 4)).1!=0 then mE(rdQ(p.drop 4)(p.length - 4)).1 else mgR(mgV(mgD(rdQ(p.drop 4)(p.length - 4)).2.2))0:=by
 unfold rmU upB
 by_cases h4:p.length < 4
 . rw[dT0(show(p.length:Int) < 4 by omega),cT,dF(show ¬ 4<=p.length by omega)];rfl
 . rw[dF(show ¬ (p.length:Int) < 4 by omega),cF,inB_ok(by decide)(by omega),cT,dT0(show 4<=p.length by omega),Bool.true_and]
   have h0:=tk02 hb
   by_cases d0:dg p 0=0
   . rw[show(dg p 0!=0)=false by simpa using d0,cF,inB_ok(by decide)(by omega),cT]
     by_cases d1:dg p 1=0
     . obtain⟨t0,t1⟩:=tkN_rng hb.ok 2 2
       have k2:∀ K,tkC6 p 2 2 K=K(tkN p 2 2):=fun K=>by unfold tkC6;rw[dec_iff.2⟨hb,by omega,by decide,by omega,by decide⟩];rfl
       have hq:byl(p.drop 4):=hb.dropb 4
       have hql:(p.drop 4).length=p.length - 4:=List.length_drop
       rw[show(dg p 1!=0)=false by simpa using d1,cF,k2,dT0(h0.2⟨d0,d1⟩),Bool.true_and,show w64(tkN p 2 2)=tkN p 2 2 from w64_id(by omega)(by omega),show w64((p.length:Int) - 4)=(p.length:Int) - 4 from w64_id(by omega)(by omega)]
       by_cases c:tkN p 2 2=(p.length:Int) - 4
       . rw[show(tkN p 2 2!=(p.length:Int) - 4)=false by simpa using c,cF,dT0 c,slI_ok(a:=4)(b:=(p.length:Int))(i:=4)(j:=p.length)rfl rfl(by omega)(Nat.le_refl _),sl_end,dec_iff.2⟨hq,by omega⟩,cT,<- same_read,hql]
         rfl
       . rw[show(tkN p 2 2!=(p.length:Int) - 4)=true by simpa using c,dF c];rfl
     . rw[show(dg p 1!=0)=true by simpa using d1,dF(fun h=>d1(h0.1 h).2)];rfl
   . rw[show(dg p 0!=0)=true by simpa using d0,dF(fun h=>d0(h0.1 h).1)];rfl
theorem rmD_ok{p:List SV}(hb:byl p)(hl:p.length<=5000):rmD 5 p=bif(bif(bif decide(p.length≠4)then true else tkN p 0 2!=25)then true else dg p 3!=70)then mE 3 else mgR(mgY(mgK 5))0:=by
 unfold rmD
 have h0:=tk25 hb
 by_cases h4:p.length=4
 . rw[show((p.length:Int)==4)=true by rw[beq_iff_eq];omega,cT,inB_ok(by decide)(by omega),cT,dF(show ¬ p.length≠4 by simpa using h4),cF]
   by_cases d0:dg p 0=0
   . rw[show(dg p 0==0)=true by simpa using d0,cT,inB_ok(by decide)(by omega),cT]
     by_cases d1:dg p 1=25
     . rw[show(dg p 1==25)=true by simpa using d1,cT,inB_ok(by decide)(by omega),cT,show(tkN p 0 2!=25)=false by simpa using h0.2⟨d0,d1⟩,cF]
       rfl
     . rw[show(dg p 1==25)=false by simpa using d1,show(tkN p 0 2!=25)=true by simpa using fun h=>d1(h0.1 h).2];rfl
   . rw[show(dg p 0==0)=false by simpa using d0,show(tkN p 0 2!=25)=true by simpa using fun h=>d0(h0.1 h).1];rfl
 . rw[show((p.length:Int)==4)=false by rw[beq_eq_false_iff_ne];omega,dT0(show p.length≠4 from h4)];rfl
theorem read6_k:Known Tryz.prog 19 read6_s:=known_told(openKnown rmOk Tryz.func19 rfl)(by
 intro args H v' ups' h
 have same:∀ {H:HpL}{x:Nat}{c':Chunk},updF [] (HpL.get H)x=some c'->∃ c,updF [] (HpL.get H)x=some c/\CoC Tryz.prog x c c':=fun hx=>⟨_,hx,.rfl'⟩
 unfold read6_s at h
 split at h
 . rename_i k p
   rw[crun_ite]at h
   cases hc:dec(1<=k/\k<=5/\byl p/\p.length<=5000)with
   | false=>rw[hc]at h;cases h
   | true=>
    rw[hc,cT]at h
    obtain⟨k0,k1,hb,hl⟩:=dec_iff.1 hc
    have ht:=rm_t k p
    rcases(show k=1\/k=2\/k=3\/k=4\/k=5 by omega)with rfl | rfl | rfl | rfl | rfl
    . have hd:=rdP_d(k:=1)(by decide)p
      have hr:rdP 1 p=bif(roP p).2!=0 then(mg0,(roP p).2)else(⟨1,(roP p).1,0,0,dI0⟩,0):=rfl
      rw[show((1:Int)==1)=true from rfl,cT,dec_iff.2⟨hb,by omega⟩,cT]at ht
      rw[hr]at h hd
      cases he:(roP p).2==0 with
      | true=>
       rw[he,cT]at ht
       rw[show((roP p).2!=0)=false by unfold bne;rw[he];rfl,cF]at h
       cases h
       exact⟨_,_,congrArg crun ht,.inr⟨.tup(.cons(co_mgY(m:=⟨1,(roP p).1,0,0,dI0⟩)rfl) .rfl'),fun x c' hx=>same hx⟩⟩
      | false=>
       rw[he,cF]at ht
       rw[show((roP p).2!=0)=true by unfold bne;rw[he];rfl,cT]at h
       cases h
       exact⟨_,_,congrArg crun ht,.inr⟨.tup(.cons co_mg .rfl'),fun x c' hx=>same hx⟩⟩
    . have hr:rdP 2 p=upP p:=rfl
      rw[show((2:Int)==1)=false from rfl,cF,show((2:Int)==2)=true from rfl,cT,rmU_ok hb hl]at ht
      rw[hr]at h
      unfold upP at h
      cases hu: !upB p with
      | true=>rw[hu]at ht h;cases h;exact⟨_,_,congrArg crun ht,.inr⟨.tup(.cons co_mg .rfl'),fun x c' hx=>same hx⟩⟩
      | false=>
       rw[hu,cF]at ht h
       generalize rdQ(p.drop 4)(p.length - 4)=q at *
       cases hq:q.1!=0 with
       | true=>rw[hq]at ht h;cases h;exact⟨_,_,congrArg crun ht,.inr⟨.tup(.cons co_mg .rfl'),fun x c' hx=>same hx⟩⟩
       | false=>rw[hq]at ht h;cases h;exact⟨_,_,congrArg crun ht,.inr⟨.rfl',fun x c' hx=>same hx⟩⟩
    . have hr:rdP 3 p=bif decide(p.length < 2)then(mg0,3)else(⟨3,cs0,dg p 0,dg p 1,dI0⟩,0):=rfl
      rw[show((3:Int)==1)=false from rfl,cF,show((3:Int)==2)=false from rfl,cF,show((3:Int)==3)=true from rfl,cT]at ht
      rw[hr]at h
      by_cases hp:p.length < 2
      . rw[dF(show ¬ (p.length:Int)>=2 by omega)]at ht
        rw[dT0 hp]at h
        cases h
        exact⟨_,_,congrArg crun ht,.inr⟨.tup(.cons co_mg .rfl'),fun x c' hx=>same hx⟩⟩
      . obtain⟨a0,a1⟩:=hb.ok 0
        obtain⟨b0,b1⟩:=hb.ok 1
        rw[dT0(show(p.length:Int)>=2 by omega),cT,inB_ok(by decide)(by omega),cT,inB_ok(by decide)(by omega),cT,show w64(dg p 0)=dg p 0 from w64_id(by omega)(by omega),show w64(dg p 1)=dg p 1 from w64_id(by omega)(by omega)]at ht
        rw[dF hp]at h
        cases h
        exact⟨_,_,congrArg crun ht,.inr⟨.tup(.cons(co_mgY(m:=⟨3,cs0,dg p 0,dg p 1,dI0⟩)rfl) .rfl'),fun x c' hx=>same hx⟩⟩
    . have hr:rdP 4 p=bif decide(0 < p.length)then(mg0,3)else(mgK 4,0):=rfl
      rw[show((4:Int)==1)=false from rfl,cF,show((4:Int)==2)=false from rfl,cF,show((4:Int)==3)=false from rfl,cF,show((4:Int)==4)=true from rfl,cT]at ht
      rw[hr]at h
      by_cases hp:0 < p.length
      . rw[show((p.length:Int)==0)=false by rw[beq_eq_false_iff_ne];omega]at ht
        rw[dT0 hp]at h
        cases h
        exact⟨_,_,congrArg crun ht,.inr⟨.tup(.cons co_mg .rfl'),fun x c' hx=>same hx⟩⟩
      . rw[show((p.length:Int)==0)=true by rw[beq_iff_eq];omega]at ht
        rw[dF hp]at h
        cases h
        exact⟨_,_,congrArg crun ht,.inr⟨.tup(.cons(co_mgY(m:=mgK 4)rfl) .rfl'),fun x c' hx=>same hx⟩⟩
    . have hr:rdP 5 p=bif(bif(bif decide(p.length≠4)then true else tkN p 0 2!=25)then true else dg p 3!=70)then(mg0,3)else(mgK 5,0):=rfl
      rw[show((5:Int)==1)=false from rfl,cF,show((5:Int)==2)=false from rfl,cF,show((5:Int)==3)=false from rfl,cF,show((5:Int)==4)=false from rfl,cF,rmD_ok hb hl]at ht
      rw[hr]at h
      cases hq:(bif(bif decide(p.length≠4)then true else tkN p 0 2!=25)then true else dg p 3!=70)with
      | true=>rw[hq]at ht h;cases h;exact⟨_,_,congrArg crun ht,.inr⟨.tup(.cons co_mg .rfl'),fun x c' hx=>same hx⟩⟩
      | false=>rw[hq]at ht h;cases h;exact⟨_,_,congrArg crun ht,.inr⟨.tup(.cons(co_mgY(m:=mgK 5)rfl) .rfl'),fun x c' hx=>same hx⟩⟩
 . cases h)
noncomputable def body10r:Code:=Tryz.f10.body.getD .skip
noncomputable def c10r:Code:=(loopAt 3 body10r).getD .skip
def rsOk(b rs:List SV)(m:Nat)(a:Int):Prop:=byl b/\b.length<=9000/\m=rs.length/\0<=a/\a<=b.length/\rs.length<=a
def rsA(b:List SV)(m:Nat)(a:Int):List SV:=[.psl 5 b,.ptr 0 0,.qs 1 25 0 m,.int .i64 a]
def rsH(rs:List SV):HpL:=[(0,.cells 28 [.int .i64 0,.int .i64 0]),(1,.seq 52 rs)]
noncomputable def rs_s:CSumm:=fun args H=>match args,H with
 | [.psl 5 b,.ptr 0 0,.qs 1 25 0 m,.int .i64 a],[(0,.cells 28 [.int .i64 0,.int .i64 0]),(1,.seq 52 rs)]=>.ite(dec(rsOk b rs m a))(.ite((spL b a.toNat rs).1==0)
   (.ret(.tup [.int .i64 2,.psl 5 b,.junk,.junk,.ptr 0 0,.qs 2 25 0(spL b a.toNat rs).2.2.length,.int .i64(spL b a.toNat rs).2.1]) [(1,none),(2,some(.seq 52(spL b a.toNat rs).2.2))])
   (.ret(.tup [.int .i64 1,.psl 5 b,.qs 2 25 0(spL b a.toNat rs).2.2.length,.nils,.ptr 0 0,.junk,.junk]) [(0,some(.cells 28 [.int .i64(spL b a.toNat rs).1,.int .i64(spL b a.toNat rs).2.1])),(1,none),(2,some(.seq 52(spL b a.toNat rs).2.2))])) .fail
 | _,_=>.fail
def rsM:List SV->HpL->Nat
 | [.psl _ b,_,_,.int _ a],_=>b.length - a.toNat
 | _,_=>0
noncomputable def e10r:LEnt:={ins:=[0,4,5,6],outs:=[0,2,3,4,5,6],keep:=[],size:=98,code:=c10r,s:=rs_s}
noncomputable abbrev κrs:=openT Tryz.prog(tbl [(18,y6_s),(19,read6_s)])300 5
noncomputable abbrev ιrs:Nat->Bool:=fun g=>inl(tbl [(18,y6_s),(19,read6_s)])g&&hasBody Tryz.prog g
theorem rsOk2:KOk Tryz.prog κrs:=openT_ok noNumTry mixTry(tbl_cons y6_k(tbl_cons read6_k ok0))300 5
noncomputable def rsN(N:Nat)(b rs:List SV)(m:Nat)(a:Int):CTree:=
 bif Nat.blt(b.length - a.toNat)N then bif dec(rsOk b rs m a)then bif(spL b a.toNat rs).1==0 then
   .ret(.tup [.int .i64 2,.psl 5 b,.junk,.junk,.ptr 0 0,.qs 2 25 0(spL b a.toNat rs).2.2.length,.int .i64(spL b a.toNat rs).2.1]) [(1,none),(2,some(.seq 52(spL b a.toNat rs).2.2))]
  else .ret(.tup [.int .i64 1,.psl 5 b,.qs 2 25 0(spL b a.toNat rs).2.2.length,.nils,.ptr 0 0,.junk,.junk]) [(0,some(.cells 28 [.int .i64(spL b a.toNat rs).1,.int .i64(spL b a.toNat rs).2.1])),(1,none),(2,some(.seq 52(spL b a.toNat rs).2.2))]else .fail else .fail
def rsR(b:List SV)(m:Nat)(a e:Int):CTree:=.ret(.tup [.int .i64 1,.psl 5 b,.qs 1 25 0 m,.nils,.ptr 0 0,.qs 1 25 0 m,.int .i64 a]) [(0,some(.cells 28 [.int .i64 e,.int .i64 a]))]
def rsX(b:List SV)(m:Nat)(a:Int):CTree:=.ret(.tup [.int .i64 2,.psl 5 b,.junk,.junk,.ptr 0 0,.qs 1 25 0 m,.int .i64 a]) []
def rsMk(b:List SV)(m:Nat)(a:Int):Nat->Int->CTree->CTree
 | 0,_,K=>K
 | n+1,i,K=>bif inB(w64(a+i))b.length then bif dg b(w64(a+i)).toNat!=255 then rsR b m a 16 else rsMk b m a n(w64(i+1))K else .fail
noncomputable def rsB(N:Nat)(b rs:List SV)(m:Nat)(a sz kd:Int):CTree:=
 bif(bif decide(sz < 19)then true else decide(sz > 4096))then rsR b m a 5 else bif(bif decide(kd < 1)then true else decide(kd > 5))then rsR b m a 6 else bif decide(sz > w64((b.length:Int) - a))then rsX b m a else
 slI b(w64(a+19))(w64(a+sz))fun q=>bif dec(1<=kd/\kd<=5/\byl q/\q.length<=5000)then(fun r:Mg × Int=>bif r.2!=0 then rsR b m a r.2 else
  bif decide(m=rs.length)then bif lenM(rs.length+1)then rsN N b(rs++[mgV r.1])(rs.length+1)(w64(a+sz))else .fail else .fail)(rdP kd q)else .fail
theorem rs_t(N:Nat)(b rs:List SV)(m:Nat)(a:Int):loopOnce Tryz.prog κrs ιrs(ltab [])true 300 e10r{e10r with s:=boundT rsM rs_s N}c10r(rsA b m a)(rsH rs)=
 bif decide(w64((b.length:Int) - a)>=19)then rsMk b m a 16 0(tkC6 b(w64(a+16))2 fun sz=>bif inB(w64(a+18))b.length then rsB N b rs m a(w64 sz)(w64(dg b(w64(a+18)).toNat))else .fail)else rsX b m a:=by kernel_rfl
end Go.Proofs.YtnlmhpancboddaaGreat
