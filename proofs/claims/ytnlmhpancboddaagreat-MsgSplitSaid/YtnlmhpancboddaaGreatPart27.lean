/- The reference reads attributes: the loop is valid. -/
import Derived.Test.YtnlmhpancboddaaGreatPart26
import Derived.Test.YtnlmhpancboddaaGreatPart25
import Derived.Test.YtnlmhpancboddaaGreatPart18
import Derived.Test.YtnlmhpancboddaaGreatPart22
set_option linter.unusedVariables false
set_option linter.unusedSimpArgs false
namespace Go.Proofs.YtnlmhpancboddaaGreat
open Go.Am
set_option maxRecDepth 100000
theorem KA{f:Nat->Bool}{g:Int}(hg:knC g=true)(hf:cnF f=f):cnF (stF f g)=stF f g:=by
 refine xb (fun i hi=> ?_)
 unfold stF
 have h1:Nat.beq i g.toNat=false:=by
  refine bK ?_
  rcases gY hg with rfl | rfl | rfl | rfl | rfl | rfl | rfl | rfl | rfl | rfl
  all_goals (intro e;omega)
 rw[h1,cF]
 have:=congrFun hf i
 rw[<- this]
 unfold cnF mtF
 rw[gD0,List.getElem?_eq_none (by rw[ta];omega)];rfl
theorem A7       {z:Dz}{f:Nat->Bool}{g:Int}(v:List SV)(hg:knC g=true)(h:EA   z f):EA   (gC g v z) (stF f g):=by
 obtain⟨h1,h2,h3,h4⟩:=h
 have hs:∀ k:Nat,stF f g k=bif Nat.beq k g.toNat then true else f k:=fun _=>rfl
 refine⟨BR hg v h1,fun hh=> ?_,fun hh=> ?_,fun hh=> ?_⟩
 . by_cases hk:g=2
   . subst hk;cases hh
   . have e1:(g==2)=false:=by simpa using hk
     have e2:Nat.beq 2 g.toNat=false:=bK (by omega)
     rw[hs,e2]at hh
     simp only[gC,e1,cF];exact h2 hh
 . by_cases hk:g=10
   . subst hk;cases hh
   . have e1:(g==10)=false:=by simpa using hk
     have e2:Nat.beq 10 g.toNat=false:=bK (by omega)
     rw[hs,e2]at hh
     simp only[gC,e1,cF];exact h3 hh
 . by_cases hk:g=16
   . subst hk;cases hh
   . have e1:(g==16)=false:=by simpa using hk
     have e2:Nat.beq 16 g.toNat=false:=bK (by omega)
     rw[hs,e2]at hh
     simp only[gC,e1,cF];exact h4 hh
theorem p3a{h:HpF}{a b c:Option Chunk}:∀ x,ad [(1,a),(0,b),(2,c)] h x=ad [(0,b),(1,a),(2,c)] h x:=by
 intro x
 simp only[ad]
 by_cases h2:x=2
 . simp only[h2,if_true]
 . by_cases h1:x=1
   . subst h1;rfl
   . simp only[h2,h1,if_false]
theorem p3b{h:HpF}{a b c:Option Chunk}:∀ x,ad [(1,a),(0,b),(2,c)] h x=ad [(2,c),(0,b),(1,a)] h x:=by
 intro x
 simp only[ad]
 by_cases h2:x=2
 . subst h2;rfl
 . by_cases h1:x=1
   . subst h1;rfl
   . simp only[h2,h1,if_false]
theorem Ej{H:HpL}{p:List SV}{e a:Int}:rm Tryz.prog H (qV 1 p) [(1,some (qF e a)),(0,some aZc)] (qV 1 p) [(1,some (qF e a)),(0,some aZc),(2,none)]:=by
 refine⟨1,_,_,rfl,rfl,.rfl',fun x c' hx=>⟨c',?_,.rfl'⟩⟩
 simp only[ad]at hx ⊢
 by_cases h2:x=2
 . rw[if_pos h2]at hx;cases hx
 . rw[if_neg h2]at hx;exact hx
section
variable {N a:Nat} {p:List SV} {pb cb mb:Bool} {d:Ds} {f:Nat->Bool} {v':SV} {ups':List (Nat × Option Chunk)}
variable (hm:AI p (a:Int) ⟨pb,cb,mb,d⟩ f) (hN:p.length - a < N+1) (h:ac (j7 p (d8 p p.length a 0 f ⟨pb,cb,mb,d⟩))=some (v',ups'))
theorem Ek{er at':Int}{s:Nat->Bool}{z:Dz}(he:(er==0)=false)(h:ac (j7 p (er,at',s,z))=some (v',ups')):v'=qV 1 p/\ups'=[(1,some (qF er at')),(0,some aZc),(2,none)]:=by
 unfold j7 at h
 rw[aa]at h
 simp only[he,cF]at h
 cases h;exact⟨rfl,rfl⟩
theorem Ha{o:Int × Int × (Nat->Bool) × Dz}{H:HpL}(h:ac (j7 p o)=some (v',ups')):uE H (qK p o) v' ups':=by
 refine .inl ?_
 unfold j7 at h
 rw[aa]at h
 unfold qK
 cases ho:o.1==0 with
 | true=>rw[ho]at h;cases h;exact⟨_,rfl,fun _=>rfl⟩
 | false=>rw[ho]at h;cases h;exact⟨_,rfl,p3a⟩
theorem El{o:Int × Int × (Nat->Bool) × Dz}{H:HpL}(h:ac (j7 p o)=some (v',ups')):uE H (qKu p o) v' ups':=by
 refine .inl ?_
 unfold j7 at h
 rw[aa]at h
 unfold qKu
 cases ho:o.1==0 with
 | true=>rw[ho]at h;cases h;exact⟨_,rfl,fun _=>rfl⟩
 | false=>rw[ho]at h;cases h;exact⟨_,rfl,p3b⟩
theorem Em{b:Nat}{z:Dz}{K:Int × Int × (Nat->Bool) × Dz->CTree}(hN:p.length - b < N)(hm:AI p (b:Int) z f):qNx N p (b:Int) z f K=K (d8 p p.length b 0 f z):=by
 have h1:=hm.1.1
 have h2:=hm.2.1
 unfold qNx
 rw[h1,h2,show Nat.blt (p.length - ((b:Int)).toNat) N=true by rw[bL];exact hN,dec_iff.2 ⟨rfl,hm⟩];rfl
include hm hN h
theorem zx(hlt:a < p.length)(hx:¬ okN p a p.length\/knC (bC p a)=false):uE (qH (rZ ⟨pb,cb,mb,d⟩ f)) (gn N xA (qAr p a) (qH (rZ ⟨pb,cb,mb,d⟩ f))) v' ups':=by
 obtain⟨h1,h2,h3,h4,h5,h6⟩:=hm
 have hrd:=q_u N p a pb cb mb d f
 by_cases ho:okN p a p.length
 . have hk:knC (bC p a)=false:=by rcases hx with hx | hx;exact absurd ho hx;exact hx
   rw[DK h3 h4 hlt ho]at hrd
   have hE:vE p a<=p.length:=ho.2
   have hE3:a+3<=vE p a:=by have:=ku (es:=p) (a:=a);unfold vE;omega
   have w1:w64 ((a:Int)+1)=((a+1:Nat):Int):=by rw[show w64 ((a:Int)+1)=(a:Int)+1 from ai (by omega) (by omega)];omega
   obtain⟨b0,b1⟩:=h3.ok a
   unfold qOu at hrd
   rw[w1]at hrd
   rw[dec_iff.2 ⟨by show _=[(0,rZ (nZ ⟨pb,cb,mb,d⟩) (cnF f))];rw[h1.1,h2],hk,b0,b1⟩,cT]at hrd
   rw[hrd]
   clear hrd
   rw[show((a:Int)).toNat=a from rfl]
   cases hf:cz .u8 (dg p a) 128==0 with
   | true=>
    rw[d8,iY hlt ho hk hf]at h
    obtain⟨rfl,rfl⟩:=Ek (by decide) h
    exact .inl ⟨_,rfl,fun _=>rfl⟩
   | false=>
    rw[d8,iZ hlt ho hk hf]at h
    rw[cF,Em (by omega) ⟨h1,h2,h3,h4,by omega,by omega⟩]
    exact El (by rw[vL 0 (a:Int)];exact h)
 . rw[GQ h3 h4 hlt ho]at hrd
   rw[d8,iX hlt ho]at h
   obtain⟨rfl,rfl⟩:=Ek (by decide) h
   rw[hrd]
   exact .inr (.inr ⟨_,_,rfl,Ej⟩)
theorem eZ{g:Int}(hlt:a < p.length)(ho:okN p a p.length)(hg:bC p a=g)(hk:knC g=true)(hrd:gn N (kX g) (qAr p a) (qH (rZ ⟨pb,cb,mb,d⟩ f))=qRd p a (qOn N g p a ⟨pb,cb,mb,d⟩ f)):
  uE (qH (rZ ⟨pb,cb,mb,d⟩ f)) (gn N (kX g) (qAr p a) (qH (rZ ⟨pb,cb,mb,d⟩ f))) v' ups':=by
 obtain⟨h1,h2,h3,h4,h5,h6⟩:=hm
 rw[DK h3 h4 hlt ho]at hrd
 have hE:vE p a<=p.length:=ho.2
 have hE3:a+3<=vE p a:=by have:=ku (es:=p) (a:=a);unfold vE;omega
 have w1:w64 ((a:Int)+1)=((a+1:Nat):Int):=by rw[show w64 ((a:Int)+1)=(a:Int)+1 from ai (by omega) (by omega)];omega
 obtain⟨b0,b1⟩:=h3.ok a
 have hv:byl (vl p (vS p a) (vE p a)):=h3.sl _ _
 have hvl:(vl p (vS p a) (vE p a)).length<=5000:=by unfold vl sl;rw[List.length_take];omega
 unfold qOn at hrd
 have hz:nZ ⟨pb,cb,mb,d⟩=⟨pb,cb,mb,d⟩:=h1.1
 rw[w1,hz,h2]at hrd
 rw[dec_iff.2 ⟨rfl,hg,hk,h1,hv,hvl,b0,b1⟩,cT]at hrd
 rw[hrd]
 clear hrd
 subst hg
 rw[show((a:Int)).toNat=a from rfl]
 unfold xz
 cases hf:nQ (bC p a) (dg p a)with
 | false=>
  rw[d8,i7 hlt ho hk hf]at h
  obtain⟨rfl,rfl⟩:=Ek (by decide) h
  exact .inl ⟨_,rfl,fun _=>rfl⟩
 | true=>
  rw[cT]
  cases hlk:f (bC p a).toNat with
  | true=>
   rw[d8,i9 hlt ho hk hf hlk]at h
   obtain⟨rfl,rfl⟩:=Ek (by decide) h
   exact .inl ⟨_,rfl,fun _=>rfl⟩
  | false=>
   rw[cF]
   cases hokc:okC (bC p a) (vl p (vS p a) (vE p a))with
   | false=>
    rw[d8,ja hlt ho hk hf hlk hokc]at h
    obtain⟨rfl,rfl⟩:=Ek (by decide) h
    exact .inl ⟨_,rfl,fun _=>rfl⟩
   | true=>
    rw[d8,li hlt ho hk hf hlk hokc]at h
    rw[cT,show((0:Int)==0)=true from rfl,cT,Em (by omega) ⟨A7 _ hk h1,KA hk h2,h3,h4,by omega,by omega⟩]
    exact Ha (by rw[vL 0 (a:Int)];exact h)
end
theorem Hb     :aO     Tryz.prog e10:=nk          (T:=aF   []) (sp:=true) (fuel:=300) (c:=c10) (μ:=qM) aq     aE       (show aN    (aF   []) c10=c10 by kernel_rfl) (by
 intro N args H v' ups' hbt h
 unfold e10 q_s at h
 simp only[]at h
 split at h
 . rename_i p a y0 y1 cs
   split at h
   . rename_i pb cb mb d f hd
     rw[aa]at h
     cases hc:dec _ with
     | false=>rw[hc]at h;cases h
     | true=>
      rw[hc,cT]at h
      obtain⟨hH,hm⟩:=dec_iff.1 hc
      rw[hH]at hbt ⊢
      obtain⟨b,rfl⟩:=Int.eq_ofNat_of_zero_le hm.2.2.2.2.1
      have hN:p.length - b < N+1:=by
       have:Nat.blt (p.length - b) (N+1)=true:=hbt
       rwa [bL]at this
      rw[show((b:Int)).toNat=b from rfl]at h
      by_cases hlt:b < p.length
      . by_cases ho:okN p b p.length
        . cases hk:knC (bC p b)with
          | false=>exact⟨κq1 xA,ιq1,Dk ou_k,zx hm hN h hlt (.inr hk)⟩
          | true=>
           refine⟨κq1 (kX (bC p b)),ιq1,Dk (OW _),?_⟩
           rcases gY hk with hg | hg | hg | hg | hg | hg | hg | hg | hg | hg
           . rw[hg];exact eZ hm hN h hlt ho hg rfl (q_1 ..)
           . rw[hg];exact eZ hm hN h hlt ho hg rfl (q_2 ..)
           . rw[hg];exact eZ hm hN h hlt ho hg rfl (q_4 ..)
           . rw[hg];exact eZ hm hN h hlt ho hg rfl (q_5 ..)
           . rw[hg];exact eZ hm hN h hlt ho hg rfl (q_9 ..)
           . rw[hg];exact eZ hm hN h hlt ho hg rfl (NF ..)
           . rw[hg];exact eZ hm hN h hlt ho hg rfl (NG ..)
           . rw[hg];exact eZ hm hN h hlt ho hg rfl (NL ..)
           . rw[hg];exact eZ hm hN h hlt ho hg rfl (NM ..)
           . rw[hg];exact eZ hm hN h hlt ho hg rfl (NO ..)
        . exact⟨κq1 xA,ιq1,Dk ou_k,zx hm hN h hlt (.inl ho)⟩
      . obtain⟨h1,h2,h3,h4,h5,h6⟩:=hm
        have hx:=q_u N p b pb cb mb d f
        rw[GP hlt]at hx
        rw[d8,fT hlt]at h
        unfold j7 at h
        rw[aa]at h
        cases h
        refine⟨κq1 xA,ιq1,Dk ou_k,.inr (.inr ⟨_,_,congrArg ac hx,2,_,_,rfl,rfl,.rfl',fun x c' hx=> ?_⟩)⟩
        simp only[ad]at hx
        by_cases x2:x=2
        . subst x2;rw[if_pos rfl]at hx;cases hx
          obtain⟨g1,g2,g3⟩:=nZ_iff.1 h1.1
          exact⟨_,rfl,.cells (wO (.cons .rfl' (.cons (ry g1) (.cons .rfl' (.cons .rfl' (.cons .rfl' (.cons .rfl' (.cons .rfl' (.cons .rfl' (.cons .rfl' (.cons (ry g2) (.cons (ry g3) .rfl'))))))))))))⟩
        . rw[if_neg x2]at hx;exact⟨c',hx,.rfl'⟩
   . cases h
 . cases h)
end Go.Proofs.YtnlmhpancboddaaGreat
namespace Go.Proofs.YtnlmhpancboddaaGreat
open Go.Am
set_option maxRecDepth 100000
def f0:Nat->Bool:=fun _=>false
def rI:Chunk:=.cells 129 ([.int .i64 0,.nils,.int .u32 0,.bool false,.int .u32 0,.bool false,.int .u32 0,.bool false,.int .u32 0,.nils,.nils,.int .i64 0,.int .u32 0,.int .u32 0,.int .u32 0,.nils,.nils]++mtL f0 256 0)
noncomputable def It:ag:=fun args H=>match args with
 | [.psl 5 p,.ptr 0 0,.nils,.nils,.ptr 1 0,.ptr 2 0,.int .i64 0]=>.ite (dec (H=qH rI/\byl p/\p.length<=5000)) (j7 p (d8 p p.length 0 0 f0 zI)) .fail
 | _=>.fail
theorem Lg{p:List SV}(h1:byl p)(h2:p.length<=5000):AI p 0 zI f0:=⟨⟨rfl,fun _=>rfl,fun _=>rfl,fun _=>rfl⟩,xb (fun _ _=>rfl),h1,h2,by omega,by omega⟩
theorem EY{p:List SV}(h1:byl p)(h2:p.length<=5000):ac (q_s (qAr p 0) (qH (rZ zI f0)))=ac (j7 p (d8 p p.length 0 0 f0 zI)):=by
 have hcn:mtF (mtL f0 256 0)=f0:=xb (fun _ _=>rfl)
 show ac (.ite (dec (qH (rZ zI f0)=qH (rZ ⟨true,true,true,dI0⟩ (mtF (mtL f0 256 0)))/\AI p 0 ⟨true,true,true,dI0⟩ (mtF (mtL f0 256 0)))) (j7 p (d8 p p.length 0 0 (mtF (mtL f0 256 0)) ⟨true,true,true,dI0⟩)) .fail)=_
 rw[hcn,aa,dec_iff.2 ⟨rfl,Lg h1 h2⟩];rfl
theorem BB{c:Chunk}:ge (qH c):=fun i p h=>by
 have:=gv (qH c) 0 rfl i p h
 omega
theorem ww{c:Chunk}{x:Nat}(h:x≠2)(c':Chunk):(qH c).get x=(qH c').get x:=by
 simp only[qH,HpL.get]
 rw[show Nat.beq 2 x=false from bK (fun e=>h e.symm)]
 rfl
theorem BC      :aO     Tryz.prog {e10 with s:=It  }:=ru        Hb      (by
 intro args H v ups h hcan
 unfold It at h
 split at h
 . rename_i p
   rw[aa]at h
   cases hc:dec _ with
   | false=>rw[hc]at h;cases h
   | true=>
    rw[hc,cT]at h
    obtain⟨hH,h1,h2⟩:=dec_iff.1 hc
    rw[hH]at hcan ⊢
    refine⟨qAr p 0,qH (rZ zI f0),ups,(EY h1 h2).trans h,⟨.rfl',BB,rfl,fun x c hx=> ?_,fun x c2 hx=> ?_⟩,fun x=> ?_⟩
    . by_cases h7:x=2
      . subst h7;cases hx
        exact⟨_,rfl,.cells (wO (.cons .rfl' (.cons .rfl' (.cons .rfl' (.cons .rfl' (.cons .rfl' (.cons .rfl' (.cons .rfl' (.cons .rfl' (.cons .rfl' (.cons .rfl' (.cons .rfl' (.cons .rfl' (.cons .rfl' (.cons .rfl' (.cons .rfl' (.cons .nils (.cons .nils .rfl'))))))))))))))))))⟩
      . exact⟨c,by rw[ww h7 rI];exact hx,.rfl'⟩
    . by_cases h7:x=2
      . subst h7;exact⟨_,rfl⟩
      . exact⟨c2,by rw[ww h7 (rZ zI f0)];exact hx⟩
    . have h7:∀ (f g:HpF),(∀ y,y≠2->f y=g y)->ad   ups f x=ad   ups g x:=by
        intro f g hfg
        unfold j7 at h
        rw[aa]at h
        cases ho:(d8 p p.length 0 0 f0 zI).1==0 with
        | true=>
         rw[ho]at h;cases h
         simp only[ad]
         by_cases x7:x=2
         . subst x7;rfl
         . rw[hfg x x7]
        | false=>
         rw[ho]at h;cases h
         simp only[ad]
         by_cases x7:x=2
         . subst x7;rfl
         . rw[hfg x x7]
      exact h7 _ _ (fun y hy=>ww hy _)
 . cases h)
noncomputable abbrev T10:cu:=aF [("q",{e10 with s:=It})]
noncomputable abbrev m10:Code:=bx [(3, "q")] Dj
noncomputable def Lh:ag:=bE Tryz.prog (κq1 qW) ιq1 T10 true 300 Tryz.f35 m10
theorem ND:Known Tryz.prog 57 qW:=ou_k.weak (fun _ _ _ _ h=>by cases h)
theorem Li:Known Tryz.prog 35 Lh:=⟨⟨Tryz.f35,Tryz.func35,bf ak Tryz.func35,rfl⟩,aS (Dk ND) aq (ba BC aE) Tryz.func35 (show Tryz.f35.body=some (aN T10 m10)by kernel_rfl)⟩
noncomputable def rrK(p:List SV)(o:Int × Int × (Nat->Bool) × Dz):CTree:=
 bif o.1==0 then bif !(o.2.2.1 14)then .ret (.tup [aI,.nils,.psl 88 o.2.2.2.d.unr,.agg [.int .i64 0,.int .i64 0]]) []else
  bif !(o.2.2.1 1)then EG 17 p.length else bif !(o.2.2.1 2)then EG 17 p.length else .ret (.tup [aD o.2.2.2.d,.psl 88 o.2.2.2.d.rch,.psl 88 o.2.2.2.d.unr,.agg [.int .i64 0,.int .i64 0]]) []
 else EG o.1 o.2.1
theorem NE(p:List SV):Lh [.psl 5 p] []=
 bif dec (qH rI=qH rI/\byl p/\p.length<=5000)then rrK p (d8 p p.length 0 0 f0 zI)else .fail:=by kernel_rfl
noncomputable def wx:ag:=fun args H=>match args,H with
 | [.psl 5 p],[]=>.ite (dec (byl p/\p.length<=5000)) (.ret (rdV (rdO lkF (d8 p p.length 0 0 f0 zI) p.length)) []) .fail
 | _,_=>.fail
theorem Iu    :Known Tryz.prog 35 wx    :=bd         Li    (by
 intro args H v' ups' h
 unfold wx at h
 split at h
 . rename_i p
   rw[aa]at h
   cases hc:dec (byl p/\p.length<=5000)with
   | false=>rw[hc]at h;cases h
   | true=>
    rw[hc,cT]at h
    obtain⟨h1,h2⟩:=dec_iff.1 hc
    have ht:=NE p
    rw[dec_iff.2 ⟨rfl,h1,h2⟩,cT]at ht
    generalize d8 p p.length 0 0 f0 zI=o at *
    have same:∀ {x:Nat} {c':Chunk},ad [] (HpL.get []) x=some c'->∃ c,ad [] (HpL.get []) x=some c/\CoC Tryz.prog x c c':=fun hx=>⟨_,hx,.rfl'⟩
    unfold rrK at ht
    unfold rdO at h
    have e14:lkF o.2.2.1 14=o.2.2.1 14:=rfl
    have e1:lkF o.2.2.1 1=o.2.2.1 1:=rfl
    have e2:lkF o.2.2.1 2=o.2.2.1 2:=rfl
    rw[e14,e1,e2]at h
    cases h0:o.1==0 with
    | true=>
     rw[h0,cT]at ht h
     cases h14:o.2.2.1 14 with
     | true=>
      rw[h14,Bool.not_true,cF]at ht
      rw[h14,cT]at h
      cases h1':o.2.2.1 1 with
      | true=>
       rw[h1']at ht h
       cases h2':o.2.2.1 2 with
       | true=>
        rw[h2']at ht h;cases h
        exact⟨_,_,congrArg ac ht,.inr ⟨.rfl',fun x c' hx=>same hx⟩⟩
       | false=>
        rw[h2']at ht h;cases h
        exact⟨_,_,congrArg ac ht,.inr ⟨.tup (.cons qP (.cons .nils (.cons .nils .rfl'))),fun x c' hx=>same hx⟩⟩
      | false=>
       rw[h1']at ht h;cases h
       exact⟨_,_,congrArg ac ht,.inr ⟨.tup (.cons qP (.cons .nils (.cons .nils .rfl'))),fun x c' hx=>same hx⟩⟩
     | false=>
      rw[h14]at ht h
      cases h
      exact⟨_,_,congrArg ac ht,.inr ⟨.tup (.cons qP (.cons .nils .rfl')),fun x c' hx=>same hx⟩⟩
    | false=>
     rw[h0,cF]at ht
     rw[h0]at h
     cases h
     exact⟨_,_,congrArg ac ht,.inr ⟨.tup (.cons qP (.cons .nils (.cons .nils .rfl'))),fun x c' hx=>same hx⟩⟩
 . cases h)
theorem sx     {es:List SV}{n:Nat}:∀ (m a:Nat) (x:Int) (kvs:List (Int × Bool)) (f:Nat->Bool) (z:Dz),n - a<=m->(∀ g:Int,knC g=true->bw    kvs g=lkF f g)->
  (fg es n a x kvs z).1=(d8 es n a x f z).1/\(fg es n a x kvs z).2.1=(d8 es n a x f z).2.1/\(fg es n a x kvs z).2.2.2=(d8 es n a x f z).2.2.2/\∀ g:Int,knC g=true->bw (fg es n a x kvs z).2.2.1 g=lkF (d8 es n a x f z).2.2.1 g
 | m,a,x,kvs,f,z,hm,hs=>by
  unfold fg d8
  by_cases hlt:a < n
  . by_cases ho:okN es a n
    . have hE3:a+3<=vE es a:=by have:=ku     (es:=es) (a:=a);unfold vE;omega
      obtain⟨m',rfl⟩:∃ m',m=m'+1:=⟨m - 1,by omega⟩
      cases hk:knC (bC es a)with
      | false=>
       cases hf:cz .u8 (dg es a) 128==0 with
       | true=>rw[iY hlt ho hk hf,iY hlt ho hk hf];exact⟨rfl,rfl,rfl,hs⟩
       | false=>rw[iZ hlt ho hk hf,iZ hlt ho hk hf];exact sx m' _ _ _ _ _ (by omega) hs
      | true=>
       have hl:=hs _ hk
       cases hf:nQ (bC es a) (dg es a)with
       | false=>rw[i7 hlt ho hk hf,i7 hlt ho hk hf];exact⟨rfl,rfl,rfl,hs⟩
       | true=>
        cases hlk:bw kvs (bC es a)with
        | true=>rw[i9 hlt ho hk hf hlk,i9 hlt ho hk hf (hl ▸ hlk)];exact⟨rfl,rfl,rfl,hs⟩
        | false=>
         cases hv:okC (bC es a) (vl es (vS es a) (vE es a))with
         | false=>rw[ja hlt ho hk hf hlk hv,ja hlt ho hk hf (hl ▸ hlk) hv];exact⟨rfl,rfl,rfl,hs⟩
         | true=>
          rw[li hlt ho hk hf hlk hv,li hlt ho hk hf (hl ▸ hlk) hv]
          refine sx m' _ _ _ _ _ (by omega) (fun g hg=> ?_)
          have e1:bw (stK kvs (bC es a)) g=bif g==bC es a then true else bw kvs g:=my _ true kvs g
          have e2:lkF (stF f (bC es a)) g=bif Nat.beq g.toNat (bC es a).toNat then true else lkF f g:=rfl
          rw[e1,e2,hs g hg]
          have pos:∀ k:Int,knC k=true->0 < k:=by
           intro k hk
           rcases gY hk with rfl | rfl | rfl | rfl | rfl | rfl | rfl | rfl | rfl | rfl <;> omega
          have p1:=pos g hg
          have p2:=pos _ hk
          by_cases he:g=bC es a
          . rw[<- he,show(g==g)=true by simp,show Nat.beq g.toNat g.toNat=true from fB rfl]
          . rw[show(g==bC es a)=false by simpa using he,show Nat.beq g.toNat (bC es a).toNat=false from bK (by omega)]
    . rw[iX hlt ho,iX hlt ho];exact⟨rfl,rfl,rfl,hs⟩
  . rw[fT hlt,fT hlt];exact⟨rfl,rfl,rfl,hs⟩
termination_by m=>m
theorem zU(es:List SV):rdQ es es.length=rdO lkF (d8 es es.length 0 0 f0 zI) es.length:=by
 obtain⟨h1,h2,h3,h4⟩:=sx (es:=es) (n:=es.length) es.length 0 0 [] f0 zI (by omega) (fun _ _=>rfl)
 unfold rdQ rdO
 rw[h1,h2,h3,h4 14 rfl,h4 1 rfl,h4 2 rfl]
noncomputable abbrev κrm:=tbl [(18,sH),(34,pX),(35,wx)]
theorem NI:KOk Tryz.prog κrm:=af Fq (af DH (af Iu ok0))
def mE(e:Int):CTree:=.ret (.tup [mgZ 0 cs0 0 0,.int .i64 e]) []
noncomputable def rmU(k:Int)(p:List SV):CTree:=
 bif decide ((p.length:Int) < 4)then mE 3 else bif inB 0 p.length then bif dg p 0 !=0 then mE 3 else bif inB 1 p.length then bif dg p 1 !=0 then mE 3 else
 j5 p 2 2 fun sz=>bif w64 sz !=w64 ((p.length:Int) - 4)then mE 3 else slI p 4 p.length fun q=>bif dec (byl q/\q.length<=5000)then
  (fun o:Int × Int × Ds=>bif o.1 !=0 then mE o.1 else .ret (.tup [mgV {mgD o.2.2 with k:=k},.int .i64 0]) []) (rdO lkF (d8 q q.length 0 0 f0 zI) q.length)else .fail else .fail else .fail
noncomputable def rmD(k:Int)(p:List SV):CTree:=bif(p.length:Int)==4 then bif inB 0 p.length then bif dg p 0==0 then bif inB 1 p.length then bif dg p 1==25 then bif inB 3 p.length then
 (bif !(dg p 3==70)then mE 3 else .ret (.tup [mgZ k cs0 0 0,.int .i64 0]) [])else .fail else mE 3 else .fail else mE 3 else .fail else mE 3
theorem NJ(k:Int)(p:List SV):opn κrm Tryz.f19 [.int .i64 k,.psl 5 p] []=
 bif k==1 then(bif dec (byl p/\p.length<=100000)then bif(roP p).2==0 then .ret (.tup [mgZ 1 (roP p).1 0 0,.int .i64 0]) []else .ret (.tup [mgZ 0 cs0 0 0,.int .i64 (roP p).2]) []else .fail)
 else bif k==2 then rmU k p else bif k==3 then bif decide ((p.length:Int)>=2)then bif inB 0 p.length then bif inB 1 p.length then bif !(decide ((p.length:Int)>=2))then mE 3 else .ret (.tup [mgZ k cs0 (w64 (dg p 0)) (w64 (dg p 1)),.int .i64 0]) []else .fail else .fail else bif !(decide ((p.length:Int)>=2))then mE 3 else .ret (.tup [mgZ k cs0 0 0,.int .i64 0]) []
 else bif k==4 then(bif !((p.length:Int)==0)then mE 3 else .ret (.tup [mgZ k cs0 0 0,.int .i64 0]) [])else rmD k p:=by kernel_rfl
noncomputable def oi:ag:=fun args H=>match args,H with
 | [.int .i64 k,.psl 5 p],[]=>.ite (dec (1<=k/\k<=5/\byl p/\p.length<=5000)) (mgR (mgV (rdP k p).1) (rdP k p).2) .fail
 | _,_=>.fail
theorem Oi{p:List SV}(hb:byl p):(tkN p 0 2=0)↔(dg p 0=0/\dg p 1=0):=by
 have e:tkN p 0 2=(0 * 256+dg p 0) * 256+dg p 1:=rfl
 obtain⟨a0,a1⟩:=hb.ok 0
 obtain⟨b0,b1⟩:=hb.ok 1
 rw[e];omega
theorem Oj{p:List SV}(hb:byl p):(tkN p 0 2=25)↔(dg p 0=0/\dg p 1=25):=by
 have e:tkN p 0 2=(0 * 256+dg p 0) * 256+dg p 1:=rfl
 obtain⟨a0,a1⟩:=hb.ok 0
 obtain⟨b0,b1⟩:=hb.ok 1
 rw[e];omega
theorem JE    {p:List SV}(hb:byl p)(hl:p.length<=5000):rmU 2 p=bif !upB p then mE 3 else bif(rdQ (p.drop 4) (p.length - 4)).1 !=0 then mE (rdQ (p.drop 4) (p.length - 4)).1 else mgR (mgV (mgD (rdQ (p.drop 4) (p.length - 4)).2.2)) 0:=by
 unfold rmU upB
 by_cases h4:p.length < 4
 . rw[dT0 (show(p.length:Int) < 4 by omega),cT,dF (show ¬ 4<=p.length by omega)];rfl
 . rw[dF              (show ¬ (p.length:Int) < 4 by omega),cF        ,bJ     (by decide) (by omega),cT       ,dT0            (show 4<=p.length by omega),Bool.true_and]
   have h0:=Oi hb
   by_cases d0:dg p 0=0
   . rw[show(dg p 0 !=0)=false by simpa using d0,cF        ,bJ     (by decide) (by omega),cT       ]
     by_cases d1:dg p 1=0
     . obtain⟨t0,t1⟩:=aX hb.ok 2 2
       have k2:∀ K,j5 p 2 2 K=K (tkN p 2 2):=fun K=>by unfold j5;rw[dec_iff.2 ⟨hb,by omega,by decide,by omega,by decide⟩];rfl
       have hq:byl (p.drop 4):=hb.dropb 4
       have hql:(p.drop 4).length=p.length - 4:=List.length_drop
       rw[show(dg p 1 !=0)=false by simpa using d1,cF,k2,dT0 (h0.2 ⟨d0,d1⟩),Bool.true_and,show w64 (tkN p 2 2)=tkN p 2 2 from ai (by omega) (by omega),show w64 ((p.length:Int) - 4)=(p.length:Int) - 4 from ai (by omega) (by omega)]
       by_cases c:tkN p 2 2=(p.length:Int) - 4
       . rw[show(tkN p 2 2 !=(p.length:Int) - 4)=false by simpa using c,cF,dT0 c,eK (a:=4) (b:=(p.length:Int)) (i:=4) (j:=p.length) rfl rfl (by omega) (Nat.le_refl _),ia,dec_iff.2 ⟨hq,by omega⟩,cT,<- zU,hql]
         rfl
       . rw[show(tkN p 2 2 !=(p.length:Int) - 4)=true by simpa using c,dF c];rfl
     . rw[show(dg p 1 !=0)=true by simpa using d1,dF (fun h=>d1 (h0.1 h).2)];rfl
   . rw[show(dg p 0 !=0)=true by simpa using d0,dF (fun h=>d0 (h0.1 h).1)];rfl
theorem JF    {p:List SV}(hb:byl p)(hl:p.length<=5000):rmD 5 p=bif(bif(bif decide (p.length≠4)then true else tkN p 0 2 !=25)then true else dg p 3 !=70)then mE 3 else mgR (mgY (mgK 5)) 0:=by
 unfold rmD
 have h0:=Oj hb
 by_cases h4:p.length=4
 . rw[show((p.length:Int)==4)=true by rw[beq_iff_eq];omega,cT       ,bJ     (by decide) (by omega),cT       ,dF              (show ¬ p.length≠4 by simpa using h4),cF        ]
   by_cases d0:dg p 0=0
   . rw[show(dg p 0==0)=true by simpa using d0,cT,bJ (by decide) (by omega),cT]
     by_cases d1:dg p 1=25
     . rw[show(dg p 1==25)=true by simpa using d1,cT,bJ (by decide) (by omega),cT,show(tkN p 0 2 !=25)=false by simpa using h0.2 ⟨d0,d1⟩,cF]
       rfl
     . rw[show(dg p 1==25)=false by simpa using d1,show(tkN p 0 2 !=25)=true by simpa using fun h=>d1 (h0.1 h).2];rfl
   . rw[show(dg p 0==0)=false by simpa using d0,show(tkN p 0 2 !=25)=true by simpa using fun h=>d0 (h0.1 h).1];rfl
 . rw[show((p.length:Int)==4)=false by rw[beq_eq_false_iff_ne];omega,dT0 (show p.length≠4 from h4)];rfl
theorem Gk     :Known Tryz.prog 19 oi     :=bd         (am        NI   Tryz.func19 rfl) (by
 intro args H v' ups' h
 have same:∀ {H:HpL} {x:Nat} {c':Chunk},ad [] (HpL.get H) x=some c'->∃ c,ad [] (HpL.get H) x=some c/\CoC Tryz.prog x c c':=fun hx=>⟨_,hx,.rfl'⟩
 unfold oi at h
 split at h
 . rename_i k p
   rw[aa]at h
   cases hc:dec (1<=k/\k<=5/\byl p/\p.length<=5000)with
   | false=>rw[hc]at h;cases h
   | true=>
    rw[hc,cT]at h
    obtain⟨k0,k1,hb,hl⟩:=dec_iff.1 hc
    have ht:=NJ k p
    rcases(show k=1\/k=2\/k=3\/k=4\/k=5 by omega)with rfl | rfl | rfl | rfl | rfl
    . have hd:=yE (k:=1) (by decide) p
      have hr:rdP 1 p=bif(roP p).2 !=0 then(mg0,(roP p).2)else(⟨1,(roP p).1,0,0,dI0⟩,0):=rfl
      rw[show((1:Int)==1)=true from rfl,cT,dec_iff.2 ⟨hb,by omega⟩,cT]at ht
      rw[hr]at h hd
      cases he:(roP p).2==0 with
      | true=>
       rw[he,cT]at ht
       rw[show((roP p).2 !=0)=false by unfold bne;rw[he];rfl,cF]at h
       cases h
       exact⟨_,_,congrArg ac ht,.inr ⟨.tup (.cons (mL (m:=⟨1,(roP p).1,0,0,dI0⟩) rfl) .rfl'),fun x c' hx=>same hx⟩⟩
      | false=>
       rw[he,cF]at ht
       rw[show((roP p).2 !=0)=true by unfold bne;rw[he];rfl,cT]at h
       cases h
       exact⟨_,_,congrArg ac ht,.inr ⟨.tup (.cons nP .rfl'),fun x c' hx=>same hx⟩⟩
    . have hr:rdP 2 p=upP p:=rfl
      rw[show((2:Int)==1)=false from rfl,cF,show((2:Int)==2)=true from rfl,cT,JE hb hl]at ht
      rw[hr]at h
      unfold upP at h
      cases hu: !upB p with
      | true=>rw[hu]at ht h;cases h;exact⟨_,_,congrArg ac ht,.inr ⟨.tup (.cons nP .rfl'),fun x c' hx=>same hx⟩⟩
      | false=>
       rw[hu,cF]at ht h
       generalize rdQ (p.drop 4) (p.length - 4)=q at *
       cases hq:q.1 !=0 with
       | true=>rw[hq]at ht h;cases h;exact⟨_,_,congrArg ac ht,.inr ⟨.tup (.cons nP .rfl'),fun x c' hx=>same hx⟩⟩
       | false=>rw[hq]at ht h;cases h;exact⟨_,_,congrArg ac ht,.inr ⟨.rfl',fun x c' hx=>same hx⟩⟩
    . have hr:rdP 3 p=bif decide (p.length < 2)then(mg0,3)else(⟨3,cs0,dg p 0,dg p 1,dI0⟩,0):=rfl
      rw[show((3:Int)==1)=false from rfl,cF,show((3:Int)==2)=false from rfl,cF,show((3:Int)==3)=true from rfl,cT]at ht
      rw[hr]at h
      by_cases hp:p.length < 2
      . rw[dF (show ¬ (p.length:Int)>=2 by omega)]at ht
        rw[dT0 hp]at h
        cases h
        exact⟨_,_,congrArg ac ht,.inr ⟨.tup (.cons nP .rfl'),fun x c' hx=>same hx⟩⟩
      . obtain⟨a0,a1⟩:=hb.ok 0
        obtain⟨b0,b1⟩:=hb.ok 1
        rw[dT0 (show(p.length:Int)>=2 by omega),cT,bJ (by decide) (by omega),cT,bJ (by decide) (by omega),cT,show w64 (dg p 0)=dg p 0 from ai (by omega) (by omega),show w64 (dg p 1)=dg p 1 from ai (by omega) (by omega)]at ht
        rw[dF hp]at h
        cases h
        exact⟨_,_,congrArg ac ht,.inr ⟨.tup (.cons (mL (m:=⟨3,cs0,dg p 0,dg p 1,dI0⟩) rfl) .rfl'),fun x c' hx=>same hx⟩⟩
    . have hr:rdP 4 p=bif decide (0 < p.length)then(mg0,3)else(mgK 4,0):=rfl
      rw[show((4:Int)==1)=false from rfl,cF,show((4:Int)==2)=false from rfl,cF,show((4:Int)==3)=false from rfl,cF,show((4:Int)==4)=true from rfl,cT]at ht
      rw[hr]at h
      by_cases hp:0 < p.length
      . rw[show((p.length:Int)==0)=false by rw[beq_eq_false_iff_ne];omega]at ht
        rw[dT0 hp]at h
        cases h
        exact⟨_,_,congrArg ac ht,.inr ⟨.tup (.cons nP .rfl'),fun x c' hx=>same hx⟩⟩
      . rw[show((p.length:Int)==0)=true by rw[beq_iff_eq];omega]at ht
        rw[dF hp]at h
        cases h
        exact⟨_,_,congrArg ac ht,.inr ⟨.tup (.cons (mL (m:=mgK 4) rfl) .rfl'),fun x c' hx=>same hx⟩⟩
    . have hr:rdP 5 p=bif(bif(bif decide (p.length≠4)then true else tkN p 0 2 !=25)then true else dg p 3 !=70)then(mg0,3)else(mgK 5,0):=rfl
      rw[show((5:Int)==1)=false from rfl,cF,show((5:Int)==2)=false from rfl,cF,show((5:Int)==3)=false from rfl,cF,show((5:Int)==4)=false from rfl,cF,JF hb hl]at ht
      rw[hr]at h
      cases hq:(bif(bif decide (p.length≠4)then true else tkN p 0 2 !=25)then true else dg p 3 !=70)with
      | true=>rw[hq]at ht h;cases h;exact⟨_,_,congrArg ac ht,.inr ⟨.tup (.cons nP .rfl'),fun x c' hx=>same hx⟩⟩
      | false=>rw[hq]at ht h;cases h;exact⟨_,_,congrArg ac ht,.inr ⟨.tup (.cons (mL (m:=mgK 5) rfl) .rfl'),fun x c' hx=>same hx⟩⟩
 . cases h)
noncomputable def yf:Code:=Tryz.f10.body.getD .skip
noncomputable def wQ:Code:=(bv 3 yf).getD .skip
def FS(b rs:List SV)(m:Nat)(a:Int):Prop:=byl b/\b.length<=9000/\m=rs.length/\0<=a/\a<=b.length/\rs.length<=a
def rsA(b:List SV)(m:Nat)(a:Int):List SV:=[.psl 5 b,.ptr 0 0,.qs 1 25 0 m,.int .i64 a]
def rsH(rs:List SV):HpL:=[(0,.cells 28 [.int .i64 0,.int .i64 0]),(1,.seq 52 rs)]
noncomputable def Ar:ag:=fun args H=>match args,H with
 | [.psl 5 b,.ptr 0 0,.qs 1 25 0 m,.int .i64 a],[(0,.cells 28 [.int .i64 0,.int .i64 0]),(1,.seq 52 rs)]=>.ite (dec (FS b rs m a)) (.ite ((spL b a.toNat rs).1==0)
   (.ret (.tup [.int .i64 2,.psl 5 b,.junk,.junk,.ptr 0 0,.qs 2 25 0 (spL b a.toNat rs).2.2.length,.int .i64 (spL b a.toNat rs).2.1]) [(1,none),(2,some (.seq 52 (spL b a.toNat rs).2.2))])
   (.ret (.tup [.int .i64 1,.psl 5 b,.qs 2 25 0 (spL b a.toNat rs).2.2.length,.nils,.ptr 0 0,.junk,.junk]) [(0,some (.cells 28 [.int .i64 (spL b a.toNat rs).1,.int .i64 (spL b a.toNat rs).2.1])),(1,none),(2,some (.seq 52 (spL b a.toNat rs).2.2))])) .fail
 | _,_=>.fail
def rsM:List SV->HpL->Nat
 | [.psl _ b,_,_,.int _ a],_=>b.length - a.toNat
 | _,_=>0
noncomputable def sQ:LEnt:={ins:=[0,4,5,6],outs:=[0,2,3,4,5,6],keep:=[],size:=98,code:=wQ,s:=Ar}
noncomputable abbrev κrs:=bn Tryz.prog (tbl [(18,sH),(19,oi)]) 300 5
noncomputable abbrev ιrs:Nat->Bool:=fun g=>inl (tbl [(18,sH),(19,oi)]) g&&bB Tryz.prog g
theorem HF:KOk Tryz.prog κrs:=aL ak aq (af Fq (af Gk ok0)) 300 5
noncomputable def rsN(N:Nat)(b rs:List SV)(m:Nat)(a:Int):CTree:=
 bif Nat.blt (b.length - a.toNat) N then bif dec (FS b rs m a)then bif(spL b a.toNat rs).1==0 then
   .ret (.tup [.int .i64 2,.psl 5 b,.junk,.junk,.ptr 0 0,.qs 2 25 0 (spL b a.toNat rs).2.2.length,.int .i64 (spL b a.toNat rs).2.1]) [(1,none),(2,some (.seq 52 (spL b a.toNat rs).2.2))]
  else .ret (.tup [.int .i64 1,.psl 5 b,.qs 2 25 0 (spL b a.toNat rs).2.2.length,.nils,.ptr 0 0,.junk,.junk]) [(0,some (.cells 28 [.int .i64 (spL b a.toNat rs).1,.int .i64 (spL b a.toNat rs).2.1])),(1,none),(2,some (.seq 52 (spL b a.toNat rs).2.2))]else .fail else .fail
def rsR(b:List SV)(m:Nat)(a e:Int):CTree:=.ret (.tup [.int .i64 1,.psl 5 b,.qs 1 25 0 m,.nils,.ptr 0 0,.qs 1 25 0 m,.int .i64 a]) [(0,some (.cells 28 [.int .i64 e,.int .i64 a]))]
def rsX(b:List SV)(m:Nat)(a:Int):CTree:=.ret (.tup [.int .i64 2,.psl 5 b,.junk,.junk,.ptr 0 0,.qs 1 25 0 m,.int .i64 a]) []
def As(b:List SV)(m:Nat)(a:Int):Nat->Int->CTree->CTree
 | 0,_,K=>K
 | n+1,i,K=>bif inB (w64 (a+i)) b.length then bif dg b (w64 (a+i)).toNat !=255 then rsR b m a 16 else As b m a n (w64 (i+1)) K else .fail
noncomputable def rsB(N:Nat)(b rs:List SV)(m:Nat)(a sz kd:Int):CTree:=
 bif(bif decide (sz < 19)then true else decide (sz > 4096))then rsR b m a 5 else bif(bif decide (kd < 1)then true else decide (kd > 5))then rsR b m a 6 else bif decide (sz > w64 ((b.length:Int) - a))then rsX b m a else
 slI b (w64 (a+19)) (w64 (a+sz)) fun q=>bif dec (1<=kd/\kd<=5/\byl q/\q.length<=5000)then(fun r:Mg × Int=>bif r.2 !=0 then rsR b m a r.2 else
  bif decide (m=rs.length)then bif IW (rs.length+1)then rsN N b (rs++[mgV r.1]) (rs.length+1) (w64 (a+sz))else .fail else .fail) (rdP kd q)else .fail
theorem Oc(N:Nat)(b rs:List SV)(m:Nat)(a:Int):av Tryz.prog κrs ιrs (aF []) true 300 sQ {sQ with s:=ay rsM Ar N} wQ (rsA b m a) (rsH rs)=
 bif decide (w64 ((b.length:Int) - a)>=19)then As b m a 16 0 (j5 b (w64 (a+16)) 2 fun sz=>bif inB (w64 (a+18)) b.length then rsB N b rs m a (w64 sz) (w64 (dg b (w64 (a+18)).toNat))else .fail)else rsX b m a:=by kernel_rfl
end Go.Proofs.YtnlmhpancboddaaGreat
