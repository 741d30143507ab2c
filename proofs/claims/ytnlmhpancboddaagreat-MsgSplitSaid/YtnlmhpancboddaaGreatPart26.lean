/- The reference reads attributes: a value known, an attribute evaluated. -/
import Derived.Test.YtnlmhpancboddaaGreatPart25
set_option linter.unusedVariables false
set_option linter.unusedSimpArgs false
namespace Go.Proofs.YtnlmhpancboddaaGreat
open Go.Am
set_option maxRecDepth 100000
noncomputable def Fv:ag:=fun args H=>match args,H with
 | [.ptr 0 0,.int .u8 g,.psl 5 v],[(0,.cells 129 cs)]=>match yP cs with
  | some (pb,cb,mb,d,f)=>.ite (dec (H=[(0,rZ ⟨pb,cb,mb,d⟩ f)]/\byl v/\v.length<=5000/\knC g=true/\(g=2->pb=true)/\(g=10->cb=true)/\(g=16->mb=true)))
    (.ite (okC g v) (.ret (.bool true) [(0,some (rZ (gC g v ⟨pb,cb,mb,d⟩) f))]) (.ret (.bool false) [(0,none)])) .fail
  | none=>.fail
 | _,_=>.fail
theorem LB{T:cu}(hT:LOk Tryz.prog T){c:Code}(hb:Tryz.f79.body=some (aN T c)):Known Tryz.prog 79 (vB T c):=⟨⟨Tryz.f79,Tryz.func79,bf ak Tryz.func79,rfl⟩,aS IS aq hT Tryz.func79 hb⟩
theorem ll:Known Tryz.prog 79 (vB (aF []) cD):=LB aE (show Tryz.f79.body=some (aN (aF []) cD)by kernel_rfl)
theorem Hy:Known Tryz.prog 79 (vB T77 m77):=LB (ba D0 (ba DP aE)) (show Tryz.f79.body=some (aN T77 m77)by kernel_rfl)
theorem LC  :Known Tryz.prog 79 Fv  :=nU              ll    (by
 intro args H v' ups' h
 unfold Fv at h
 split at h
 . rename_i g v cs
   split at h
   . rename_i pb cb mb d f hd
     rw[aa]at h
     cases hc:dec _ with
     | false=>rw[hc]at h;cases h
     | true=>
      rw[hc,cT,aa]at h
      obtain⟨hH,hv,hl,hk,p2,p10,p16⟩:=dec_iff.1 hc
      rw[hH]
      have fin:∀ s,Known Tryz.prog 79 s->VGo s g v ⟨pb,cb,mb,d⟩ f (okC g v) (ck g v ⟨pb,cb,mb,d⟩ f)->∃ s,Known Tryz.prog 79 s/\∃ v1 ups,ac (s [.ptr 0 0,.int .u8 g,.psl 5 v] [(0,rZ ⟨pb,cb,mb,d⟩ f)])=some (v1,ups)/\
        (jg Tryz.prog [(0,rZ ⟨pb,cb,mb,d⟩ f)] v1 ups v' ups'\/Am.Told Tryz.prog [(0,rZ ⟨pb,cb,mb,d⟩ f)] v1 ups v' ups'):=by
       intro s hs hg
       refine⟨s,hs,?_⟩
       unfold ck at hg
       cases ho:okC g v with
       | true=>rw[ho]at h hg;cases h;exact hg
       | false=>rw[ho]at h hg;cases h;exact hg
      rcases gY hk with rfl | rfl | rfl | rfl | rfl | rfl | rfl | rfl | rfl | rfl
      . exact fin _ ll (OD)
      . have:=p2 rfl;subst this;exact fin _ ll (N8 hv hl)
      . exact fin _ ll (JS (dn:=d4) hv rfl rfl (v_4 v pb cb mb d f))
      . exact fin _ ll (JS (dn:=d5) hv rfl rfl (v_5 v pb cb mb d f))
      . exact fin _ ll (JS (dn:=d9) hv rfl rfl (v_9 v pb cb mb d f))
      . have:=p10 rfl;subst this;exact fin _ Hy (LX hv hl)
      . exact fin _ ll (MG hv hl)
      . exact fin _ ll (MF hv hl)
      . have:=p16 rfl;subst this;exact fin _ Hy (LY hl)
      . exact fin _ ll (LZ hv hl)
   . cases h
 . cases h)
noncomputable abbrev κon:=tbl [(79,Fv)]
theorem NV:KOk Tryz.prog κon:=af LC ok0
def stF(f:Nat->Bool)(g:Int)(i:Nat):Bool:=bif Nat.beq i g.toNat then true else f i
def LD(g fl:Int):Int:=bif flC g==192 then iQ (iQ fl 16) 32 else iQ fl 16
def oAr(fl g:Int)(v:List SV):List SV:=[.ptr 0 0,.int .u8 fl,.int .u8 g,.psl 5 v]
noncomputable def nT(fl g:Int)(v:List SV)(z:Dz)(f:Nat->Bool):CTree:=
 bif LD g fl !=flC g then .ret (.int .i64 17) []else bif f g.toNat then .ret (.int .i64 11) []else
 bif dec ([(0,rZ z (stF f g))]=[(0,rZ (nZ z) (mtF (mtL (stF f g) 256 0)))]/\byl v/\v.length<=5000/\knC g=true/\(g=2->z.pb=true)/\(g=10->z.cb=true)/\(g=16->z.mb=true))then
  bif okC g v then .ret (.int .i64 0) [(0,some (rZ (gC g v (nZ z)) (mtF (mtL (stF f g) 256 0))))]else .ret (.int .i64 3) [(0,none)]else .fail
theorem o_1(fl:Int)(v:List SV)(pb cb mb:Bool)(d:Ds)(f:Nat->Bool):opn κon Tryz.f57 (oAr fl 1 v) [(0,rZ ⟨pb,cb,mb,d⟩ f)]=nT fl 1 v ⟨pb,cb,mb,d⟩ f:=by cases pb <;> cases cb <;> cases mb <;> kernel_rfl
theorem o_2(fl:Int)(v:List SV)(pb cb mb:Bool)(d:Ds)(f:Nat->Bool):opn κon Tryz.f57 (oAr fl 2 v) [(0,rZ ⟨pb,cb,mb,d⟩ f)]=nT fl 2 v ⟨pb,cb,mb,d⟩ f:=by cases pb <;> cases cb <;> cases mb <;> kernel_rfl
theorem o_4(fl:Int)(v:List SV)(pb cb mb:Bool)(d:Ds)(f:Nat->Bool):opn κon Tryz.f57 (oAr fl 4 v) [(0,rZ ⟨pb,cb,mb,d⟩ f)]=nT fl 4 v ⟨pb,cb,mb,d⟩ f:=by cases pb <;> cases cb <;> cases mb <;> kernel_rfl
theorem o_5(fl:Int)(v:List SV)(pb cb mb:Bool)(d:Ds)(f:Nat->Bool):opn κon Tryz.f57 (oAr fl 5 v) [(0,rZ ⟨pb,cb,mb,d⟩ f)]=nT fl 5 v ⟨pb,cb,mb,d⟩ f:=by cases pb <;> cases cb <;> cases mb <;> kernel_rfl
theorem o_9(fl:Int)(v:List SV)(pb cb mb:Bool)(d:Ds)(f:Nat->Bool):opn κon Tryz.f57 (oAr fl 9 v) [(0,rZ ⟨pb,cb,mb,d⟩ f)]=nT fl 9 v ⟨pb,cb,mb,d⟩ f:=by cases pb <;> cases cb <;> cases mb <;> kernel_rfl
theorem Ok(fl:Int)(v:List SV)(pb cb mb:Bool)(d:Ds)(f:Nat->Bool):opn κon Tryz.f57 (oAr fl 10 v) [(0,rZ ⟨pb,cb,mb,d⟩ f)]=nT fl 10 v ⟨pb,cb,mb,d⟩ f:=by cases pb <;> cases cb <;> cases mb <;> kernel_rfl
theorem Ol(fl:Int)(v:List SV)(pb cb mb:Bool)(d:Ds)(f:Nat->Bool):opn κon Tryz.f57 (oAr fl 14 v) [(0,rZ ⟨pb,cb,mb,d⟩ f)]=nT fl 14 v ⟨pb,cb,mb,d⟩ f:=by cases pb <;> cases cb <;> cases mb <;> kernel_rfl
theorem Om(fl:Int)(v:List SV)(pb cb mb:Bool)(d:Ds)(f:Nat->Bool):opn κon Tryz.f57 (oAr fl 15 v) [(0,rZ ⟨pb,cb,mb,d⟩ f)]=nT fl 15 v ⟨pb,cb,mb,d⟩ f:=by cases pb <;> cases cb <;> cases mb <;> kernel_rfl
theorem On(fl:Int)(v:List SV)(pb cb mb:Bool)(d:Ds)(f:Nat->Bool):opn κon Tryz.f57 (oAr fl 16 v) [(0,rZ ⟨pb,cb,mb,d⟩ f)]=nT fl 16 v ⟨pb,cb,mb,d⟩ f:=by cases pb <;> cases cb <;> cases mb <;> kernel_rfl
theorem Oo(fl:Int)(v:List SV)(pb cb mb:Bool)(d:Ds)(f:Nat->Bool):opn κon Tryz.f57 (oAr fl 22 v) [(0,rZ ⟨pb,cb,mb,d⟩ f)]=nT fl 22 v ⟨pb,cb,mb,d⟩ f:=by cases pb <;> cases cb <;> cases mb <;> kernel_rfl
noncomputable def J9:ag:=fun args H=>match args with
 | [.int .u8 g]=>.ite (dec (knC g=false/\H=[])) (.ret (.tup [.int .u8 0,.bool false]) []) .fail
 | _=>.fail
def fgQ(g k:Int)(A N M:CTree):CTree:=bif g==k then(bif g==k then A else N)else M
def GO(g:Int)(C D:CTree):CTree:=fgQ g 16 C D (bif g==22 then C else D)
def fg4(g:Int)(B N:CTree):CTree:=fgQ g 4 B N (fgQ g 9 B N (fgQ g 10 B N (fgQ g 14 B N (bif g==15 then B else N))))
def fgT(g:Int)(A B C D:CTree):CTree:=fgQ g 1 A (fg4 g B (GO g C D)) (fgQ g 2 A (fg4 g B (GO g C D)) (bif g==5 then A else fg4 g B (GO g C D)))
def fgR(w:Int)(b:Bool):CTree:=.ret (.tup [.int .u8 w,.bool b]) []
theorem OF(g:Int):opn (tbl []) Tryz.f78 [.int .u8 g] []=fgT g (fgR 64 true) (fgR 128 true) (fgR 192 true) (fgR 0 false):=by kernel_rfl
theorem OG:Known Tryz.prog 78 J9:=(am ok0 Tryz.func78 rfl).weak (by
 intro args H v ups h
 unfold J9 at h
 split at h
 . rename_i g
   rw[aa]at h
   cases hc:dec _ with
   | false=>rw[hc]at h;cases h
   | true=>
    rw[hc,cT]at h
    obtain⟨hk,rfl⟩:=dec_iff.1 hc
    have no:∀ k:Int,knC k=true->(g==k)=false:=fun k hkk=>beq_eq_false_iff_ne.2 (fun e=>by rw[e,hkk]at hk;cases hk)
    refine(congrArg ac (OF g)).trans ?_
    unfold fgT fg4 GO fgQ
    rw[no 1 rfl,no 2 rfl,no 5 rfl,no 4 rfl,no 9 rfl,no 10 rfl,no 14 rfl,no 15 rfl,no 16 rfl,no 22 rfl]
    exact h
 . cases h)
noncomputable abbrev κou:=tbl [(79,Fv),(78,J9)]
theorem OH:KOk Tryz.prog κou:=af LC (af OG ok0)
theorem o_u(fl g:Int)(v:List SV)(pb cb mb:Bool)(d:Ds)(f:Nat->Bool):opn κou Tryz.f57 (oAr fl g v) [(0,rZ ⟨pb,cb,mb,d⟩ f)]=
 bif dec (knC g=false/\([]:HpL)=[])then bif cz .u8 (iQ fl 16) 128==0 then .ret (.int .i64 17) []else .ret (.int .i64 0) []else .fail:=by cases pb <;> cases cb <;> cases mb <;> kernel_rfl
theorem Hj:((List.range 256).all fun k=>(iQ (iQ (k:Int) 16) 32==iQ (k:Int) 48)&&(cz .u8 (iQ (k:Int) 16) 128==cz .u8 (k:Int) 128))=true:=by kernel_rfl
theorem Ez{fl:Int}(h0:0<=fl)(h1:fl<=255):iQ (iQ fl 16) 32=iQ fl 48/\cz .u8 (iQ fl 16) 128=cz .u8 fl 128:=by
 obtain⟨k,rfl⟩:=Int.eq_ofNat_of_zero_le h0
 have:=List.all_eq_true.1 Hj k (List.mem_range.2 (by omega))
 simp only[bA,beq_iff_eq]at this
 exact this
theorem Hk{g fl:Int}(hk:knC g=true)(h0:0<=fl)(h1:fl<=255):LD g fl=iQ fl (igC g):=by
 rcases gY hk with rfl | rfl | rfl | rfl | rfl | rfl | rfl | rfl | rfl | rfl
 all_goals first | rfl | exact(Ez h0 h1).1
def EA(z:Dz)(f:Nat->Bool):Prop:=nZ z=z/\(f 2=false->z.pb=true)/\(f 10=false->z.cb=true)/\(f 16=false->z.mb=true)
noncomputable def xz(fl g:Int)(v:List SV)(f:Nat->Bool):Int:=bif nQ g fl then(bif f g.toNat then 11 else bif okC g v then 0 else 3)else 17
noncomputable def kX(g:Int):ag:=fun args H=>match args,H with
 | [.ptr 0 0,.int .u8 fl,.int .u8 g',.psl 5 v],[(0,.cells 129 cs)]=>match yP cs with
  | some (pb,cb,mb,d,f)=>.ite (dec (H=[(0,rZ ⟨pb,cb,mb,d⟩ f)]/\g'=g/\knC g=true/\EA ⟨pb,cb,mb,d⟩ f/\byl v/\v.length<=5000/\0<=fl/\fl<=255))
    (.ite (xz fl g v f==0) (.ret (.int .i64 0) [(0,some (rZ (gC g v ⟨pb,cb,mb,d⟩) (stF f g)))]) (.ret (.int .i64 (xz fl g v f)) [(0,none)])) .fail
  | none=>.fail
 | _,_=>.fail
theorem H5(z:Dz)(f:Nat->Bool):rZ z (mtF (mtL f 256 0))=rZ z f:=by unfold rZ rS;rw[wP]
theorem oI{c:Chunk}{e:Int}{ups:List (Nat × Option Chunk)}(hu:ups=[]\/ups=[(0,none)]):Am.Told Tryz.prog [(0,c)] (.int .i64 e) ups (.int .i64 e) [(0,none)]:=by
 refine⟨.rfl',fun x c' hx=> ?_⟩
 simp only[ad]at hx
 by_cases h0:x=0
 . rw[if_pos h0]at hx;cases hx
 . rw[if_neg h0]at hx
   rcases hu with rfl | rfl
   . exact⟨c',hx,.rfl'⟩
   . exact⟨c',by simp only[ad,h0,if_false];exact hx,.rfl'⟩
theorem OW  (g:Int):Known Tryz.prog 57 (kX   g):=bd         (am        NV   Tryz.func57 rfl) (by
 intro args H v' ups' h
 unfold kX at h
 split at h
 . rename_i fl g' v cs
   split at h
   . rename_i pb cb mb d f hd
     rw[aa]at h
     cases hc:dec _ with
     | false=>rw[hc]at h;cases h
     | true=>
      rw[hc,cT,aa]at h
      obtain⟨hH,rfl,hk,⟨i1,i2,i3,i4⟩,hv,hl,f0,f1⟩:=dec_iff.1 hc
      rw[hH]
      have ht:opn κon Tryz.f57 (oAr fl g' v) [(0,rZ ⟨pb,cb,mb,d⟩ f)]=nT fl g' v ⟨pb,cb,mb,d⟩ f:=by
       rcases gY hk with rfl | rfl | rfl | rfl | rfl | rfl | rfl | rfl | rfl | rfl
       . exact o_1 ..
       . exact o_2 ..
       . exact o_4 ..
       . exact o_5 ..
       . exact o_9 ..
       . exact Ok ..
       . exact Ol ..
       . exact Om ..
       . exact On ..
       . exact Oo ..
      unfold nT at ht
      rw[Hk hk f0 f1]at ht
      unfold xz nQ at h
      cases hf:(iQ fl (igC g')==flC g')with
      | false=>
       rw[show(iQ fl (igC g')!=flC g')=true by unfold bne;rw[hf];rfl,cT]at ht
       rw[hf]at h
       cases h
       exact⟨_,_,congrArg ac ht,.inr (oI (.inl rfl))⟩
      | true=>
       rw[show(iQ fl (igC g')!=flC g')=false by unfold bne;rw[hf];rfl,cF]at ht
       rw[hf]at h
       cases hm:f g'.toNat with
       | true=>
        rw[hm]at ht h
        cases h
        exact⟨_,_,congrArg ac ht,.inr (oI (.inl rfl))⟩
       | false=>
        rw[hm,cF,H5,i1,H5,dec_iff.2 ⟨rfl,hv,hl,hk,fun e=>i2 (by subst e;exact hm),fun e=>i3 (by subst e;exact hm),fun e=>i4 (by subst e;exact hm)⟩,cT]at ht
        rw[hm]at h
        cases ho:okC g' v with
        | true=>
         rw[ho]at ht h
         cases h
         exact⟨_,_,congrArg ac ht,.inr ⟨.rfl',fun x c' hx=>⟨c',hx,.rfl'⟩⟩⟩
        | false=>
         rw[ho]at ht h
         cases h
         exact⟨_,_,congrArg ac ht,.inr (oI (.inr rfl))⟩
   . cases h
 . cases h)
noncomputable def xA:ag:=fun args H=>match args,H with
 | [.ptr 0 0,.int .u8 fl,.int .u8 g,.psl 5 v],[(0,.cells 129 cs)]=>match yP cs with
  | some (pb,cb,mb,d,f)=>.ite (dec (H=[(0,rZ ⟨pb,cb,mb,d⟩ f)]/\knC g=false/\0<=fl/\fl<=255))
    (.ite (cz .u8 fl 128==0) (.ret (.int .i64 17) [(0,none)]) (.ret (.int .i64 0) [])) .fail
  | none=>.fail
 | _,_=>.fail
theorem ou_k:Known Tryz.prog 57 xA  :=bd         (am        OH   Tryz.func57 rfl) (by
 intro args H v' ups' h
 unfold xA at h
 split at h
 . rename_i fl g v cs
   split at h
   . rename_i pb cb mb d f hd
     rw[aa]at h
     cases hc:dec _ with
     | false=>rw[hc]at h;cases h
     | true=>
      rw[hc,cT,aa]at h
      obtain⟨hH,hk,f0,f1⟩:=dec_iff.1 hc
      rw[hH]
      have ht:=o_u fl g v pb cb mb d f
      rw[dec_iff.2 ⟨hk,rfl⟩,cT,(Ez f0 f1).2]at ht
      cases hf:cz .u8 fl 128==0 with
      | true=>
       rw[hf]at ht h
       cases h
       exact⟨_,_,congrArg ac ht,.inr (oI (.inl rfl))⟩
      | false=>
       rw[hf]at ht h
       cases h
       exact⟨_,_,congrArg ac ht,.inr ⟨.rfl',fun x c' hx=>⟨c',hx,.rfl'⟩⟩⟩
   . cases h
 . cases h)
def lkF(f:Nat->Bool)(g:Int):Bool:=f g.toNat
def cnF(f:Nat->Bool):Nat->Bool:=mtF (mtL f 256 0)
theorem ta(f:Nat->Bool):∀ (n i:Nat),(mtL f n i).length=n
 | 0,_=>rfl
 | n+1,i=>by rw[mtL,List.length_cons,ta f n (i+1)]
theorem xb{f:Nat->Bool}(h:∀ i,256<=i->f i=false):cnF f=f:=by
 funext i
 unfold cnF mtF
 by_cases hi:i < 256
 . rw[sM f 256 0 i hi,Nat.zero_add];rfl
 . rw[gD0,List.getElem?_eq_none (by rw[ta];omega)]
   exact(h i (by omega)).symm
def aZc:Chunk:=.cells 49 [.int .i64 0,.nils,.int .u32 0,.bool false,.int .u32 0,.bool false,.int .u32 0,.bool false,.int .u32 0,.nils,.nils,.int .i64 0,.int .u32 0,.int .u32 0,.int .u32 0]
def qH(c:Chunk):HpL:=[(0,aZc),(1,.cells 28 [.int .i64 0,.int .i64 0]),(2,c)]
def qAr(p:List SV)(a:Int):List SV:=[.psl 5 p,.ptr 0 0,.nils,.nils,.ptr 1 0,.ptr 2 0,.int .i64 a]
def qV(c:Int)(p:List SV):SV:=.tup [.int .i64 c,.psl 5 p,.ptr 0 0,.nils,.nils,.ptr 1 0,.ptr 2 0]
noncomputable abbrev d8:=ew lkF stF
def qF(e a:Int):Chunk:=.cells 28 [.int .i64 e,.int .i64 a]
noncomputable def j7(p:List SV)(o:Int × Int × (Nat->Bool) × Dz):CTree:=
 .ite (o.1==0) (.ret (qV 2 p) [(2,some (rS false false false o.2.2.2.d o.2.2.1))]) (.ret (qV 1 p) [(1,some (qF o.1 o.2.1)),(0,some aZc),(2,none)])
def AI(p:List SV)(a:Int)(z:Dz)(f:Nat->Bool):Prop:=EA z f/\cnF f=f/\byl p/\p.length<=5000/\0<=a/\a<=p.length
noncomputable def q_s:ag:=fun args H=>match args,H with
 | [.psl 5 p,.ptr 0 0,.nils,.nils,.ptr 1 0,.ptr 2 0,.int .i64 a],[(0,_),(1,_),(2,.cells 129 cs)]=>match yP cs with
  | some (pb,cb,mb,d,f)=>.ite (dec (H=qH (rZ ⟨pb,cb,mb,d⟩ f)/\AI p a ⟨pb,cb,mb,d⟩ f)) (j7 p (d8 p p.length a.toNat 0 f ⟨pb,cb,mb,d⟩)) .fail
  | none=>.fail
 | _,_=>.fail
def qM:List SV->HpL->Nat
 | [.psl _ p,_,_,_,_,_,.int _ a],_=>p.length - a.toNat
 | _,_=>0
noncomputable def Dj:Code:=Tryz.f35.body.getD .skip
noncomputable def c10:Code:=(bv 3 Dj).getD .skip
noncomputable def e10:LEnt:={ins:=[0,2,3,4,5,6,7],outs:=[0,2,3,4,5,6],keep:=[],size:=118,code:=c10,s:=q_s}
noncomputable abbrev κq1(s:ag):=bn Tryz.prog (tbl [(55,sE),(57,s)]) 300 5
noncomputable abbrev ιq1:Nat->Bool:=fun g=>inl (tbl [(55,sE),(57,sE)]) g&&bB Tryz.prog g
theorem Dk{s:ag}(h:Known Tryz.prog 57 s):KOk Tryz.prog (κq1 s):=aL ak aq (af IX (af h ok0)) 300 5
noncomputable abbrev gn(N:Nat)(s:ag):ag:=av Tryz.prog (κq1 s) ιq1 (aF []) true 300 e10 {e10 with s:=ay qM q_s N} c10
/- Behind a round. -/
noncomputable def qNx(N:Nat)(p:List SV)(a:Int)(z:Dz)(f:Nat->Bool)(K:Int × Int × (Nat->Bool) × Dz->CTree):CTree:=
 bif Nat.blt (p.length - a.toNat) N then bif dec (qH (rZ z f)=qH (rZ (nZ z) (cnF f))/\AI p a (nZ z) (cnF f))then K (d8 p p.length a.toNat 0 (cnF f) (nZ z))else .fail else .fail
noncomputable def qK(p:List SV)(o:Int × Int × (Nat->Bool) × Dz):CTree:=
 bif o.1==0 then .ret (qV 2 p) [(2,some (rS false false false o.2.2.2.d o.2.2.1))]else .ret (qV 1 p) [(0,some aZc),(1,some (qF o.1 o.2.1)),(2,none)]
def Gr(p:List SV)(e a:Int):CTree:=.ret (qV 1 p) [(1,some (qF e a)),(0,some aZc)]
def HR(p:List SV)(e a:Int):CTree:=.ret (qV 1 p) [(1,some (qF e a)),(0,some aZc),(2,none)]
/- Where the value begins and ends. -/
noncomputable def qEd(p:List SV)(a h:Int):Int:=w64 (w64 (a+h)+w64 (tkN p (w64 (a+2)).toNat (w64 (h - 2)).toNat))
noncomputable def qVl(p:List SV)(a h:Int):List SV:=(p.drop (w64 (a+h)).toNat).take ((qEd p a h).toNat - (w64 (a+h)).toNat)
noncomputable def qX(p:List SV)(a h:Int)(K:List SV->Int->CTree):CTree:=
 bif decide (w64 (a+h) > (p.length:Int))then Gr p 4 a else ytC p (w64 (a+2)) (w64 (h - 2)) (bif decide (qEd p a h > (p.length:Int))then Gr p 4 a else ytC p (w64 (a+2)) (w64 (h - 2)) (
  bif inB a p.length then bif inB (w64 (a+1)) p.length then bif decide (0<=w64 (a+h))&&decide (w64 (a+h)<=qEd p a h)&&decide (qEd p a h<=(p.length:Int))then K (qVl p a h) (qEd p a h)else .fail else .fail else .fail))
noncomputable def qRd(p:List SV)(a:Int)(K:List SV->Int->CTree):CTree:=
 bif decide (a < (p.length:Int))then bif inB a p.length then bif cz .u8 (dg p a.toNat) 16 !=0 then qX p a 4 K else qX p a 3 K else .fail else .ret (qV 2 p) []
noncomputable def qOn(N:Nat)(g:Int)(p:List SV)(a:Int)(z:Dz)(f:Nat->Bool)(v:List SV)(e:Int):CTree:=
 bif dec ([(0,rZ z f)]=[(0,rZ (nZ z) (cnF f))]/\dg p (w64 (a+1)).toNat=g/\knC g=true/\EA (nZ z) (cnF f)/\byl v/\v.length<=5000/\0<=dg p a.toNat/\dg p a.toNat<=255)then
  bif xz (dg p a.toNat) g v (cnF f)==0 then qNx N p e (gC g v (nZ z)) (stF (cnF f) g) (qK p)
  else bif xz (dg p a.toNat) g v (cnF f)!=0 then HR p (xz (dg p a.toNat) g v (cnF f)) a else .fail
 else .fail
theorem q_1(N:Nat)(p:List SV)(a:Int)(pb cb mb:Bool)(d:Ds)(f:Nat->Bool):gn N (kX 1) (qAr p a) (qH (rZ ⟨pb,cb,mb,d⟩ f))=qRd p a (qOn N 1 p a ⟨pb,cb,mb,d⟩ f):=by cases pb <;> cases cb <;> cases mb <;> kernel_rfl
theorem q_2(N:Nat)(p:List SV)(a:Int)(pb cb mb:Bool)(d:Ds)(f:Nat->Bool):gn N (kX 2) (qAr p a) (qH (rZ ⟨pb,cb,mb,d⟩ f))=qRd p a (qOn N 2 p a ⟨pb,cb,mb,d⟩ f):=by cases pb <;> cases cb <;> cases mb <;> kernel_rfl
theorem q_4(N:Nat)(p:List SV)(a:Int)(pb cb mb:Bool)(d:Ds)(f:Nat->Bool):gn N (kX 4) (qAr p a) (qH (rZ ⟨pb,cb,mb,d⟩ f))=qRd p a (qOn N 4 p a ⟨pb,cb,mb,d⟩ f):=by cases pb <;> cases cb <;> cases mb <;> kernel_rfl
theorem q_5(N:Nat)(p:List SV)(a:Int)(pb cb mb:Bool)(d:Ds)(f:Nat->Bool):gn N (kX 5) (qAr p a) (qH (rZ ⟨pb,cb,mb,d⟩ f))=qRd p a (qOn N 5 p a ⟨pb,cb,mb,d⟩ f):=by cases pb <;> cases cb <;> cases mb <;> kernel_rfl
theorem q_9(N:Nat)(p:List SV)(a:Int)(pb cb mb:Bool)(d:Ds)(f:Nat->Bool):gn N (kX 9) (qAr p a) (qH (rZ ⟨pb,cb,mb,d⟩ f))=qRd p a (qOn N 9 p a ⟨pb,cb,mb,d⟩ f):=by cases pb <;> cases cb <;> cases mb <;> kernel_rfl
theorem NF(N:Nat)(p:List SV)(a:Int)(pb cb mb:Bool)(d:Ds)(f:Nat->Bool):gn N (kX 10) (qAr p a) (qH (rZ ⟨pb,cb,mb,d⟩ f))=qRd p a (qOn N 10 p a ⟨pb,cb,mb,d⟩ f):=by cases pb <;> cases cb <;> cases mb <;> kernel_rfl
theorem NG(N:Nat)(p:List SV)(a:Int)(pb cb mb:Bool)(d:Ds)(f:Nat->Bool):gn N (kX 14) (qAr p a) (qH (rZ ⟨pb,cb,mb,d⟩ f))=qRd p a (qOn N 14 p a ⟨pb,cb,mb,d⟩ f):=by cases pb <;> cases cb <;> cases mb <;> kernel_rfl
theorem NL(N:Nat)(p:List SV)(a:Int)(pb cb mb:Bool)(d:Ds)(f:Nat->Bool):gn N (kX 15) (qAr p a) (qH (rZ ⟨pb,cb,mb,d⟩ f))=qRd p a (qOn N 15 p a ⟨pb,cb,mb,d⟩ f):=by cases pb <;> cases cb <;> cases mb <;> kernel_rfl
theorem NM(N:Nat)(p:List SV)(a:Int)(pb cb mb:Bool)(d:Ds)(f:Nat->Bool):gn N (kX 16) (qAr p a) (qH (rZ ⟨pb,cb,mb,d⟩ f))=qRd p a (qOn N 16 p a ⟨pb,cb,mb,d⟩ f):=by cases pb <;> cases cb <;> cases mb <;> kernel_rfl
theorem NO(N:Nat)(p:List SV)(a:Int)(pb cb mb:Bool)(d:Ds)(f:Nat->Bool):gn N (kX 22) (qAr p a) (qH (rZ ⟨pb,cb,mb,d⟩ f))=qRd p a (qOn N 22 p a ⟨pb,cb,mb,d⟩ f):=by cases pb <;> cases cb <;> cases mb <;> kernel_rfl
noncomputable def qKu(p:List SV)(o:Int × Int × (Nat->Bool) × Dz):CTree:=
 bif o.1==0 then .ret (qV 2 p) [(2,some (rS false false false o.2.2.2.d o.2.2.1))]else .ret (qV 1 p) [(2,none),(0,some aZc),(1,some (qF o.1 o.2.1))]
noncomputable def qOu(N:Nat)(p:List SV)(a:Int)(z:Dz)(f:Nat->Bool)(v:List SV)(e:Int):CTree:=
 bif dec ([(0,rZ z f)]=[(0,rZ (nZ z) (cnF f))]/\knC (dg p (w64 (a+1)).toNat)=false/\0<=dg p a.toNat/\dg p a.toNat<=255)then
  bif cz .u8 (dg p a.toNat) 128==0 then HR p 17 a else qNx N p e z f (qKu p)
 else .fail
theorem q_u(N:Nat)(p:List SV)(a:Int)(pb cb mb:Bool)(d:Ds)(f:Nat->Bool):gn N xA (qAr p a) (qH (rZ ⟨pb,cb,mb,d⟩ f))=qRd p a (qOu N p a ⟨pb,cb,mb,d⟩ f):=by cases pb <;> cases cb <;> cases mb <;> kernel_rfl
end Go.Proofs.YtnlmhpancboddaaGreat
namespace Go.Proofs.YtnlmhpancboddaaGreat
open Go.Am
set_option maxRecDepth 100000
section
variable {p:List SV} {a:Nat} (hb:byl p) (hl:p.length<=5000)
include hb hl
omit hb hl in
theorem GP(h:¬ a < p.length)(K:List SV->Int->CTree):qRd p (a:Int) K= .ret (qV 2 p) []:=by
 unfold qRd;rw[dF (by omega)];rfl
theorem HW{h:Nat}(hd:hdN p a=h)(hh:h=3\/h=4)(ho:okN p a p.length)(K:List SV->Int->CTree):qX p (a:Int) (h:Int) K=K (vl p (vS p a) (vE p a)) (vE p a:Int):=by
 obtain⟨o1,o2⟩:=ho
 rw[hd]at o1 o2
 obtain⟨t1,t2⟩:=aX hb.ok (a+2) (h - 2)
 have hln:lnN p a=(tkN p (a+2) (h - 2)).toNat:=by unfold lnN;rw[hd]
 have w1:w64 ((a:Int)+(h:Int))=((a+h:Nat):Int):=by rw[show w64 ((a:Int)+h)=(a:Int)+h from ai (by omega) (by omega)];omega
 have w2:w64 ((a:Int)+2)=((a+2:Nat):Int):=by rw[show w64 ((a:Int)+2)=(a:Int)+2 from ai (by omega) (by omega)];omega
 have w3':w64 ((a:Int)+1)=((a+1:Nat):Int):=by rw[show w64 ((a:Int)+1)=(a:Int)+1 from ai (by omega) (by omega)];omega
 have w4:w64 ((h:Int) - 2)=((h - 2:Nat):Int):=by rw[show w64 ((h:Int) - 2)=(h:Int) - 2 from ai (by omega) (by omega)];omega
 have hE:qEd p (a:Int) (h:Int)=((vE p a:Nat):Int):=by
  unfold qEd vE
  rw[w1,w2,w4,hd]
  simp only[show(((a+2:Nat):Int)).toNat=a+2 from rfl,show(((h - 2:Nat):Int)).toNat=h - 2 from rfl]
  have t3:tkN p (a+2) (h - 2)=(lnN p a:Nat):=by omega
  rw[t3,show w64 ((lnN p a:Nat):Int)=((lnN p a:Nat):Int)from ai (by omega) (by omega),show w64 (((a+h:Nat):Int)+((lnN p a:Nat):Int))=((a+h:Nat):Int)+((lnN p a:Nat):Int)from ai (by omega) (by omega)]
  omega
 have hV:qVl p (a:Int) (h:Int)=vl p (vS p a) (vE p a):=by
  unfold qVl vl sl
  rw[hE,w1]
  unfold vS vE
  rw[hd]
  simp only[show ∀ x:Nat,((x:Nat):Int).toNat=x from fun _=>rfl]
 have hvE:vE p a=a+h+lnN p a:=by unfold vE;rw[hd]
 have hy:(((h - 2:Nat):Int)=1\/((h - 2:Nat):Int)=2\/((h - 2:Nat):Int)=3\/((h - 2:Nat):Int)=4):=by omega
 unfold qX ytC
 rw[hE,hV,w1,w2,w3',w4,dF (by omega),cF,dec_iff.2 ⟨hb,by omega,by omega,by omega,hy⟩,cT,dF (by omega),cF,cT,
  show inB (a:Int) p.length=true by unfold inB;simp;omega,cT,show inB ((a+1:Nat):Int) p.length=true by unfold inB;simp;omega,cT,dT0 (by omega),dT0 (by omega),dT0 (by omega)]
 rfl
theorem DJ    {h:Nat}(hd:hdN p a=h)(hh:h=3\/h=4)(hlt:a < p.length)(ho:¬ okN p a p.length)(K:List SV->Int->CTree):qX p (a:Int) (h:Int) K=Gr   p 4 a:=by
 obtain⟨t1,t2⟩:=aX hb.ok (a+2) (h - 2)
 have t4:(256:Int) ^ (h - 2)<=65536:=by rcases hh with rfl | rfl <;> decide
 have hln:lnN p a=(tkN p (a+2) (h - 2)).toNat:=by unfold lnN;rw[hd]
 have w1:w64 ((a:Int)+(h:Int))=((a+h:Nat):Int):=by rw[show w64 ((a:Int)+h)=(a:Int)+h from ai (by omega) (by omega)];omega
 have w2:w64 ((a:Int)+2)=((a+2:Nat):Int):=by rw[show w64 ((a:Int)+2)=(a:Int)+2 from ai (by omega) (by omega)];omega
 have w4:w64 ((h:Int) - 2)=((h - 2:Nat):Int):=by rw[show w64 ((h:Int) - 2)=(h:Int) - 2 from ai (by omega) (by omega)];omega
 unfold qX
 by_cases h1:a+h<=p.length
 . have hE:qEd p (a:Int) (h:Int)=((a+h+lnN p a:Nat):Int):=by
     unfold qEd
     rw[w1,w2,w4]
     simp only[show(((a+2:Nat):Int)).toNat=a+2 from rfl,show(((h - 2:Nat):Int)).toNat=h - 2 from rfl]
     have t3:tkN p (a+2) (h - 2)=(lnN p a:Nat):=by omega
     rw[t3,show w64 ((lnN p a:Nat):Int)=((lnN p a:Nat):Int)from ai (by omega) (by omega),show w64 (((a+h:Nat):Int)+((lnN p a:Nat):Int))=((a+h:Nat):Int)+((lnN p a:Nat):Int)from ai (by omega) (by omega)]
     omega
   have hgt:¬ a+h+lnN p a<=p.length:=fun hx=>ho ⟨by rw[hd];exact h1,by rw[hd];exact hx⟩
   have hy:(((h - 2:Nat):Int)=1\/((h - 2:Nat):Int)=2\/((h - 2:Nat):Int)=3\/((h - 2:Nat):Int)=4):=by omega
   unfold ytC
   rw[hE,w1,w2,w4,dF (by omega),cF,dec_iff.2 ⟨hb,by omega,by omega,by omega,hy⟩,cT,dT0 (by omega)]
   rfl
 . rw[w1,dT0 (by omega)];rfl
theorem DK(hlt:a < p.length)(ho:okN p a p.length)(K:List SV->Int->CTree):qRd p (a:Int) K=K (vl p (vS p a) (vE p a)) (vE p a:Int):=by
 unfold qRd
 rw[dT0 (by omega),cT,show inB (a:Int) p.length=true by unfold inB;simp;omega,cT,show((a:Int)).toNat=a from rfl]
 by_cases hf:cz .u8 (dg p a) 16≠0
 . rw[show(cz .u8 (dg p a) 16 !=0)=true by simpa using hf,cT]
   exact HW (h:=4) hb hl (if_pos hf) (.inr rfl) ho K
 . rw[show(cz .u8 (dg p a) 16 !=0)=false by simpa using hf,cF]
   exact HW (h:=3) hb hl (if_neg hf) (.inl rfl) ho K
theorem GQ(hlt:a < p.length)(ho:¬ okN p a p.length)(K:List SV->Int->CTree):qRd p (a:Int) K=Gr p 4 a:=by
 unfold qRd
 rw[dT0 (by omega),cT,show inB (a:Int) p.length=true by unfold inB;simp;omega,cT,show((a:Int)).toNat=a from rfl]
 by_cases hf:cz .u8 (dg p a) 16≠0
 . rw[show(cz .u8 (dg p a) 16 !=0)=true by simpa using hf,cT]
   exact DJ (h:=4) hb hl (if_pos hf) (.inr rfl) hlt ho K
 . rw[show(cz .u8 (dg p a) 16 !=0)=false by simpa using hf,cF]
   exact DJ (h:=3) hb hl (if_neg hf) (.inl rfl) hlt ho K
end
theorem DL{σ:Type}{lk:σ->Int->Bool}{st:σ->Int->σ}{es:List SV}{n a:Nat}{s:σ}{z:Dz}(h:a < n)(x y:Int):ew lk st es n a x s z=ew lk st es n a y s z:=by
 conv=>lhs;rw[ew,if_pos h]
 conv=>rhs;rw[ew,if_pos h]
theorem vL{p:List SV}{n a:Nat}{f:Nat->Bool}{z:Dz}(x y:Int):ac (j7 p (d8 p n a x f z))=ac (j7 p (d8 p n a y f z)):=by
 by_cases h:a < n
 . unfold d8;rw[DL h x y]
 . unfold d8;rw[fT h,fT h]
   unfold j7
   rw[aa,aa];rfl
end Go.Proofs.YtnlmhpancboddaaGreat
