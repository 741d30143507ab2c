/- The reference reads attributes: a value known, an attribute evaluated. -/
import Derived.Test.YtnlmhpancboddaaGreatPart25
set_option linter.unusedVariables false
set_option linter.unusedSimpArgs false
namespace Go.Proofs.YtnlmhpancboddaaGreat
open Go.Am
set_option maxRecDepth 100000
noncomputable def vv_s:CSumm:=fun args H=>match args,H with
 | [.ptr 0 0,.int .u8 g,.psl 5 v],[(0,.cells 129 cs)]=>match yP cs with
  | some(pb,cb,mb,d,f)=>.ite(dec(H=[(0,rZ⟨pb,cb,mb,d⟩f)]/\byl v/\v.length<=5000/\knC g=true/\(g=2->pb=true)/\(g=10->cb=true)/\(g=16->mb=true)))
    (.ite(okC g v)(.ret(.bool true) [(0,some(rZ(gC g v⟨pb,cb,mb,d⟩)f))])(.ret(.bool false) [(0,none)])) .fail
  | none=>.fail
 | _,_=>.fail
theorem va_k{T:LTab}(hT:LOk Tryz.prog T){c:Code}(hb:Tryz.f79.body=some(fillC T c)):Known Tryz.prog 79(vB T c):=⟨⟨Tryz.f79,Tryz.func79,noNum_at noNumTry Tryz.func79,rfl⟩,bodyL_valid vaOk mixTry hT Tryz.func79 hb⟩
theorem va_k1:Known Tryz.prog 79(vB(ltab [])body77):=va_k ltab_nil(show Tryz.f79.body=some(fillC(ltab [])body77)by kernel_rfl)
theorem va_k2:Known Tryz.prog 79(vB T77 m77):=va_k(ltab_cons yl_valid(ltab_cons ym_valid ltab_nil))(show Tryz.f79.body=some(fillC T77 m77)by kernel_rfl)
theorem vv_k:Known Tryz.prog 79 vv_s:=known_told_each va_k1(by
 intro args H v' ups' h
 unfold vv_s at h
 split at h
 . rename_i g v cs
   split at h
   . rename_i pb cb mb d f hd
     rw[crun_ite]at h
     cases hc:dec _ with
     | false=>rw[hc]at h;cases h
     | true=>
      rw[hc,cT,crun_ite]at h
      obtain⟨hH,hv,hl,hk,p2,p10,p16⟩:=dec_iff.1 hc
      rw[hH]
      have fin:∀ s,Known Tryz.prog 79 s->VGo s g v⟨pb,cb,mb,d⟩f(okC g v)(vOut g v⟨pb,cb,mb,d⟩f)->∃ s,Known Tryz.prog 79 s/\∃ v1 ups,crun(s [.ptr 0 0,.int .u8 g,.psl 5 v] [(0,rZ⟨pb,cb,mb,d⟩f)])=some(v1,ups)/\
        (Frozen Tryz.prog [(0,rZ⟨pb,cb,mb,d⟩f)]v1 ups v' ups'\/Am.Told Tryz.prog [(0,rZ⟨pb,cb,mb,d⟩f)]v1 ups v' ups'):=by
       intro s hs hg
       refine⟨s,hs,?_⟩
       unfold vOut at hg
       cases ho:okC g v with
       | true=>rw[ho]at h hg;cases h;exact hg
       | false=>rw[ho]at h hg;cases h;exact hg
      rcases knC_of hk with rfl | rfl | rfl | rfl | rfl | rfl | rfl | rfl | rfl | rfl
      . exact fin _ va_k1(vv_1)
      . have:=p2 rfl;subst this;exact fin _ va_k1(vv_2 hv hl)
      . exact fin _ va_k1(vv_n(dn:=d4)hv rfl rfl(v_4 v pb cb mb d f))
      . exact fin _ va_k1(vv_n(dn:=d5)hv rfl rfl(v_5 v pb cb mb d f))
      . exact fin _ va_k1(vv_n(dn:=d9)hv rfl rfl(v_9 v pb cb mb d f))
      . have:=p10 rfl;subst this;exact fin _ va_k2(vv_10 hv hl)
      . exact fin _ va_k1(vv_14 hv hl)
      . exact fin _ va_k1(vv_15 hv hl)
      . have:=p16 rfl;subst this;exact fin _ va_k2(vv_16 hl)
      . exact fin _ va_k1(vv_22 hv hl)
   . cases h
 . cases h)
noncomputable abbrev κon:=tbl [(79,vv_s)]
theorem onOk:KOk Tryz.prog κon:=tbl_cons vv_k ok0
def stF(f:Nat->Bool)(g:Int)(i:Nat):Bool:=bif Nat.beq i g.toNat then true else f i
def andR(g fl:Int):Int:=bif flC g==192 then andN(andN fl 16)32 else andN fl 16
def oAr(fl g:Int)(v:List SV):List SV:=[.ptr 0 0,.int .u8 fl,.int .u8 g,.psl 5 v]
noncomputable def oneT(fl g:Int)(v:List SV)(z:Dz)(f:Nat->Bool):CTree:=
 bif andR g fl!=flC g then .ret(.int .i64 17) []else bif f g.toNat then .ret(.int .i64 11) []else
 bif dec([(0,rZ z(stF f g))]=[(0,rZ(nZ z)(mtF(mtL(stF f g)256 0)))]/\byl v/\v.length<=5000/\knC g=true/\(g=2->z.pb=true)/\(g=10->z.cb=true)/\(g=16->z.mb=true))then
  bif okC g v then .ret(.int .i64 0) [(0,some(rZ(gC g v(nZ z))(mtF(mtL(stF f g)256 0))))]else .ret(.int .i64 3) [(0,none)]else .fail
theorem o_1(fl:Int)(v:List SV)(pb cb mb:Bool)(d:Ds)(f:Nat->Bool):opn κon Tryz.f57(oAr fl 1 v) [(0,rZ⟨pb,cb,mb,d⟩f)]=oneT fl 1 v⟨pb,cb,mb,d⟩f:=by cases pb <;> cases cb <;> cases mb <;> kernel_rfl
theorem o_2(fl:Int)(v:List SV)(pb cb mb:Bool)(d:Ds)(f:Nat->Bool):opn κon Tryz.f57(oAr fl 2 v) [(0,rZ⟨pb,cb,mb,d⟩f)]=oneT fl 2 v⟨pb,cb,mb,d⟩f:=by cases pb <;> cases cb <;> cases mb <;> kernel_rfl
theorem o_4(fl:Int)(v:List SV)(pb cb mb:Bool)(d:Ds)(f:Nat->Bool):opn κon Tryz.f57(oAr fl 4 v) [(0,rZ⟨pb,cb,mb,d⟩f)]=oneT fl 4 v⟨pb,cb,mb,d⟩f:=by cases pb <;> cases cb <;> cases mb <;> kernel_rfl
theorem o_5(fl:Int)(v:List SV)(pb cb mb:Bool)(d:Ds)(f:Nat->Bool):opn κon Tryz.f57(oAr fl 5 v) [(0,rZ⟨pb,cb,mb,d⟩f)]=oneT fl 5 v⟨pb,cb,mb,d⟩f:=by cases pb <;> cases cb <;> cases mb <;> kernel_rfl
theorem o_9(fl:Int)(v:List SV)(pb cb mb:Bool)(d:Ds)(f:Nat->Bool):opn κon Tryz.f57(oAr fl 9 v) [(0,rZ⟨pb,cb,mb,d⟩f)]=oneT fl 9 v⟨pb,cb,mb,d⟩f:=by cases pb <;> cases cb <;> cases mb <;> kernel_rfl
theorem o_10(fl:Int)(v:List SV)(pb cb mb:Bool)(d:Ds)(f:Nat->Bool):opn κon Tryz.f57(oAr fl 10 v) [(0,rZ⟨pb,cb,mb,d⟩f)]=oneT fl 10 v⟨pb,cb,mb,d⟩f:=by cases pb <;> cases cb <;> cases mb <;> kernel_rfl
theorem o_14(fl:Int)(v:List SV)(pb cb mb:Bool)(d:Ds)(f:Nat->Bool):opn κon Tryz.f57(oAr fl 14 v) [(0,rZ⟨pb,cb,mb,d⟩f)]=oneT fl 14 v⟨pb,cb,mb,d⟩f:=by cases pb <;> cases cb <;> cases mb <;> kernel_rfl
theorem o_15(fl:Int)(v:List SV)(pb cb mb:Bool)(d:Ds)(f:Nat->Bool):opn κon Tryz.f57(oAr fl 15 v) [(0,rZ⟨pb,cb,mb,d⟩f)]=oneT fl 15 v⟨pb,cb,mb,d⟩f:=by cases pb <;> cases cb <;> cases mb <;> kernel_rfl
theorem o_16(fl:Int)(v:List SV)(pb cb mb:Bool)(d:Ds)(f:Nat->Bool):opn κon Tryz.f57(oAr fl 16 v) [(0,rZ⟨pb,cb,mb,d⟩f)]=oneT fl 16 v⟨pb,cb,mb,d⟩f:=by cases pb <;> cases cb <;> cases mb <;> kernel_rfl
theorem o_22(fl:Int)(v:List SV)(pb cb mb:Bool)(d:Ds)(f:Nat->Bool):opn κon Tryz.f57(oAr fl 22 v) [(0,rZ⟨pb,cb,mb,d⟩f)]=oneT fl 22 v⟨pb,cb,mb,d⟩f:=by cases pb <;> cases cb <;> cases mb <;> kernel_rfl
noncomputable def fg_s:CSumm:=fun args H=>match args with
 | [.int .u8 g]=>.ite(dec(knC g=false/\H=[]))(.ret(.tup [.int .u8 0,.bool false]) []) .fail
 | _=>.fail
def fgQ(g k:Int)(A N M:CTree):CTree:=bif g==k then(bif g==k then A else N)else M
def fg16(g:Int)(C D:CTree):CTree:=fgQ g 16 C D(bif g==22 then C else D)
def fg4(g:Int)(B N:CTree):CTree:=fgQ g 4 B N(fgQ g 9 B N(fgQ g 10 B N(fgQ g 14 B N(bif g==15 then B else N))))
def fgT(g:Int)(A B C D:CTree):CTree:=fgQ g 1 A(fg4 g B(fg16 g C D))(fgQ g 2 A(fg4 g B(fg16 g C D))(bif g==5 then A else fg4 g B(fg16 g C D)))
def fgR(w:Int)(b:Bool):CTree:=.ret(.tup [.int .u8 w,.bool b]) []
theorem fg_t(g:Int):opn(tbl [])Tryz.f78 [.int .u8 g] []=fgT g(fgR 64 true)(fgR 128 true)(fgR 192 true)(fgR 0 false):=by kernel_rfl
theorem fg_k:Known Tryz.prog 78 fg_s:=(openKnown ok0 Tryz.func78 rfl).weak(by
 intro args H v ups h
 unfold fg_s at h
 split at h
 . rename_i g
   rw[crun_ite]at h
   cases hc:dec _ with
   | false=>rw[hc]at h;cases h
   | true=>
    rw[hc,cT]at h
    obtain⟨hk,rfl⟩:=dec_iff.1 hc
    have no:∀ k:Int,knC k=true->(g==k)=false:=fun k hkk=>beq_eq_false_iff_ne.2(fun e=>by rw[e,hkk]at hk;cases hk)
    refine(congrArg crun(fg_t g)).trans ?_
    unfold fgT fg4 fg16 fgQ
    rw[no 1 rfl,no 2 rfl,no 5 rfl,no 4 rfl,no 9 rfl,no 10 rfl,no 14 rfl,no 15 rfl,no 16 rfl,no 22 rfl]
    exact h
 . cases h)
noncomputable abbrev κou:=tbl [(79,vv_s),(78,fg_s)]
theorem ouOk:KOk Tryz.prog κou:=tbl_cons vv_k(tbl_cons fg_k ok0)
theorem o_u(fl g:Int)(v:List SV)(pb cb mb:Bool)(d:Ds)(f:Nat->Bool):opn κou Tryz.f57(oAr fl g v) [(0,rZ⟨pb,cb,mb,d⟩f)]=
 bif dec(knC g=false/\([]:HpL)=[])then bif andI .u8(andN fl 16)128==0 then .ret(.int .i64 17) []else .ret(.int .i64 0) []else .fail:=by cases pb <;> cases cb <;> cases mb <;> kernel_rfl
theorem byt_all:((List.range 256).all fun k=>(andN(andN(k:Int)16)32==andN(k:Int)48)&&(andI .u8(andN(k:Int)16)128==andI .u8(k:Int)128))=true:=by kernel_rfl
theorem byt_at{fl:Int}(h0:0<=fl)(h1:fl<=255):andN(andN fl 16)32=andN fl 48/\andI .u8(andN fl 16)128=andI .u8 fl 128:=by
 obtain⟨k,rfl⟩:=Int.eq_ofNat_of_zero_le h0
 have:=List.all_eq_true.1 byt_all k(List.mem_range.2(by omega))
 simp only[bA,beq_iff_eq]at this
 exact this
theorem andR_eq{g fl:Int}(hk:knC g=true)(h0:0<=fl)(h1:fl<=255):andR g fl=andN fl(igC g):=by
 rcases knC_of hk with rfl | rfl | rfl | rfl | rfl | rfl | rfl | rfl | rfl | rfl
 all_goals first | rfl | exact(byt_at h0 h1).1
def oInv(z:Dz)(f:Nat->Bool):Prop:=nZ z=z/\(f 2=false->z.pb=true)/\(f 10=false->z.cb=true)/\(f 16=false->z.mb=true)
noncomputable def oneE(fl g:Int)(v:List SV)(f:Nat->Bool):Int:=bif fitC g fl then(bif f g.toNat then 11 else bif okC g v then 0 else 3)else 17
noncomputable def on_s(g:Int):CSumm:=fun args H=>match args,H with
 | [.ptr 0 0,.int .u8 fl,.int .u8 g',.psl 5 v],[(0,.cells 129 cs)]=>match yP cs with
  | some(pb,cb,mb,d,f)=>.ite(dec(H=[(0,rZ⟨pb,cb,mb,d⟩f)]/\g'=g/\knC g=true/\oInv⟨pb,cb,mb,d⟩f/\byl v/\v.length<=5000/\0<=fl/\fl<=255))
    (.ite(oneE fl g v f==0)(.ret(.int .i64 0) [(0,some(rZ(gC g v⟨pb,cb,mb,d⟩)(stF f g)))])(.ret(.int .i64(oneE fl g v f)) [(0,none)])) .fail
  | none=>.fail
 | _,_=>.fail
theorem rZ_mt(z:Dz)(f:Nat->Bool):rZ z(mtF(mtL f 256 0))=rZ z f:=by unfold rZ rS;rw[mtF_mt]
theorem dropped{c:Chunk}{e:Int}{ups:List(Nat × Option Chunk)}(hu:ups=[]\/ups=[(0,none)]):Am.Told Tryz.prog [(0,c)] (.int .i64 e)ups(.int .i64 e) [(0,none)]:=by
 refine⟨.rfl',fun x c' hx=> ?_⟩
 simp only[updF]at hx
 by_cases h0:x=0
 . rw[if_pos h0]at hx;cases hx
 . rw[if_neg h0]at hx
   rcases hu with rfl | rfl
   . exact⟨c',hx,.rfl'⟩
   . exact⟨c',by simp only[updF,h0,if_false];exact hx,.rfl'⟩
theorem on_k(g:Int):Known Tryz.prog 57(on_s g):=known_told(openKnown onOk Tryz.func57 rfl)(by
 intro args H v' ups' h
 unfold on_s at h
 split at h
 . rename_i fl g' v cs
   split at h
   . rename_i pb cb mb d f hd
     rw[crun_ite]at h
     cases hc:dec _ with
     | false=>rw[hc]at h;cases h
     | true=>
      rw[hc,cT,crun_ite]at h
      obtain⟨hH,rfl,hk,⟨i1,i2,i3,i4⟩,hv,hl,f0,f1⟩:=dec_iff.1 hc
      rw[hH]
      have ht:opn κon Tryz.f57(oAr fl g' v) [(0,rZ⟨pb,cb,mb,d⟩f)]=oneT fl g' v⟨pb,cb,mb,d⟩f:=by
       rcases knC_of hk with rfl | rfl | rfl | rfl | rfl | rfl | rfl | rfl | rfl | rfl
       . exact o_1 ..
       . exact o_2 ..
       . exact o_4 ..
       . exact o_5 ..
       . exact o_9 ..
       . exact o_10 ..
       . exact o_14 ..
       . exact o_15 ..
       . exact o_16 ..
       . exact o_22 ..
      unfold oneT at ht
      rw[andR_eq hk f0 f1]at ht
      unfold oneE fitC at h
      cases hf:(andN fl(igC g')==flC g')with
      | false=>
       rw[show(andN fl(igC g')!=flC g')=true by unfold bne;rw[hf];rfl,cT]at ht
       rw[hf]at h
       cases h
       exact⟨_,_,congrArg crun ht,.inr(dropped(.inl rfl))⟩
      | true=>
       rw[show(andN fl(igC g')!=flC g')=false by unfold bne;rw[hf];rfl,cF]at ht
       rw[hf]at h
       cases hm:f g'.toNat with
       | true=>
        rw[hm]at ht h
        cases h
        exact⟨_,_,congrArg crun ht,.inr(dropped(.inl rfl))⟩
       | false=>
        rw[hm,cF,rZ_mt,i1,rZ_mt,dec_iff.2⟨rfl,hv,hl,hk,fun e=>i2(by subst e;exact hm),fun e=>i3(by subst e;exact hm),fun e=>i4(by subst e;exact hm)⟩,cT]at ht
        rw[hm]at h
        cases ho:okC g' v with
        | true=>
         rw[ho]at ht h
         cases h
         exact⟨_,_,congrArg crun ht,.inr⟨.rfl',fun x c' hx=>⟨c',hx,.rfl'⟩⟩⟩
        | false=>
         rw[ho]at ht h
         cases h
         exact⟨_,_,congrArg crun ht,.inr(dropped(.inr rfl))⟩
   . cases h
 . cases h)
noncomputable def ou_s:CSumm:=fun args H=>match args,H with
 | [.ptr 0 0,.int .u8 fl,.int .u8 g,.psl 5 v],[(0,.cells 129 cs)]=>match yP cs with
  | some(pb,cb,mb,d,f)=>.ite(dec(H=[(0,rZ⟨pb,cb,mb,d⟩f)]/\knC g=false/\0<=fl/\fl<=255))
    (.ite(andI .u8 fl 128==0)(.ret(.int .i64 17) [(0,none)])(.ret(.int .i64 0) [])) .fail
  | none=>.fail
 | _,_=>.fail
theorem ou_k:Known Tryz.prog 57 ou_s:=known_told(openKnown ouOk Tryz.func57 rfl)(by
 intro args H v' ups' h
 unfold ou_s at h
 split at h
 . rename_i fl g v cs
   split at h
   . rename_i pb cb mb d f hd
     rw[crun_ite]at h
     cases hc:dec _ with
     | false=>rw[hc]at h;cases h
     | true=>
      rw[hc,cT,crun_ite]at h
      obtain⟨hH,hk,f0,f1⟩:=dec_iff.1 hc
      rw[hH]
      have ht:=o_u fl g v pb cb mb d f
      rw[dec_iff.2⟨hk,rfl⟩,cT,(byt_at f0 f1).2]at ht
      cases hf:andI .u8 fl 128==0 with
      | true=>
       rw[hf]at ht h
       cases h
       exact⟨_,_,congrArg crun ht,.inr(dropped(.inl rfl))⟩
      | false=>
       rw[hf]at ht h
       cases h
       exact⟨_,_,congrArg crun ht,.inr⟨.rfl',fun x c' hx=>⟨c',hx,.rfl'⟩⟩⟩
   . cases h
 . cases h)
def lkF(f:Nat->Bool)(g:Int):Bool:=f g.toNat
def cnF(f:Nat->Bool):Nat->Bool:=mtF(mtL f 256 0)
theorem mtL_len(f:Nat->Bool):∀ (n i:Nat),(mtL f n i).length=n
 | 0,_=>rfl
 | n+1,i=>by rw[mtL,List.length_cons,mtL_len f n(i+1)]
theorem cnF_id{f:Nat->Bool}(h:∀ i,256<=i->f i=false):cnF f=f:=by
 funext i
 unfold cnF mtF
 by_cases hi:i < 256
 . rw[mtL_nth f 256 0 i hi,Nat.zero_add];rfl
 . rw[gD0,List.getElem?_eq_none(by rw[mtL_len];omega)]
   exact(h i(by omega)).symm
def aZc:Chunk:=.cells 49 [.int .i64 0,.nils,.int .u32 0,.bool false,.int .u32 0,.bool false,.int .u32 0,.bool false,.int .u32 0,.nils,.nils,.int .i64 0,.int .u32 0,.int .u32 0,.int .u32 0]
def qH(c:Chunk):HpL:=[(0,aZc),(1,.cells 28 [.int .i64 0,.int .i64 0]),(2,c)]
def qAr(p:List SV)(a:Int):List SV:=[.psl 5 p,.ptr 0 0,.nils,.nils,.ptr 1 0,.ptr 2 0,.int .i64 a]
def qV(c:Int)(p:List SV):SV:=.tup [.int .i64 c,.psl 5 p,.ptr 0 0,.nils,.nils,.ptr 1 0,.ptr 2 0]
noncomputable abbrev attM:=attL lkF stF
def qF(e a:Int):Chunk:=.cells 28 [.int .i64 e,.int .i64 a]
noncomputable def qEnd(p:List SV)(o:Int × Int × (Nat->Bool) × Dz):CTree:=
 .ite(o.1==0)(.ret(qV 2 p) [(2,some(rS false false false o.2.2.2.d o.2.2.1))])(.ret(qV 1 p) [(1,some(qF o.1 o.2.1)),(0,some aZc),(2,none)])
def qInv(p:List SV)(a:Int)(z:Dz)(f:Nat->Bool):Prop:=oInv z f/\cnF f=f/\byl p/\p.length<=5000/\0<=a/\a<=p.length
noncomputable def q_s:CSumm:=fun args H=>match args,H with
 | [.psl 5 p,.ptr 0 0,.nils,.nils,.ptr 1 0,.ptr 2 0,.int .i64 a],[(0,_),(1,_),(2,.cells 129 cs)]=>match yP cs with
  | some(pb,cb,mb,d,f)=>.ite(dec(H=qH(rZ⟨pb,cb,mb,d⟩f)/\qInv p a⟨pb,cb,mb,d⟩f))(qEnd p(attM p p.length a.toNat 0 f⟨pb,cb,mb,d⟩)) .fail
  | none=>.fail
 | _,_=>.fail
def qM:List SV->HpL->Nat
 | [.psl _ p,_,_,_,_,_,.int _ a],_=>p.length - a.toNat
 | _,_=>0
noncomputable def body10:Code:=Tryz.f35.body.getD .skip
noncomputable def c10:Code:=(loopAt 3 body10).getD .skip
noncomputable def e10:LEnt:={ins:=[0,2,3,4,5,6,7],outs:=[0,2,3,4,5,6],keep:=[],size:=118,code:=c10,s:=q_s}
noncomputable abbrev κq1(s:CSumm):=openT Tryz.prog(tbl [(55,yt_s),(57,s)])300 5
noncomputable abbrev ιq1:Nat->Bool:=fun g=>inl(tbl [(55,yt_s),(57,yt_s)])g&&hasBody Tryz.prog g
theorem q1Ok{s:CSumm}(h:Known Tryz.prog 57 s):KOk Tryz.prog(κq1 s):=openT_ok noNumTry mixTry(tbl_cons yt_k(tbl_cons h ok0))300 5
noncomputable abbrev qOnce(N:Nat)(s:CSumm):CSumm:=loopOnce Tryz.prog(κq1 s)ιq1(ltab [])true 300 e10{e10 with s:=boundT qM q_s N}c10
/- Behind a round. -/
noncomputable def qNx(N:Nat)(p:List SV)(a:Int)(z:Dz)(f:Nat->Bool)(K:Int × Int × (Nat->Bool) × Dz->CTree):CTree:=
 bif Nat.blt(p.length - a.toNat)N then bif dec(qH(rZ z f)=qH(rZ(nZ z)(cnF f))/\qInv p a(nZ z)(cnF f))then K(attM p p.length a.toNat 0(cnF f)(nZ z))else .fail else .fail
noncomputable def qK(p:List SV)(o:Int × Int × (Nat->Bool) × Dz):CTree:=
 bif o.1==0 then .ret(qV 2 p) [(2,some(rS false false false o.2.2.2.d o.2.2.1))]else .ret(qV 1 p) [(0,some aZc),(1,some(qF o.1 o.2.1)),(2,none)]
def qFlt(p:List SV)(e a:Int):CTree:=.ret(qV 1 p) [(1,some(qF e a)),(0,some aZc)]
def qFlt2(p:List SV)(e a:Int):CTree:=.ret(qV 1 p) [(1,some(qF e a)),(0,some aZc),(2,none)]
/- Where the value begins and ends. -/
noncomputable def qEd(p:List SV)(a h:Int):Int:=w64(w64(a+h)+w64(tkN p(w64(a+2)).toNat(w64(h - 2)).toNat))
noncomputable def qVl(p:List SV)(a h:Int):List SV:=(p.drop(w64(a+h)).toNat).take((qEd p a h).toNat - (w64(a+h)).toNat)
noncomputable def qX(p:List SV)(a h:Int)(K:List SV->Int->CTree):CTree:=
 bif decide(w64(a+h) > (p.length:Int))then qFlt p 4 a else ytC p(w64(a+2))(w64(h - 2))(bif decide(qEd p a h > (p.length:Int))then qFlt p 4 a else ytC p(w64(a+2))(w64(h - 2))(
  bif inB a p.length then bif inB(w64(a+1))p.length then bif decide(0<=w64(a+h))&&decide(w64(a+h)<=qEd p a h)&&decide(qEd p a h<=(p.length:Int))then K(qVl p a h)(qEd p a h)else .fail else .fail else .fail))
noncomputable def qRd(p:List SV)(a:Int)(K:List SV->Int->CTree):CTree:=
 bif decide(a < (p.length:Int))then bif inB a p.length then bif andI .u8(dg p a.toNat)16!=0 then qX p a 4 K else qX p a 3 K else .fail else .ret(qV 2 p) []
noncomputable def qOn(N:Nat)(g:Int)(p:List SV)(a:Int)(z:Dz)(f:Nat->Bool)(v:List SV)(e:Int):CTree:=
 bif dec([(0,rZ z f)]=[(0,rZ(nZ z)(cnF f))]/\dg p(w64(a+1)).toNat=g/\knC g=true/\oInv(nZ z)(cnF f)/\byl v/\v.length<=5000/\0<=dg p a.toNat/\dg p a.toNat<=255)then
  bif oneE(dg p a.toNat)g v(cnF f)==0 then qNx N p e(gC g v(nZ z))(stF(cnF f)g)(qK p)
  else bif oneE(dg p a.toNat)g v(cnF f)!=0 then qFlt2 p(oneE(dg p a.toNat)g v(cnF f))a else .fail
 else .fail
theorem q_1(N:Nat)(p:List SV)(a:Int)(pb cb mb:Bool)(d:Ds)(f:Nat->Bool):qOnce N(on_s 1)(qAr p a)(qH(rZ⟨pb,cb,mb,d⟩f))=qRd p a(qOn N 1 p a⟨pb,cb,mb,d⟩f):=by cases pb <;> cases cb <;> cases mb <;> kernel_rfl
theorem q_2(N:Nat)(p:List SV)(a:Int)(pb cb mb:Bool)(d:Ds)(f:Nat->Bool):qOnce N(on_s 2)(qAr p a)(qH(rZ⟨pb,cb,mb,d⟩f))=qRd p a(qOn N 2 p a⟨pb,cb,mb,d⟩f):=by cases pb <;> cases cb <;> cases mb <;> kernel_rfl
theorem q_4(N:Nat)(p:List SV)(a:Int)(pb cb mb:Bool)(d:Ds)(f:Nat->Bool):qOnce N(on_s 4)(qAr p a)(qH(rZ⟨pb,cb,mb,d⟩f))=qRd p a(qOn N 4 p a⟨pb,cb,mb,d⟩f):=by cases pb <;> cases cb <;> cases mb <;> kernel_rfl
theorem q_5(N:Nat)(p:List SV)(a:Int)(pb cb mb:Bool)(d:Ds)(f:Nat->Bool):qOnce N(on_s 5)(qAr p a)(qH(rZ⟨pb,cb,mb,d⟩f))=qRd p a(qOn N 5 p a⟨pb,cb,mb,d⟩f):=by cases pb <;> cases cb <;> cases mb <;> kernel_rfl
theorem q_9(N:Nat)(p:List SV)(a:Int)(pb cb mb:Bool)(d:Ds)(f:Nat->Bool):qOnce N(on_s 9)(qAr p a)(qH(rZ⟨pb,cb,mb,d⟩f))=qRd p a(qOn N 9 p a⟨pb,cb,mb,d⟩f):=by cases pb <;> cases cb <;> cases mb <;> kernel_rfl
theorem q_10(N:Nat)(p:List SV)(a:Int)(pb cb mb:Bool)(d:Ds)(f:Nat->Bool):qOnce N(on_s 10)(qAr p a)(qH(rZ⟨pb,cb,mb,d⟩f))=qRd p a(qOn N 10 p a⟨pb,cb,mb,d⟩f):=by cases pb <;> cases cb <;> cases mb <;> kernel_rfl
theorem q_14(N:Nat)(p:List SV)(a:Int)(pb cb mb:Bool)(d:Ds)(f:Nat->Bool):qOnce N(on_s 14)(qAr p a)(qH(rZ⟨pb,cb,mb,d⟩f))=qRd p a(qOn N 14 p a⟨pb,cb,mb,d⟩f):=by cases pb <;> cases cb <;> cases mb <;> kernel_rfl
theorem q_15(N:Nat)(p:List SV)(a:Int)(pb cb mb:Bool)(d:Ds)(f:Nat->Bool):qOnce N(on_s 15)(qAr p a)(qH(rZ⟨pb,cb,mb,d⟩f))=qRd p a(qOn N 15 p a⟨pb,cb,mb,d⟩f):=by cases pb <;> cases cb <;> cases mb <;> kernel_rfl
theorem q_16(N:Nat)(p:List SV)(a:Int)(pb cb mb:Bool)(d:Ds)(f:Nat->Bool):qOnce N(on_s 16)(qAr p a)(qH(rZ⟨pb,cb,mb,d⟩f))=qRd p a(qOn N 16 p a⟨pb,cb,mb,d⟩f):=by cases pb <;> cases cb <;> cases mb <;> kernel_rfl
theorem q_22(N:Nat)(p:List SV)(a:Int)(pb cb mb:Bool)(d:Ds)(f:Nat->Bool):qOnce N(on_s 22)(qAr p a)(qH(rZ⟨pb,cb,mb,d⟩f))=qRd p a(qOn N 22 p a⟨pb,cb,mb,d⟩f):=by cases pb <;> cases cb <;> cases mb <;> kernel_rfl
noncomputable def qKu(p:List SV)(o:Int × Int × (Nat->Bool) × Dz):CTree:=
 bif o.1==0 then .ret(qV 2 p) [(2,some(rS false false false o.2.2.2.d o.2.2.1))]else .ret(qV 1 p) [(2,none),(0,some aZc),(1,some(qF o.1 o.2.1))]
noncomputable def qOu(N:Nat)(p:List SV)(a:Int)(z:Dz)(f:Nat->Bool)(v:List SV)(e:Int):CTree:=
 bif dec([(0,rZ z f)]=[(0,rZ(nZ z)(cnF f))]/\knC(dg p(w64(a+1)).toNat)=false/\0<=dg p a.toNat/\dg p a.toNat<=255)then
  bif andI .u8(dg p a.toNat)128==0 then qFlt2 p 17 a else qNx N p e z f(qKu p)
 else .fail
theorem q_u(N:Nat)(p:List SV)(a:Int)(pb cb mb:Bool)(d:Ds)(f:Nat->Bool):qOnce N ou_s(qAr p a)(qH(rZ⟨pb,cb,mb,d⟩f))=qRd p a(qOu N p a⟨pb,cb,mb,d⟩f):=by cases pb <;> cases cb <;> cases mb <;> kernel_rfl
end Go.Proofs.YtnlmhpancboddaaGreat
namespace Go.Proofs.YtnlmhpancboddaaGreat
open Go.Am
set_option maxRecDepth 100000
section
variable{p:List SV}{a:Nat}(hb:byl p)(hl:p.length<=5000)
include hb hl
omit hb hl in
theorem qRd_end(h:¬ a < p.length)(K:List SV->Int->CTree):qRd p(a:Int)K= .ret(qV 2 p) []:=by
 unfold qRd;rw[dF(by omega)];rfl
theorem qX_ok{h:Nat}(hd:hdN p a=h)(hh:h=3\/h=4)(ho:okN p a p.length)(K:List SV->Int->CTree):qX p(a:Int)(h:Int)K=K(vl p(vS p a)(vE p a))(vE p a:Int):=by
 obtain⟨o1,o2⟩:=ho
 rw[hd]at o1 o2
 obtain⟨t1,t2⟩:=tkN_rng hb.ok(a+2)(h - 2)
 have hln:lnN p a=(tkN p(a+2)(h - 2)).toNat:=by unfold lnN;rw[hd]
 have w1:w64((a:Int)+(h:Int))=((a+h:Nat):Int):=by rw[show w64((a:Int)+h)=(a:Int)+h from w64_id(by omega)(by omega)];omega
 have w2:w64((a:Int)+2)=((a+2:Nat):Int):=by rw[show w64((a:Int)+2)=(a:Int)+2 from w64_id(by omega)(by omega)];omega
 have w3':w64((a:Int)+1)=((a+1:Nat):Int):=by rw[show w64((a:Int)+1)=(a:Int)+1 from w64_id(by omega)(by omega)];omega
 have w4:w64((h:Int) - 2)=((h - 2:Nat):Int):=by rw[show w64((h:Int) - 2)=(h:Int) - 2 from w64_id(by omega)(by omega)];omega
 have hE:qEd p(a:Int)(h:Int)=((vE p a:Nat):Int):=by
  unfold qEd vE
  rw[w1,w2,w4,hd]
  simp only[show(((a+2:Nat):Int)).toNat=a+2 from rfl,show(((h - 2:Nat):Int)).toNat=h - 2 from rfl]
  have t3:tkN p(a+2)(h - 2)=(lnN p a:Nat):=by omega
  rw[t3,show w64((lnN p a:Nat):Int)=((lnN p a:Nat):Int)from w64_id(by omega)(by omega),show w64(((a+h:Nat):Int)+((lnN p a:Nat):Int))=((a+h:Nat):Int)+((lnN p a:Nat):Int)from w64_id(by omega)(by omega)]
  omega
 have hV:qVl p(a:Int)(h:Int)=vl p(vS p a)(vE p a):=by
  unfold qVl vl sl
  rw[hE,w1]
  unfold vS vE
  rw[hd]
  simp only[show ∀ x:Nat,((x:Nat):Int).toNat=x from fun _=>rfl]
 have hvE:vE p a=a+h+lnN p a:=by unfold vE;rw[hd]
 have hy:(((h - 2:Nat):Int)=1\/((h - 2:Nat):Int)=2\/((h - 2:Nat):Int)=3\/((h - 2:Nat):Int)=4):=by omega
 unfold qX ytC
 rw[hE,hV,w1,w2,w3',w4,dF(by omega),cF,dec_iff.2⟨hb,by omega,by omega,by omega,hy⟩,cT,dF(by omega),cF,cT,
  show inB(a:Int)p.length=true by unfold inB;simp;omega,cT,show inB((a+1:Nat):Int)p.length=true by unfold inB;simp;omega,cT,dT0(by omega),dT0(by omega),dT0(by omega)]
 rfl
theorem qX_cut{h:Nat}(hd:hdN p a=h)(hh:h=3\/h=4)(hlt:a < p.length)(ho:¬ okN p a p.length)(K:List SV->Int->CTree):qX p(a:Int)(h:Int)K=qFlt p 4 a:=by
 obtain⟨t1,t2⟩:=tkN_rng hb.ok(a+2)(h - 2)
 have t4:(256:Int) ^ (h - 2)<=65536:=by rcases hh with rfl | rfl <;> decide
 have hln:lnN p a=(tkN p(a+2)(h - 2)).toNat:=by unfold lnN;rw[hd]
 have w1:w64((a:Int)+(h:Int))=((a+h:Nat):Int):=by rw[show w64((a:Int)+h)=(a:Int)+h from w64_id(by omega)(by omega)];omega
 have w2:w64((a:Int)+2)=((a+2:Nat):Int):=by rw[show w64((a:Int)+2)=(a:Int)+2 from w64_id(by omega)(by omega)];omega
 have w4:w64((h:Int) - 2)=((h - 2:Nat):Int):=by rw[show w64((h:Int) - 2)=(h:Int) - 2 from w64_id(by omega)(by omega)];omega
 unfold qX
 by_cases h1:a+h<=p.length
 . have hE:qEd p(a:Int)(h:Int)=((a+h+lnN p a:Nat):Int):=by
     unfold qEd
     rw[w1,w2,w4]
     simp only[show(((a+2:Nat):Int)).toNat=a+2 from rfl,show(((h - 2:Nat):Int)).toNat=h - 2 from rfl]
     have t3:tkN p(a+2)(h - 2)=(lnN p a:Nat):=by omega
     rw[t3,show w64((lnN p a:Nat):Int)=((lnN p a:Nat):Int)from w64_id(by omega)(by omega),show w64(((a+h:Nat):Int)+((lnN p a:Nat):Int))=((a+h:Nat):Int)+((lnN p a:Nat):Int)from w64_id(by omega)(by omega)]
     omega
   have hgt:¬ a+h+lnN p a<=p.length:=fun hx=>ho⟨by rw[hd];exact h1,by rw[hd];exact hx⟩
   have hy:(((h - 2:Nat):Int)=1\/((h - 2:Nat):Int)=2\/((h - 2:Nat):Int)=3\/((h - 2:Nat):Int)=4):=by omega
   unfold ytC
   rw[hE,w1,w2,w4,dF(by omega),cF,dec_iff.2⟨hb,by omega,by omega,by omega,hy⟩,cT,dT0(by omega)]
   rfl
 . rw[w1,dT0(by omega)];rfl
theorem qRd_ok(hlt:a < p.length)(ho:okN p a p.length)(K:List SV->Int->CTree):qRd p(a:Int)K=K(vl p(vS p a)(vE p a))(vE p a:Int):=by
 unfold qRd
 rw[dT0(by omega),cT,show inB(a:Int)p.length=true by unfold inB;simp;omega,cT,show((a:Int)).toNat=a from rfl]
 by_cases hf:andI .u8(dg p a)16≠0
 . rw[show(andI .u8(dg p a)16!=0)=true by simpa using hf,cT]
   exact qX_ok(h:=4)hb hl(if_pos hf)(.inr rfl)ho K
 . rw[show(andI .u8(dg p a)16!=0)=false by simpa using hf,cF]
   exact qX_ok(h:=3)hb hl(if_neg hf)(.inl rfl)ho K
theorem qRd_cut(hlt:a < p.length)(ho:¬ okN p a p.length)(K:List SV->Int->CTree):qRd p(a:Int)K=qFlt p 4 a:=by
 unfold qRd
 rw[dT0(by omega),cT,show inB(a:Int)p.length=true by unfold inB;simp;omega,cT,show((a:Int)).toNat=a from rfl]
 by_cases hf:andI .u8(dg p a)16≠0
 . rw[show(andI .u8(dg p a)16!=0)=true by simpa using hf,cT]
   exact qX_cut(h:=4)hb hl(if_pos hf)(.inr rfl)hlt ho K
 . rw[show(andI .u8(dg p a)16!=0)=false by simpa using hf,cF]
   exact qX_cut(h:=3)hb hl(if_neg hf)(.inl rfl)hlt ho K
end
theorem attL_any{σ:Type}{lk:σ->Int->Bool}{st:σ->Int->σ}{es:List SV}{n a:Nat}{s:σ}{z:Dz}(h:a < n)(x y:Int):attL lk st es n a x s z=attL lk st es n a y s z:=by
 conv=>lhs;rw[attL,if_pos h]
 conv=>rhs;rw[attL,if_pos h]
theorem qEnd_any{p:List SV}{n a:Nat}{f:Nat->Bool}{z:Dz}(x y:Int):crun(qEnd p(attM p n a x f z))=crun(qEnd p(attM p n a y f z)):=by
 by_cases h:a < n
 . unfold attM;rw[attL_any h x y]
 . unfold attM;rw[attL_end h,attL_end h]
   unfold qEnd
   rw[crun_ite,crun_ite];rfl
end Go.Proofs.YtnlmhpancboddaaGreat
