/- Attributes are read: the main loop is valid. -/
import Derived.Test.YtnlmhpancboddaaGreatPart12
import Derived.Test.YtnlmhpancboddaaGreatMachine6
set_option linter.unusedVariables false
set_option linter.unusedSimpArgs false
namespace Go.Proofs.YtnlmhpancboddaaGreat
open Go.Am
set_option maxRecDepth 100000
theorem EQ     :aR     Tryz.prog e9:=uB          (T:=aL   []) (sp:=true) (fuel:=300) (c:=c9) (μ:=mM) ax     aE       (show aM    (aL   []) c9=c9 by kernel_rfl) (by
 intro N args H v' ups' hbt h
 unfold e9 m_s at h
 simp only[]at h
 split at h
 . rename_i er at_ x1 x2 x3 x4 x5 x6 cs x8 x9 x10 x11 x12 x13 x14 x15 x16 kd kvs a e n re rf x18 es
   split at h
   . rename_i pb cb mb d hd
     rw[aa]at h
     cases her:(er==0)with
     | false=>
      rw[her,cF,aa]at h
      cases hc:dec _ with
      | false=>rw[hc]at h;cases h
      | true=>
       rw[hc,cT]at h
       have hH:=dec_iff.1 hc
       rw[hH]
       have hx:=MK N er at_ pb cb mb d kvs ⟨a,e,re,rf⟩ n es
       rw[her,cF,cF]at hx
       cases h
       exact⟨κma vA,ιma,Bo Kj,.inr (.inr ⟨_,_,congrArg ae hx,rK rfl⟩)⟩
     | true=>
      have he0:er=0:=by simpa using her
      subst he0
      rw[her,cT,aa]at h
      cases hc:dec _ with
      | false=>rw[hc]at h;cases h
      | true=>
       rw[hc,cT]at h
       obtain⟨hH,hm⟩:=dec_iff.1 hc
       rw[hH]at hbt ⊢
       have hN:n - a.toNat+1 < N+1:=by
        have:Nat.blt (n - a.toNat+1) (N+1)=true:=hbt
        rwa [bL]at this
       generalize a.toNat=b at *
       by_cases hlt:b < n
       . by_cases ho:okN es b n
         . cases hk:knC (cz es b)with
           | false=>exact⟨κmu,ιmu,LT,Cc hm hN h hlt ho hk⟩
           | true=>
            refine⟨κma (kY (cz es b)),ιma,Bo (Om _),?_⟩
            obtain⟨p1,p2,p3,p4,p5,p6,p7,p8⟩:=hm
            have hm:mOk b n es kvs ⟨pb,cb,mb,d⟩:=⟨p1,p2,p3,p4,p5,p6,p7,p8⟩
            rcases BL hk with hg | hg | hg | hg | hg | hg | hg | hg | hg | hg
            . rw[hg];exact fh hm hN h hlt ho hg rfl (m_1 N at_ pb cb mb d kvs (RD b n) n es) (fun q1 q2 q3=>⟨by rw[q2],q1,.inl rfl⟩)
            . rw[hg];exact fh hm hN h hlt ho hg rfl (m_2 N at_ pb cb mb d kvs (RD b n) n es) (fun q1 q2 q3=>⟨by rw[q2],q1,p6 q3⟩)
            . rw[hg];exact fh hm hN h hlt ho hg rfl (m_4 N at_ pb cb mb d kvs (RD b n) n es) (fun q1 q2 q3=>⟨by rw[q2],q1,.inr (.inl rfl)⟩)
            . rw[hg];exact fh hm hN h hlt ho hg rfl (m_5 N at_ pb cb mb d kvs (RD b n) n es) (fun q1 q2 q3=>⟨by rw[q2],q1,.inr (.inr (.inl rfl))⟩)
            . rw[hg];exact fh hm hN h hlt ho hg rfl (m_9 N at_ pb cb mb d kvs (RD b n) n es) (fun q1 q2 q3=>⟨by rw[q2],q1,.inr (.inr (.inr rfl))⟩)
            . rw[hg];exact fh hm hN h hlt ho hg rfl (Nr N at_ pb cb mb d kvs (RD b n) n es) (fun q1 q2 q3=>⟨by rw[q2],q1,p7 q3⟩)
            . rw[hg];exact fh hm hN h hlt ho hg rfl (Ns N at_ pb cb mb d kvs (RD b n) n es) (fun q1 q2 q3=>⟨by rw[q2],q1,rfl⟩)
            . rw[hg];exact fh hm hN h hlt ho hg rfl (Nt N at_ pb cb mb d kvs (RD b n) n es) (fun q1 q2 q3=>⟨by rw[q2],q1,rfl⟩)
            . rw[hg];exact fh hm hN h hlt ho hg rfl (Nu N at_ pb cb mb d kvs (RD b n) n es) (fun q1 q2 q3=>⟨by rw[q2],q1,p8 q3⟩)
            . rw[hg];exact fh hm hN h hlt ho hg rfl (Nv N at_ pb cb mb d kvs (RD b n) n es) (fun q1 q2 q3=>⟨by rw[q2],q1,rfl⟩)
         . exact⟨κma D1,ιma,Bo On,Cb hm hN h hlt ho⟩
       . obtain⟨p1,p2,p3,p4,p5,p6,p7,p8⟩:=hm
         have hbn:b=n:=by omega
         subst hbn
         have hl:lfI (RD b b)=0:=by have:=iR (s:=b) (t:=b) (k:=0) (by omega) (by omega);simpa using this
         have hx:=MK N 0 at_ pb cb mb d kvs (RD b b) b es
         rw[hl]at hx
         rw[gq,ur hlt]at h
         unfold o9 at h
         rw[aa]at h
         cases h
         refine⟨κma vA,ιma,Bo Kj,.inr (.inr ⟨_,_,congrArg ae hx,2,_,_,rfl,rfl,.rfl',fun x c' hx=> ?_⟩)⟩
         simp only[ad]at hx
         by_cases h18:x=18
         . rw[if_pos h18]at hx;cases hx
         . rw[if_neg h18]at hx
           by_cases h17:x=17
           . subst h17;rw[if_pos rfl]at hx;cases hx;exact⟨_,rfl,.rfl'⟩
           . rw[if_neg h17]at hx
             by_cases h7:x=7
             . subst h7;rw[if_pos rfl]at hx;cases hx;exact⟨_,rfl,L8 p5⟩
             . rw[if_neg h7]at hx
               by_cases h0:x=0
               . subst h0;rw[if_pos rfl]at hx;cases hx;exact⟨_,rfl,.rfl'⟩
               . rw[if_neg h0]at hx;exact⟨c',hx,.rfl'⟩
   . rw[aa]at h
     cases her:(er==0)with
     | true=>rw[her]at h;cases h
     | false=>
      rw[her,cF,aa]at h
      cases hc:dec _ with
      | false=>rw[hc]at h;cases h
      | true=>
       rw[hc,cT]at h
       have hH:=dec_iff.1 hc
       rw[hH]
       have hx:=Oc N er at_ kvs ⟨a,e,re,rf⟩ n es
       rw[her,cF,cF]at hx
       cases h
       exact⟨κma vA,ιma,Bo Kj,.inr (.inr ⟨_,_,congrArg ae hx,rK rfl⟩)⟩
 . cases h)
def dI0:Ds:=⟨0,0,0,0,0,0,0,0,0,false,false,false,[],[],[],[],[]⟩
def zI:Dz:=⟨true,true,true,dI0⟩
def dI:Chunk:=.cells 177 [.int .i64 0,.nils,.int .u32 0,.bool false,.int .u32 0,.bool false,.int .u32 0,.bool false,.int .u32 0,.nils,.nils,.int .i64 0,.int .u32 0,.int .u32 0,.int .u32 0,.nils,.nils]
noncomputable def La:ag:=fun args H=>match args,H with
 | [.ptr 0 0,.ptr 1 0,.mp 2,.mp 17,.ptr 18 0],[_,_,_,_,_,_,_,_,_,_,_,_,_,_,_,_,_,_,(18,.cells 157 [.int .i64 _,.int .i64 _,.qs 19 1 0 n,_,_,_]),(19,.seq 5 es)]=>
  .ite (dec (H=mH 0 0 dI [] (RD 0 n) n es/\byl es/\n=es.length/\n<=1000000)) (o9 (gq es n 0 0 [] zI) n) .fail
 | _,_=>.fail
theorem OB{n:Nat}{es:List SV}(h1:byl es)(h2:n=es.length)(h3:n<=1000000):mOk 0 n es [] zI:=⟨h1,h2,h3,Nat.zero_le _,rfl,fun _=>rfl,fun _=>rfl,fun _=>rfl⟩
theorem G8{n:Nat}{es:List SV}(h1:byl es)(h2:n=es.length)(h3:n<=1000000):ae (m_s hZ (mH 0 0 (zC zI) [] (RD 0 n) n es))=ae (o9 (gq es n 0 0 [] zI) n):=by
 show ae (.ite (0==0) (.ite (dec (mH 0 0 (zC zI) [] (RD 0 n) n es=mH 0 0 (zC zI) [] (RD 0 n) n es/\mOk 0 n es [] zI)) (o9 (gq es n 0 0 [] zI) n) .fail) _)=_
 rw[aa,show((0:Int)==0)=true from rfl,cT,aa,dec_iff.2 ⟨rfl,OB h1 h2 h3⟩,cT]
theorem xS{er at_:Int}{c:Chunk}{kvs:List (Int × Bool)}{r:Rd}{n:Nat}{es:List SV}{x:Nat}(h:x≠7)(c':Chunk):(mH er at_ c kvs r n es).get x=(mH er at_ c' kvs r n es).get x:=by
 simp only[mH,HpL.get]
 rw[show Nat.beq 7 x=false from b8 (fun e=>h e.symm)]
 rfl
theorem Es{er at_:Int}{c:Chunk}{kvs:List (Int × Bool)}{r:Rd}{n:Nat}{es:List SV}:gL (mH er at_ c kvs r n es):=fun i p h=>by
 have:=jO (mH er at_ c kvs r n es) 0 rfl i p h
 omega
theorem ww      :aR     Tryz.prog {e9 with s:=La  }:=Ae        EQ      (by
 intro args H v ups h hcan
 unfold La at h
 split at h
 . rename_i y0 y1 y2 y3 y4 y5 y6 y7 y8 y9 y10 y11 y12 y13 y14 y15 y16 y17 q1 q2 n q3 q4 q5 es
   rw[aa]at h
   cases hc:dec _ with
   | false=>rw[hc]at h;cases h
   | true=>
    rw[hc,cT]at h
    obtain⟨hH,h1,h2,h3⟩:=dec_iff.1 hc
    rw[hH]at hcan ⊢
    refine⟨hZ,mH 0 0 (zC zI) [] (RD 0 n) n es,ups,(G8 h1 h2 h3).trans h,⟨.rfl',Es,rfl,fun x c hx=> ?_,fun x c2 hx=> ?_⟩,fun x=> ?_⟩
    . by_cases h7:x=7
      . subst h7;cases hx
        exact⟨_,rfl,.cells (.cons .rfl' (.cons .rfl' (.cons .rfl' (.cons .rfl' (.cons .rfl' (.cons .rfl' (.cons .rfl' (.cons .rfl' (.cons .rfl' (.cons .rfl' (.cons .rfl' (.cons .rfl' (.cons .rfl' (.cons .rfl' (.cons .rfl' (.cons .nils (.cons .nils .rfl')))))))))))))))))⟩
      . exact⟨c,by rw[xS h7 dI];exact hx,.rfl'⟩
    . by_cases h7:x=7
      . subst h7;exact⟨_,rfl⟩
      . exact⟨c2,by rw[xS h7 (zC zI)];exact hx⟩
    . have h7:∀ (f g:HpF),(∀ y,y≠7->f y=g y)->ad   ups f x=ad   ups g x:=by
        intro f g hfg
        unfold o9 at h
        rw[aa]at h
        cases ho:(gq es n 0 0 [] zI).1==0 with
        | true=>
         rw[ho]at h;cases h
         simp only[ad]
         by_cases x7:x=7
         . subst x7;rfl
         . rw[hfg x x7]
        | false=>
         rw[ho]at h;cases h
         simp only[ad]
         by_cases x7:x=7
         . subst x7;rfl
         . rw[hfg x x7]
      exact h7 _ _ (fun y hy=>xS hy _)
 . cases h)
noncomputable abbrev T9:cQ:=aL [("m",{e9 with s:=La})]
noncomputable abbrev m9:Code:=bF [(4, "m")] Ho
noncomputable abbrev κr9:=bt Tryz.prog (tbl [(47,Ap)]) 300 5
noncomputable abbrev ιr9:Nat->Bool:=fun g=>inl (tbl [(47,Ap)]) g&&bJ Tryz.prog g
noncomputable def Nd:ag:=bV Tryz.prog κr9 ιr9 T9 true 300 Tryz.f76 m9
theorem Nf:Known Tryz.prog 76 Nd:=⟨⟨Tryz.f76,Tryz.func76,bc ap Tryz.func76,rfl⟩,aZ (aG ap ax (ac Jk ok0) 300 5) ax (bf ww aE) Tryz.func76 (show Tryz.f76.body=some (aM T9 m9)by kernel_rfl)⟩
def aI:SV:=.agg [.int .i64 0,.nils,.int .u32 0,.bool false,.int .u32 0,.bool false,.int .u32 0,.bool false,.int .u32 0,.nils,.nils,.int .i64 0,.int .u32 0,.int .u32 0,.int .u32 0]
def aD(d:Ds):SV:=.agg [.int .i64 d.ori,.psl 36 d.path,.int .u32 d.nx,.bool d.hm,.int .u32 d.med,.bool d.hp,.int .u32 d.prf,.bool d.ho,.int .u32 d.orr,.psl 37 d.cl,.psl 136 d.cm,.int .i64 d.tk,.int .u32 d.tl,.int .u32 d.tr,.int .u32 d.tg]
def Ng(e a:Int):CTree:=.ret (.tup [aI,.nils,.nils,.agg [.int .i64 e,.int .i64 a]]) []
noncomputable def rdK(o:Int × Int × List (Int × Bool) × Dz)(n:Nat):CTree:=
 bif o.1==0 then bif(bif bj o.2.2.1 14 then !(bif bj o.2.2.1 1 then bj o.2.2.1 2 else false)else false)then Ng 17 n
  else bif !(bj o.2.2.1 14)then .ret (.tup [aI,.nils,.psl 88 o.2.2.2.d.unr,.agg [.int .i64 0,.int .i64 0]]) []
  else .ret (.tup [aD o.2.2.2.d,.psl 88 o.2.2.2.d.rch,.psl 88 o.2.2.2.d.unr,.agg [.int .i64 0,.int .i64 0]]) []
 else bif o.1==0 then .fail else bif o.1 !=0 then Ng o.1 o.2.1 else .fail
noncomputable def rdO{σ:Type}(lk:σ->Int->Bool)(o:Int × Int × σ × Dz)(n:Nat):Int × Int × Ds:=
 bif o.1==0 then bif lk o.2.2.1 14 then bif(bif lk o.2.2.1 1 then lk o.2.2.1 2 else false)then(0,0,o.2.2.2.d)else(17,n,dI0)
  else(0,0,{dI0 with unr:=o.2.2.2.d.unr})
 else(o.1,o.2.1,dI0)
noncomputable abbrev rdQ(es:List SV)(n:Nat):Int × Int × Ds:=rdO bj (gq es n 0 0 [] zI) n
def rdV(q:Int × Int × Ds):SV:=.tup [aD q.2.2,.psl 88 q.2.2.rch,.psl 88 q.2.2.unr,.agg [.int .i64 q.1,.int .i64 q.2.1]]
theorem Et:CoV Tryz.prog aI (aD dI0):=.agg (.cons .rfl' (.cons .nils (.cons .rfl' (.cons .rfl' (.cons .rfl' (.cons .rfl' (.cons .rfl' (.cons .rfl' (.cons .rfl' (.cons .nils (.cons .nils .rfl')))))))))))
def Jb(x:SV):Nl:=⟨asI (ar x 0),asI (ar x 1),asI (ar x 2),asI (ar x 3),asI (ar x 4),asI (ar x 5),asI (ar x 6),asI (ar x 7),asI (ar x 8),asI (ar x 9),asI (ar x 10),asI (ar x 11),asI (ar x 12),asI (ar x 13),asI (ar x 14),asB (ar x 15),asI (ar x 16),asI (ar x 17),asI (ar x 18),asI (ar x 19),asI (ar x 20)⟩
def rt(l:List SV)(i:Int):Nl:=Jb (l.getD i.toNat .junk)
def cy:Nat->List SV->Int->List SV
 | 0,_,_=>[]
 | k+1,l,i=>nb (rt l i)++cy k l (i+1)
noncomputable def lK:Nat->List SV->Int->Bool
 | 0,_,_=>true
 | k+1,l,i=>decide (chk (rt l i)=0/\OkP (rt l i))&&lK k l (i+1)
def lft(n i:Int):Nat:=(n - i).toNat
noncomputable def oo(l:List SV)(n i:Int)(m:Nat):Bool:=decide (0<=i)&&decide (i<=n)&&decide (n=l.length)&&decide (n<=1000)&&decide (m<=60000)&&lK (lft n i) l i
noncomputable def uF:ag
 | [.psl 88 l,.int .i64 n,.int .i64 i,.nils],[]=>.ite (oo l n i 0) (.ite (decide (i < n)) (.ret (.tup [.int .i64 2,.qs 0 1 0 (cy (lft n i) l i).length]) [(0,some (.seq 5 (cy (lft n i) l i)))]) (.ret (.tup [.int .i64 2,.nils]) [])) .fail
 | [.psl 88 l,.int .i64 n,.int .i64 i,.qs 0 1 0 m],[(0,.seq 5 es)]=>.ite (decide (m=es.length)&&oo l n i (m+42 * lft n i)) (.ite (decide (i < n)) (.ret (.tup [.int .i64 2,.qs 1 1 0 (es.length+(cy (lft n i) l i).length)]) [(0,none),(1,some (.seq 5 (es++cy (lft n i) l i)))]) (.ret (.tup [.int .i64 2,.qs 0 1 0 m]) [])) .fail
 | _,_=>.fail
def Jc:List SV->HpL->Nat
 | [.psl _ _,.int _ n,.int _ i,_],_=>lft n i
 | _,_=>0
noncomputable def BX:Code:=Tryz.f63.body.getD .skip
noncomputable def c17:Code:=(bx 3 BX).getD .skip
noncomputable def e17:LEnt:={ins:=[9,10,11,4],outs:=[4],keep:=[],size:=28,code:=c17,s:=uF}
noncomputable abbrev κf:=tbl [(83,lR)]
theorem okf:KOk Tryz.prog κf:=ac Cq ok0
noncomputable abbrev κfo:=bt Tryz.prog κf 300 5
noncomputable abbrev ιf:Nat->Bool:=fun g=>inl κf g&&bJ Tryz.prog g
noncomputable def BY(N:Nat)(l:List SV)(n i:Int)(nw:Nat)(ups:List (Nat × Option Chunk))(m:Nat)(ys:List SV):CTree:=
 bif Nat.blt (lft n i) N then bif decide (m=ys.length)&&oo l n i (m+42 * lft n i)then bif decide (i < n)then .ret (.tup [.int .i64 2,.qs nw 1 0 (ys.length+(cy (lft n i) l i).length)]) (ups++[(nw,some (.seq 5 (ys++cy (lft n i) l i)))])
  else .ret (.tup [.int .i64 2,.qs nw 1 0 m]) (ups++[(nw,some (.seq 5 ys))])else .fail else .fail
noncomputable def yn(N:Nat)(l:List SV)(n i:Int)(nw:Nat)(ups:List (Nat × Option Chunk))(m:Nat)(ys:List SV):CTree:=
 bif Dy m then bif decide ((m:Int) > 65535)then .ret (.tup [.int .i64 1,.qs nw 1 0 m]) (ups++[(nw,some (.seq 5 ys))])else BY N l n i nw ups m ys else .fail
noncomputable def yo(xs:List SV)(g:List SV->CTree):CTree:=
 bif decide (xs.length=xs.length)then g xs else bif decide (0+xs.length<=xs.length)then g ((xs.drop 0).take xs.length)else .fail
theorem BZ(N:Nat)(l:List SV)(n i:Int):ay Tryz.prog κfo ιf (aL []) true 300 e17 {e17 with s:=az Jc uF N} c17 [.psl 88 l,.int .i64 n,.int .i64 i,.nils] []=
 bif decide (i < n)then bif inB i l.length then bif decide (chk (rt l i)=0/\OkP (rt l i))then yo (nb (rt l i)) (fun ys=>yn N l n (IntKind.i64.wrap (i+1)) 0 [] (0+ys.length) ys)else .fail else .fail else .ret (.tup [.int .i64 2,.nils]) []:=by kernel_rfl
theorem B2(N:Nat)(l:List SV)(n i:Int)(m:Nat)(es:List SV):ay Tryz.prog κfo ιf (aL []) true 300 e17 {e17 with s:=az Jc uF N} c17 [.psl 88 l,.int .i64 n,.int .i64 i,.qs 0 1 0 m] [(0,.seq 5 es)]=
 bif decide (i < n)then bif inB i l.length then bif decide (chk (rt l i)=0/\OkP (rt l i))then bif decide (m=es.length)then yo (nb (rt l i)) (fun ys=>yn N l n (IntKind.i64.wrap (i+1)) 1 [(0,none)] (es.length+ys.length) (es++ys))else .fail else .fail else .fail else .ret (.tup [.int .i64 2,.qs 0 1 0 m]) []:=by kernel_rfl
theorem invR_iff{l:List SV}{n i:Int}{m:Nat}:oo l n i m=true↔0<=i/\i<=n/\n=l.length/\n<=1000/\m<=60000/\lK (lft n i) l i=true:=by
 simp only[oo,bA,decide_eq_true_eq,and_assoc]
theorem jo{n i:Int}(h:i < n):lft n i=lft n (i+1)+1:=by unfold lft;omega
theorem lL{n i:Int}(h:¬i < n):lft n i=0:=by unfold lft;omega
theorem B3(n:Nl):(nb n).length<=42:=by
 obtain⟨l1,l2,l3,l4,l5⟩:=sU n
 unfold nb
 cases n.kind==1 <;> cases n.kind==2 <;> cases n.kind==3 <;> cases n.kind==4 <;> simp[ey] <;> omega
theorem B4{N:Nat}{l:List SV}{n i:Int}{nw:Nat}{ups:List (Nat × Option Chunk)}{ys:List SV}(h1:lft n i < N)(h2:oo l n i (ys.length+42 * lft n i)=true):
  BY N l n i nw ups ys.length ys= .ret (.tup [.int .i64 2,.qs nw 1 0 (ys.length+(cy (lft n i) l i).length)]) (ups++[(nw,some (.seq 5 (ys++cy (lft n i) l i)))]):=by
 have hb:Nat.blt (lft n i) N=true:=by rw[bL];exact h1
 unfold BY
 rw[hb,h2,dT0 rfl]
 by_cases hlt:i < n
 . rw[dT0 hlt];rfl
 . rw[dF0 hlt,lL hlt]
   simp[cy]
theorem B5{N:Nat}{l:List SV}{n i:Int}{nw:Nat}{ups:List (Nat × Option Chunk)}{es:List SV}{m:Nat}(hlt:i < n)(hb:lft n i < N+1)(hm:m=es.length)(h2:oo l n i (es.length+42 * lft n i)=true):
  (bif inB i l.length then bif decide (chk (rt l i)=0/\OkP (rt l i))then yo (nb (rt l i)) (fun ys=>yn N l n (IntKind.i64.wrap (i+1)) nw ups (m+ys.length) (es++ys))else .fail else .fail)=
   .ret (.tup [.int .i64 2,.qs nw 1 0 (es.length+(cy (lft n i) l i).length)]) (ups++[(nw,some (.seq 5 (es++cy (lft n i) l i)))]):=by
 subst hm
 obtain⟨h0,h3,h4,h5,h6,h7⟩:=invR_iff.1 h2
 have hl:=B3 (rt l i)
 rw[jo hlt]at h7
 simp only[lK,bA,decide_eq_true_eq]at h7
 have hin:inB i l.length=true:=by unfold inB;simp;omega
 have hle:lft n (i+1)+1=lft n i:=(jo hlt).symm
 have hw:IntKind.i64.wrap (i+1)=i+1:=am (by omega) (by omega)
 have hi2:oo l n (i+1) ((es++nb (rt l i)).length+42 * lft n (i+1))=true:=invR_iff.2 ⟨by omega,by omega,h4,h5,by rw[lA0];omega,h7.2⟩
 have hlen:es.length+(nb (rt l i)).length<=60000:=by omega
 rw[hin,dT0 h7.1,hw]
 simp only[yo,yn,cT,decide_true]
 rw[Gy (by omega),dF0 (by omega),<- lA0,cT,cF,B4 (by omega) hi2,<- hle]
 simp[cy,Nat.add_assoc]
theorem sQ          :aR     Tryz.prog e17:=ct         (κ:=κfo) (ι:=ιf) (T:=aL   []) (sp:=true) (fuel:=300) (c:=c17) (μ:=Jc  ) (aG       ap       ax     okf 300 5) ax     aE       (show aM    (aL   []) c17=c17 by kernel_rfl) (by
 intro N args H r hb hr
 have hr':ae (uF args H)=some r:=hr
 unfold uF at hr'
 split at hr'
 . rename_i l n i
   rw[aa,aa]at hr'
   cases hc:oo l n i 0 with
   | false=>rw[hc]at hr';cases hr'
   | true=>
    rw[hc,cT]at hr'
    have hb':lft n i < N+1:=by
     have:Nat.blt (lft n i) (N+1)=true:=hb
     rwa [bL]at this
    rw[<- hr']
    refine(congrArg ae (BZ N l n i)).trans ?_
    by_cases hlt:i < n
    . obtain⟨h0,h3,h4,h5,h6,h7⟩:=invR_iff.1 hc
      rw[dT0 hlt]
      have:=B5 (N:=N) (l:=l) (n:=n) (i:=i) (nw:=0) (ups:=[]) (es:=[]) hlt hb' rfl (invR_iff.2 ⟨h0,h3,h4,h5,by unfold lft;simp;omega,h7⟩)
      simp only[nA,List.length_nil,Nat.zero_add]at this
      simp only[Nat.zero_add,cT]
      rw[this]
    . rw[dF0 hlt];rfl
 . rename_i l n i m es
   rw[aa,aa]at hr'
   cases hc:(decide (m=es.length)&&oo l n i (m+42 * lft n i))with
   | false=>rw[hc]at hr';cases hr'
   | true=>
    rw[hc,cT]at hr'
    rw[bA,decide_eq_true_eq]at hc
    obtain⟨rfl,hi⟩:=hc
    have hb':lft n i < N+1:=by
     have:Nat.blt (lft n i) (N+1)=true:=hb
     rwa [bL]at this
    rw[<- hr']
    refine(congrArg ae (B2 N l n i es.length es)).trans ?_
    by_cases hlt:i < n
    . rw[dT0 hlt,dT0 rfl]
      simp only[cT]
      rw[B5 (N:=N) (nw:=1) (ups:=[(0,none)]) hlt hb' rfl hi]
      rfl
    . rw[dF0 hlt];rfl
 . cases hr')
noncomputable abbrev T17:cQ:=aL [("s",e17)]
noncomputable def m17:Code:=bF [(3, "s")] BX
theorem Jd:Tryz.f63.body=some (aM T17 m17):=by kernel_rfl
noncomputable abbrev uG:ag:=bV Tryz.prog κfo ιf T17 true 300 Tryz.f63 m17
theorem uH(l:List SV):uG [.psl 88 l] []=bif oo l l.length 0 0 then bif decide ((0:Int) < l.length)then .ret (.tup [.qs 0 1 0 (cy (lft l.length 0) l 0).length,.bool true]) [(0,some (.seq 5 (cy (lft l.length 0) l 0)))]else .ret (.tup [.nils,.bool true]) []else .fail:=by kernel_rfl
def nbs(l:List SV):List SV:=cy l.length l 0
noncomputable def okR(l:List SV):Bool:=decide (l.length<=1000)&&lK l.length l 0
noncomputable def wV:ag
 | [.psl 88 l],[]=>.ite (okR l) (.ret (.tup [.qs 0 1 0 (nbs l).length,.bool true]) [(0,some (.seq 5 (nbs l)))]) .fail
 | _,_=>.fail
theorem Je    :Known Tryz.prog 63 wV    :=s9           (s:=uG      ) ⟨⟨Tryz.f63,Tryz.func63,bc       ap       Tryz.func63,rfl⟩,aZ          (aG       ap       ax     okf 300 5) ax     (bf        sQ           aE      ) Tryz.func63 Jd    ⟩ (by
 intro args H v ups h
 unfold wV at h
 split at h
 . rename_i l
   rw[aa]at h
   cases hc:okR l with
   | false=>rw[hc]at h;cases h
   | true=>
    rw[hc]at h
    cases h
    simp only[okR,bA,decide_eq_true_eq]at hc
    have hl:lft (l.length:Int) 0=l.length:=by unfold lft;omega
    have hi:oo l l.length 0 0=true:=invR_iff.2 ⟨by omega,by omega,rfl,by omega,by omega,by rw[hl];exact hc.2⟩
    by_cases h0:(0:Int) < l.length
    . left
      rw[uH,hi,dT0 h0,hl];rfl
    . right
      have hz:l=[]:=List.length_eq_zero_iff.1 (by omega)
      subst hz
      refine⟨.bool true,1,5,rfl,rfl,rfl,rfl,rfl,?_⟩
      rw[uH,hi,dF0 h0];rfl
 . cases h)
def orF(f:Int):Int:=IntKind.u8.wrap (((BitVec.ofInt IntKind.u8.bits f)||| (BitVec.ofInt IntKind.u8.bits 16)).toNat:Int)
def hdL(f c:Int):List SV:=[.int .u8 (orF f),.int .u8 c]
def hdS(f c k:Int):List SV:=[.int .u8 f,.int .u8 c,.int .u8 k]
def atB(f c:Int)(v:List SV):List SV:=bif decide ((v.length:Int) > 255)then hdL f c++be (IntKind.u64.wrap v.length) 2++v else hdS f c (IntKind.u8.wrap v.length)++v
theorem F7(f c:Int)(v:List SV):(atB f c v).length<=v.length+4:=by
 unfold atB
 cases decide ((v.length:Int) > 255) <;> simp[hdL,hdS,ah] <;> omega
def wdB(l:List SV)(i:Int):List SV:=be (IntKind.u64.wrap (asI (l.getD i.toNat .junk))) 4
def wds:Nat->List SV->Int->List SV
 | 0,_,_=>[]
 | k+1,l,i=>wdB l i++wds k l (i+1)
def hO(l:List SV)(i:Int)(m:Nat):Bool:=decide (0<=i)&&decide (i<=l.length)&&decide (l.length<=1000)&&decide (m<=60000)
theorem invW_iff{l:List SV}{i:Int}{m:Nat}:hO l i m=true↔0<=i/\i<=l.length/\l.length<=1000/\m<=60000:=by
 simp only[hO,bA,decide_eq_true_eq,and_assoc]
theorem s8(l:List SV)(i:Int):(wdB l i).length=4:=ah _ 4
theorem lU(l:List SV):∀ (k:Nat) (i:Int),(wds k l i).length=4 * k
 | 0,_=>rfl
 | k+1,i=>by rw[wds,lA0,s8,lU l k];omega
def fst:Nat->List SV->Int->Int
 | 0,_,_=>0
 | k+1,l,i=>bif chk (rt l i)!=0 then chk (rt l i)else fst k l (i+1)
noncomputable def Gc:ag
 | [.psl 88 l,.int .i64 n,.int .i64 i,.int .i64 r],[]=>.ite (decide (0<=i)&&decide (i<=n)&&decide (n=l.length)&&decide (n<=1000)) (.ite (fst (lft n i) l i !=0) (.ret (.tup [.int .i64 1,.int .i64 (fst (lft n i) l i)]) []) (.ret (.tup [.int .i64 4,.int .i64 r]) [])) .fail
 | _,_=>.fail
def chM:List SV->HpL->Nat
 | [.psl _ _,.int _ n,.int _ i,_],_=>lft n i
 | _,_=>0
noncomputable def C9:Code:=Tryz.f62.body.getD .skip
noncomputable def c16:Code:=(bx 10 C9).getD .skip
noncomputable def e16:LEnt:={ins:=[32,33,34,6],outs:=[6],keep:=[28,29],size:=45,code:=c16,s:=Gc}
noncomputable abbrev κhW:=tbl [(82,fQ)]
theorem okh:KOk Tryz.prog κhW:=ac gT ok0
noncomputable abbrev κho:=bt Tryz.prog κhW 300 5
noncomputable abbrev ιh:Nat->Bool:=fun g=>inl κhW g&&bJ Tryz.prog g
theorem Gd(N:Nat)(l:List SV)(n i r:Int):ay Tryz.prog κho ιh (aL []) true 300 e16 {e16 with s:=az chM Gc N} c16 [.psl 88 l,.int .i64 n,.int .i64 i,.int .i64 r] []=
 bif decide (i < n)then bif inB i l.length then bif chk (rt l i)!=0 then .ret (.tup [.int .i64 1,.int .i64 (chk (rt l i))]) []else
  bif Nat.blt (lft n (IntKind.i64.wrap (i+1))) N then bif decide (0<=IntKind.i64.wrap (i+1))&&decide (IntKind.i64.wrap (i+1)<=n)&&decide (n=l.length)&&decide (n<=1000)then
   bif fst (lft n (IntKind.i64.wrap (i+1))) l (IntKind.i64.wrap (i+1))!=0 then .ret (.tup [.int .i64 1,.int .i64 (fst (lft n (IntKind.i64.wrap (i+1))) l (IntKind.i64.wrap (i+1)))]) []else .ret (.tup [.int .i64 4,.int .i64 r]) []else .fail else .fail
 else .fail else .ret (.tup [.int .i64 4,.int .i64 r]) []:=by kernel_rfl
theorem vt         :aR     Tryz.prog e16:=ct         (κ:=κho) (ι:=ιh) (T:=aL   []) (sp:=true) (fuel:=300) (c:=c16) (μ:=chM) (aG       ap       ax     okh 300 5) ax     aE       (show aM    (aL   []) c16=c16 by kernel_rfl) (by
 intro N args H r hb hr
 have hr':ae (Gc args H)=some r:=hr
 unfold Gc at hr'
 split at hr'
 . rename_i l n i r0
   rw[aa,aa]at hr'
   cases hc:(decide (0<=i)&&decide (i<=n)&&decide (n=l.length)&&decide (n<=1000))with
   | false=>rw[hc]at hr';cases hr'
   | true=>
    rw[hc,cT]at hr'
    simp only[bA,decide_eq_true_eq]at hc
    obtain⟨⟨⟨h0,h1⟩,h2⟩,h3⟩:=hc
    have hb':lft n i < N+1:=by
     have:Nat.blt (lft n i) (N+1)=true:=hb
     rwa [bL]at this
    rw[<- hr']
    refine(congrArg ae (Gd N l n i r0)).trans ?_
    by_cases hlt:i < n
    . have hs:=jo hlt
      have hw:IntKind.i64.wrap (i+1)=i+1:=am (by omega) (by omega)
      have hin:inB i l.length=true:=by unfold inB;simp;omega
      have hbb:Nat.blt (lft n (i+1)) N=true:=by rw[bL];omega
      have hcc:(decide (0<=i+1)&&decide (i+1<=n)&&decide (n=l.length)&&decide (n<=1000))=true:=by simp only[bA,decide_eq_true_eq];omega
      rw[dT0 hlt,hin,hw,hbb,hcc,hs]
      simp only[fst,cT]
      cases hk:(chk (rt l i)!=0)with
      | true=>simp only[cT,hk]
      | false=>
       simp only[cF]
       cases fst (lft n (i+1)) l (i+1)!=0 <;> rfl
    . rw[dF0 hlt,lL hlt];rfl
 . cases hr')
noncomputable abbrev T16:cQ:=aL [("s",e16)]
noncomputable def m16:Code:=bF [(10, "s")] C9
theorem JS:Tryz.f62.body=some (aM T16 m16):=by kernel_rfl
def ck1(a:At):Bool:=bif decide (a.ori < 0)then true else decide (a.ori > 2)
def ck2(a:At):Bool:=bif bif decide ((a.path.length:Int) > 32)then true else decide ((a.cl.length:Int) > 16)then true else decide ((a.cm.length:Int) > 64)
def ck3(a:At):Bool:=bif bif bif !a.hm then a.med !=0 else false then true else bif !a.hp then a.prf !=0 else false then true else bif !a.ho then a.orr !=0 else false
def ck4(a:At):Bool:=bif bif a.tk !=0 then a.tk !=3 else false then a.tk !=6 else false
def ck5(a:At):Bool:=decide (a.tl > 16777215)
def ck6(a:At):Bool:=bif a.tk==0 then !(a.tk==0&&(a.tl==0&&(a.tr==0&&a.tg==0)))else false
def ck7(a:At):Bool:=bif a.tk==6 then a.tg !=0 else false
def ql(a:At):Int:=bif ck1 a then 2 else bif ck2 a then 5 else bif ck3 a then 3 else bif ck4 a then 6 else bif ck5 a then 2 else bif bif ck6 a then true else ck7 a then 3 else 0
def cC(a:At):Bool:=
 bif bif bif bif bif bif bif bif bif bif bif a.ori==0 then(a.path.length:Int)==0 else false then a.nx==0 else false then !a.hm else false then a.med==0 else false then !a.hp else false then a.prf==0 else false then !a.ho else false then a.orr==0 else false then(a.cl.length:Int)==0 else false then(a.cm.length:Int)==0 else false then a.tk==0&&(a.tl==0&&(a.tr==0&&a.tg==0))else false
theorem DO(a:At):opn (tbl []) Tryz.f81 [a.v] []=bif ck1 a then .ret (.int .i64 2) []else bif ck2 a then .ret (.int .i64 5) []else bif ck3 a then .ret (.int .i64 3) []else bif ck4 a then .ret (.int .i64 6) []else bif ck5 a then .ret (.int .i64 2) []else bif bif ck6 a then true else ck7 a then .ret (.int .i64 3) []else .ret (.int .i64 0) []:=by kernel_rfl
theorem GI(a:At):opn (tbl []) Tryz.f80 [a.v] []= .ret (.bool (cC a)) []:=by kernel_rfl
def AX:SV->Option At
 | .agg [.int .i64 ori,.psl 36 path,.int .u32 nx,.bool hm,.int .u32 med,.bool hp,.int .u32 prf,.bool ho,.int .u32 orr,.psl 37 cl,.psl 136 cm,.int .i64 tk,.int .u32 tl,.int .u32 tr,.int .u32 tg]=>some ⟨ori,path,nx,hm,med,hp,prf,ho,orr,cl,cm,tk,tl,tr,tg⟩
 | _=>none
theorem xH{x:SV}{a:At}(h:AX x=some a):x=a.v:=by
 unfold AX at h
 split at h
 . cases h;rfl
 . cases h
def GJ(r:At->SV):ag:=fun args H=>match args,H with
 | [x],[]=>match AX x with
  | some a=>.ret (r a) []
  | none=>.fail
 | _,_=>.fail
theorem se       {r:At->SV}{args:List SV}{H:HpL}{v:SV}{ups:List (Nat × Option Chunk)}(h:ae   (GJ   r args H)=some (v,ups)):∃ a:At,args=[a.v]/\H=[]/\v=r a/\ups=[]:=by
 unfold GJ at h
 split at h
 . rename_i x
   split at h
   . rename_i a ha
     cases h
     exact⟨a,by rw[xH ha],rfl,rfl,rfl⟩
   . cases h
 . cases h
abbrev wc:ag:=GJ (fun a=>.int .i64 (ql a))
abbrev zr:ag:=GJ (fun a=>.bool (cC a))
theorem DP:Known Tryz.prog 81 wc:=(aj ok0 Tryz.func81 rfl).weak (by
 intro args H v ups h
 obtain⟨a,rfl,rfl,rfl,rfl⟩:=se h
 rw[DO]
 unfold ql
 cases ck1 a <;> cases ck2 a <;> cases ck3 a <;> cases ck4 a <;> cases ck5 a <;> cases ck6 a <;> cases ck7 a <;> rfl)
theorem GK:Known Tryz.prog 80 zr:=(aj ok0 Tryz.func80 rfl).weak (by
 intro args H v ups h
 obtain⟨a,rfl,rfl,rfl,rfl⟩:=se h
 rw[GI];rfl)
noncomputable abbrev κiW:=tbl [(82,fQ),(81,wc),(80,zr)]
theorem oki:KOk Tryz.prog κiW:=ac gT (ac DP (ac GK ok0))
def tw(l:List SV):Int:=fst l.length l 0
noncomputable abbrev yv:ag:=bV Tryz.prog (bt Tryz.prog κiW 300 5) (fun g=>inl κiW g&&bJ Tryz.prog g) T16 true 300 Tryz.f62 m16
def Fv(l:List SV):Bool:=decide ((0:Int)<=0)&&decide ((0:Int)<=l.length)&&decide ((l.length:Int)=l.length)&&decide ((l.length:Int)<=1000)
theorem Cg{l:List SV}(h:l.length<=1000):Fv l=true:=by
 unfold Fv;rw[dT0 (by omega),dT0 (by omega),dT0 rfl,dT0 (by omega)];rfl
theorem Fw(a:At)(r u:List SV):yv [a.v,.psl 88 r,.psl 88 u] []=
 bif ql a !=0 then .ret (.int .i64 (ql a)) []else bif(bif(r.length:Int)==0 then !cC a else false)then .ret (.int .i64 3) []else
 bif Fv r then bif fst (lft r.length 0) r 0 !=0 then .ret (.int .i64 (fst (lft r.length 0) r 0)) []else
 bif Fv u then bif fst (lft u.length 0) u 0 !=0 then .ret (.int .i64 (fst (lft u.length 0) u 0)) []else .ret (.int .i64 0) []else .fail else .fail:=by kernel_rfl
def bg(a:At)(r u:List SV):Int:=bif ql a !=0 then ql a else bif(bif(r.length:Int)==0 then !cC a else false)then 3 else bif tw r !=0 then tw r else tw u
def px:ag:=fun args H=>match args,H with
 | [x,.psl 88 r,.psl 88 u],[]=>match AX x with
  | some a=>.ite (decide (r.length<=1000/\u.length<=1000)) (.ret (.int .i64 (bg a r u)) []) .fail
  | none=>.fail
 | _,_=>.fail
theorem Ch      :Known Tryz.prog 62 px      :=(show Known Tryz.prog 62 yv      from⟨⟨Tryz.f62,Tryz.func62,bc       ap       Tryz.func62,rfl⟩,aZ          (aG       ap       ax     oki 300 5) ax     (bf        vt          aE      ) Tryz.func62 JS    ⟩).weak (by
 intro args H v ups h
 unfold px at h
 split at h
 . rename_i x r u
   split at h
   . rename_i a ha
     rw[aa,cond_eq_ite]at h
     split at h
     . rename_i hc
       obtain⟨h1,h2⟩:=of_decide_eq_true hc
       have e1:lft (r.length:Int) 0=r.length:=by unfold lft;omega
       have e2:lft (u.length:Int) 0=u.length:=by unfold lft;omega
       rw[xH ha]
       cases h
       rw[Fw,Cg h1,Cg h2,e1,e2]
       unfold bg tw
       cases hk:ql a !=0 with
       | true=>rfl
       | false=>
       cases(bif(r.length:Int)==0 then !cC a else false)with
       | true=>rfl
       | false=>
       cases hr:fst r.length r 0 !=0 with
       | true=>rfl
       | false=>
       cases hu:fst u.length u 0 !=0 with
       | true=>rfl
       | false=>
        have:fst u.length u 0=0:=by simpa using hu
        rw[this];rfl
     . cases h
   . cases h
 . cases h)
end Go.Proofs.YtnlmhpancboddaaGreat
