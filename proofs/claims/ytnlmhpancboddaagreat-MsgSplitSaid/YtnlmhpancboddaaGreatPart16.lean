/- Attributes are read: the main loop is valid. -/
import Derived.Test.YtnlmhpancboddaaGreatPart15
import Derived.Test.YtnlmhpancboddaaGreatMachine6
set_option linter.unusedVariables false
set_option linter.unusedSimpArgs false
namespace Go.Proofs.YtnlmhpancboddaaGreat
open Go.Am
set_option maxRecDepth 100000
theorem EX     :aO     Tryz.prog e9:=nk          (T:=aF   []) (sp:=true) (fuel:=300) (c:=c9) (μ:=mM) aq     aE       (show aN    (aF   []) c9=c9 by kernel_rfl) (by
 intro N args H v' ups' hbt h
 unfold e9 m_s at h
 simp only[]at h
 split at h
 . rename_i er at_ x1 x2 x3 x4 x5 x6 cs x8 x9 x10 x11 x12 x13 x14 x15 x16 kd kvs a e n re rf x18 es
   split at h
   . rename_i pb cb mb d hd
     rw[aa]at h
     cases her:(er==0)with
     | false=>
      rw[her,cF,aa]at h
      cases hc:dec _ with
      | false=>rw[hc]at h;cases h
      | true=>
       rw[hc,cT]at h
       have hH:=dec_iff.1 hc
       rw[hH]
       have hx:=Mu N er at_ pb cb mb d kvs ⟨a,e,re,rf⟩ n es
       rw[her,cF,cF]at hx
       cases h
       exact⟨κma qW,ιma,Bt JJ,.inr (.inr ⟨_,_,congrArg ac hx,rx rfl⟩)⟩
     | true=>
      have he0:er=0:=by simpa using her
      subst he0
      rw[her,cT,aa]at h
      cases hc:dec _ with
      | false=>rw[hc]at h;cases h
      | true=>
       rw[hc,cT]at h
       obtain⟨hH,hm⟩:=dec_iff.1 hc
       rw[hH]at hbt ⊢
       have hN:n - a.toNat+1 < N+1:=by
        have:Nat.blt (n - a.toNat+1) (N+1)=true:=hbt
        rwa [bL]at this
       generalize a.toNat=b at *
       by_cases hlt:b < n
       . by_cases ho:okN es b n
         . cases hk:knC (bC es b)with
           | false=>exact⟨κmu,ιmu,Lo,Ch hm hN h hlt ho hk⟩
           | true=>
            refine⟨κma (kI (bC es b)),ιma,Bt (OL _),?_⟩
            obtain⟨p1,p2,p3,p4,p5,p6,p7,p8⟩:=hm
            have hm:mOk b n es kvs ⟨pb,cb,mb,d⟩:=⟨p1,p2,p3,p4,p5,p6,p7,p8⟩
            rcases gY hk with hg | hg | hg | hg | hg | hg | hg | hg | hg | hg
            . rw[hg];exact eU hm hN h hlt ho hg rfl (m_1 N at_ pb cb mb d kvs (RD b n) n es) (fun q1 q2 q3=>⟨by rw[q2],q1,.inl rfl⟩)
            . rw[hg];exact eU hm hN h hlt ho hg rfl (m_2 N at_ pb cb mb d kvs (RD b n) n es) (fun q1 q2 q3=>⟨by rw[q2],q1,p6 q3⟩)
            . rw[hg];exact eU hm hN h hlt ho hg rfl (m_4 N at_ pb cb mb d kvs (RD b n) n es) (fun q1 q2 q3=>⟨by rw[q2],q1,.inr (.inl rfl)⟩)
            . rw[hg];exact eU hm hN h hlt ho hg rfl (m_5 N at_ pb cb mb d kvs (RD b n) n es) (fun q1 q2 q3=>⟨by rw[q2],q1,.inr (.inr (.inl rfl))⟩)
            . rw[hg];exact eU hm hN h hlt ho hg rfl (m_9 N at_ pb cb mb d kvs (RD b n) n es) (fun q1 q2 q3=>⟨by rw[q2],q1,.inr (.inr (.inr rfl))⟩)
            . rw[hg];exact eU hm hN h hlt ho hg rfl (Ni N at_ pb cb mb d kvs (RD b n) n es) (fun q1 q2 q3=>⟨by rw[q2],q1,p7 q3⟩)
            . rw[hg];exact eU hm hN h hlt ho hg rfl (Nj N at_ pb cb mb d kvs (RD b n) n es) (fun q1 q2 q3=>⟨by rw[q2],q1,rfl⟩)
            . rw[hg];exact eU hm hN h hlt ho hg rfl (Nk N at_ pb cb mb d kvs (RD b n) n es) (fun q1 q2 q3=>⟨by rw[q2],q1,rfl⟩)
            . rw[hg];exact eU hm hN h hlt ho hg rfl (Nm N at_ pb cb mb d kvs (RD b n) n es) (fun q1 q2 q3=>⟨by rw[q2],q1,p8 q3⟩)
            . rw[hg];exact eU hm hN h hlt ho hg rfl (Nn N at_ pb cb mb d kvs (RD b n) n es) (fun q1 q2 q3=>⟨by rw[q2],q1,rfl⟩)
         . exact⟨κma D5,ιma,Bt OM,Cg hm hN h hlt ho⟩
       . obtain⟨p1,p2,p3,p4,p5,p6,p7,p8⟩:=hm
         have hbn:b=n:=by omega
         subst hbn
         have hl:lfI (RD b b)=0:=by have:=iE (s:=b) (t:=b) (k:=0) (by omega) (by omega);simpa using this
         have hx:=Mu N 0 at_ pb cb mb d kvs (RD b b) b es
         rw[hl]at hx
         rw[fg,fT hlt]at h
         unfold oQ at h
         rw[aa]at h
         cases h
         refine⟨κma qW,ιma,Bt JJ,.inr (.inr ⟨_,_,congrArg ac hx,2,_,_,rfl,rfl,.rfl',fun x c' hx=> ?_⟩)⟩
         simp only[ad]at hx
         by_cases h18:x=18
         . rw[if_pos h18]at hx;cases hx
         . rw[if_neg h18]at hx
           by_cases h17:x=17
           . subst h17;rw[if_pos rfl]at hx;cases hx;exact⟨_,rfl,.rfl'⟩
           . rw[if_neg h17]at hx
             by_cases h7:x=7
             . subst h7;rw[if_pos rfl]at hx;cases hx;exact⟨_,rfl,LK p5⟩
             . rw[if_neg h7]at hx
               by_cases h0:x=0
               . subst h0;rw[if_pos rfl]at hx;cases hx;exact⟨_,rfl,.rfl'⟩
               . rw[if_neg h0]at hx;exact⟨c',hx,.rfl'⟩
   . rw[aa]at h
     cases her:(er==0)with
     | true=>rw[her]at h;cases h
     | false=>
      rw[her,cF,aa]at h
      cases hc:dec _ with
      | false=>rw[hc]at h;cases h
      | true=>
       rw[hc,cT]at h
       have hH:=dec_iff.1 hc
       rw[hH]
       have hx:=Oq N er at_ kvs ⟨a,e,re,rf⟩ n es
       rw[her,cF,cF]at hx
       cases h
       exact⟨κma qW,ιma,Bt JJ,.inr (.inr ⟨_,_,congrArg ac hx,rx rfl⟩)⟩
 . cases h)
def dI0:Ds:=⟨0,0,0,0,0,0,0,0,0,false,false,false,[],[],[],[],[]⟩
def zI:Dz:=⟨true,true,true,dI0⟩
def dI:Chunk:=.cells 177 [.int .i64 0,.nils,.int .u32 0,.bool false,.int .u32 0,.bool false,.int .u32 0,.bool false,.int .u32 0,.nils,.nils,.int .i64 0,.int .u32 0,.int .u32 0,.int .u32 0,.nils,.nils]
noncomputable def KJ:ag:=fun args H=>match args,H with
 | [.ptr 0 0,.ptr 1 0,.mp 2,.mp 17,.ptr 18 0],[_,_,_,_,_,_,_,_,_,_,_,_,_,_,_,_,_,_,(18,.cells 157 [.int .i64 _,.int .i64 _,.qs 19 1 0 n,_,_,_]),(19,.seq 5 es)]=>
  .ite (dec (H=mH 0 0 dI [] (RD 0 n) n es/\byl es/\n=es.length/\n<=1000000)) (oQ (fg es n 0 0 [] zI) n) .fail
 | _,_=>.fail
theorem O1{n:Nat}{es:List SV}(h1:byl es)(h2:n=es.length)(h3:n<=1000000):mOk 0 n es [] zI:=⟨h1,h2,h3,Nat.zero_le _,rfl,fun _=>rfl,fun _=>rfl,fun _=>rfl⟩
theorem Hm{n:Nat}{es:List SV}(h1:byl es)(h2:n=es.length)(h3:n<=1000000):ac (m_s gP (mH 0 0 (zC zI) [] (RD 0 n) n es))=ac (oQ (fg es n 0 0 [] zI) n):=by
 show ac (.ite (0==0) (.ite (dec (mH 0 0 (zC zI) [] (RD 0 n) n es=mH 0 0 (zC zI) [] (RD 0 n) n es/\mOk 0 n es [] zI)) (oQ (fg es n 0 0 [] zI) n) .fail) _)=_
 rw[aa,show((0:Int)==0)=true from rfl,cT,aa,dec_iff.2 ⟨rfl,O1 h1 h2 h3⟩,cT]
theorem xE{er at_:Int}{c:Chunk}{kvs:List (Int × Bool)}{r:Rd}{n:Nat}{es:List SV}{x:Nat}(h:x≠7)(c':Chunk):(mH er at_ c kvs r n es).get x=(mH er at_ c' kvs r n es).get x:=by
 simp only[mH,HpL.get]
 rw[show Nat.beq 7 x=false from bK (fun e=>h e.symm)]
 rfl
theorem EF{er at_:Int}{c:Chunk}{kvs:List (Int × Bool)}{r:Rd}{n:Nat}{es:List SV}:ge (mH er at_ c kvs r n es):=fun i p h=>by
 have:=gv (mH er at_ c kvs r n es) 0 rfl i p h
 omega
theorem wc      :aO     Tryz.prog {e9 with s:=KJ  }:=ru        EX      (by
 intro args H v ups h hcan
 unfold KJ at h
 split at h
 . rename_i y0 y1 y2 y3 y4 y5 y6 y7 y8 y9 y10 y11 y12 y13 y14 y15 y16 y17 q1 q2 n q3 q4 q5 es
   rw[aa]at h
   cases hc:dec _ with
   | false=>rw[hc]at h;cases h
   | true=>
    rw[hc,cT]at h
    obtain⟨hH,h1,h2,h3⟩:=dec_iff.1 hc
    rw[hH]at hcan ⊢
    refine⟨gP,mH 0 0 (zC zI) [] (RD 0 n) n es,ups,(Hm h1 h2 h3).trans h,⟨.rfl',EF,rfl,fun x c hx=> ?_,fun x c2 hx=> ?_⟩,fun x=> ?_⟩
    . by_cases h7:x=7
      . subst h7;cases hx
        exact⟨_,rfl,.cells (.cons .rfl' (.cons .rfl' (.cons .rfl' (.cons .rfl' (.cons .rfl' (.cons .rfl' (.cons .rfl' (.cons .rfl' (.cons .rfl' (.cons .rfl' (.cons .rfl' (.cons .rfl' (.cons .rfl' (.cons .rfl' (.cons .rfl' (.cons .nils (.cons .nils .rfl')))))))))))))))))⟩
      . exact⟨c,by rw[xE h7 dI];exact hx,.rfl'⟩
    . by_cases h7:x=7
      . subst h7;exact⟨_,rfl⟩
      . exact⟨c2,by rw[xE h7 (zC zI)];exact hx⟩
    . have h7:∀ (f g:HpF),(∀ y,y≠7->f y=g y)->ad   ups f x=ad   ups g x:=by
        intro f g hfg
        unfold oQ at h
        rw[aa]at h
        cases ho:(fg es n 0 0 [] zI).1==0 with
        | true=>
         rw[ho]at h;cases h
         simp only[ad]
         by_cases x7:x=7
         . subst x7;rfl
         . rw[hfg x x7]
        | false=>
         rw[ho]at h;cases h
         simp only[ad]
         by_cases x7:x=7
         . subst x7;rfl
         . rw[hfg x x7]
      exact h7 _ _ (fun y hy=>xE hy _)
 . cases h)
noncomputable abbrev T9:cu:=aF [("m",{e9 with s:=KJ})]
noncomputable abbrev m9:Code:=bx [(4, "m")] Hu
noncomputable abbrev κr9:=bn Tryz.prog (tbl [(47,Ap)]) 300 5
noncomputable abbrev ιr9:Nat->Bool:=fun g=>inl (tbl [(47,Ap)]) g&&bB Tryz.prog g
noncomputable def Nc:ag:=bE Tryz.prog κr9 ιr9 T9 true 300 Tryz.f76 m9
theorem Nd:Known Tryz.prog 76 Nc:=⟨⟨Tryz.f76,Tryz.func76,bf ak Tryz.func76,rfl⟩,aS (aL ak aq (af I2 ok0) 300 5) aq (ba wc aE) Tryz.func76 (show Tryz.f76.body=some (aN T9 m9)by kernel_rfl)⟩
def aI:SV:=.agg [.int .i64 0,.nils,.int .u32 0,.bool false,.int .u32 0,.bool false,.int .u32 0,.bool false,.int .u32 0,.nils,.nils,.int .i64 0,.int .u32 0,.int .u32 0,.int .u32 0]
def aD(d:Ds):SV:=.agg [.int .i64 d.ori,.psl 36 d.path,.int .u32 d.nx,.bool d.hm,.int .u32 d.med,.bool d.hp,.int .u32 d.prf,.bool d.ho,.int .u32 d.orr,.psl 37 d.cl,.psl 136 d.cm,.int .i64 d.tk,.int .u32 d.tl,.int .u32 d.tr,.int .u32 d.tg]
def EG(e a:Int):CTree:=.ret (.tup [aI,.nils,.nils,.agg [.int .i64 e,.int .i64 a]]) []
noncomputable def rdK(o:Int × Int × List (Int × Bool) × Dz)(n:Nat):CTree:=
 bif o.1==0 then bif(bif bw o.2.2.1 14 then !(bif bw o.2.2.1 1 then bw o.2.2.1 2 else false)else false)then EG 17 n
  else bif !(bw o.2.2.1 14)then .ret (.tup [aI,.nils,.psl 88 o.2.2.2.d.unr,.agg [.int .i64 0,.int .i64 0]]) []
  else .ret (.tup [aD o.2.2.2.d,.psl 88 o.2.2.2.d.rch,.psl 88 o.2.2.2.d.unr,.agg [.int .i64 0,.int .i64 0]]) []
 else bif o.1==0 then .fail else bif o.1 !=0 then EG o.1 o.2.1 else .fail
noncomputable def rdO{σ:Type}(lk:σ->Int->Bool)(o:Int × Int × σ × Dz)(n:Nat):Int × Int × Ds:=
 bif o.1==0 then bif lk o.2.2.1 14 then bif(bif lk o.2.2.1 1 then lk o.2.2.1 2 else false)then(0,0,o.2.2.2.d)else(17,n,dI0)
  else(0,0,{dI0 with unr:=o.2.2.2.d.unr})
 else(o.1,o.2.1,dI0)
noncomputable abbrev rdQ(es:List SV)(n:Nat):Int × Int × Ds:=rdO bw (fg es n 0 0 [] zI) n
def rdV(q:Int × Int × Ds):SV:=.tup [aD q.2.2,.psl 88 q.2.2.rch,.psl 88 q.2.2.unr,.agg [.int .i64 q.1,.int .i64 q.2.1]]
theorem qP:CoV Tryz.prog aI (aD dI0):=.agg (.cons .rfl' (.cons .nils (.cons .rfl' (.cons .rfl' (.cons .rfl' (.cons .rfl' (.cons .rfl' (.cons .rfl' (.cons .rfl' (.cons .nils (.cons .nils .rfl')))))))))))
def ytK(p:List SV)(a:Int):Nat->Int->Int->(Int->CTree)->CTree
 | 0,_,x,K=>K x
 | k+1,i,x,K=>bif inB (w64 (a+i)) p.length then ytK p a k (w64 (i+1)) (Bx x (dg p (w64 (a+i)).toNat)) K else .fail
theorem Lq(p:List SV)(a:Int):opn (tbl []) Tryz.f55 [.psl 5 p,.int .i64 a,.int .i64 1] []=ytK p a 1 0 0 (fun x=>.ret (.int .u64 x) []):=by kernel_rfl
theorem Lr(p:List SV)(a:Int):opn (tbl []) Tryz.f55 [.psl 5 p,.int .i64 a,.int .i64 2] []=ytK p a 2 0 0 (fun x=>.ret (.int .u64 x) []):=by kernel_rfl
theorem Ls(p:List SV)(a:Int):opn (tbl []) Tryz.f55 [.psl 5 p,.int .i64 a,.int .i64 3] []=ytK p a 3 0 0 (fun x=>.ret (.int .u64 x) []):=by kernel_rfl
theorem Lt(p:List SV)(a:Int):opn (tbl []) Tryz.f55 [.psl 5 p,.int .i64 a,.int .i64 4] []=ytK p a 4 0 0 (fun x=>.ret (.int .u64 x) []):=by kernel_rfl
theorem wF{p:List SV}{a:Nat}(hp:mN p)(hl:p.length<=1000000)(K:Int->CTree):∀ (k i:Nat),i+k<=4->a+(i+k)<=p.length->ytK p a k i (tkN p a i) K=K (tkN p a (i+k))
 | 0,i,_,_=>rfl
 | k+1,i,h,h2=>by
  unfold ytK
  have w1:w64 ((a:Int)+(i:Int))=((a+i:Nat):Int):=by rw[show w64 ((a:Int)+(i:Int))=(a:Int)+i from ai (by omega) (by omega)];omega
  have w2:w64 ((i:Int)+1)=((i+1:Nat):Int):=by rw[show w64 ((i:Int)+1)=(i:Int)+1 from ai (by omega) (by omega)];omega
  obtain⟨q1,q2⟩:=aX hp a i
  obtain⟨q3,q4⟩:=hp (a+i)
  have q5:(256:Int) ^ i<=256 ^ 3:=by
   have:i<=3:=by omega
   exact Int.ofNat_le.2 (Nat.pow_le_pow_right (by decide) this)
  have q6:(256:Int) ^ 3=16777216:=by decide
  rw[w1,w2,show inB ((a+i:Nat):Int) p.length=true by unfold inB;simp;omega,cT,show(((a+i:Nat):Int)).toNat=a+i from rfl,xJ (by omega) (by omega) q3 q4]
  have:=wF (a:=a) hp hl K k (i+1) (by omega) (by omega)
  rw[tkN]at this
  rw[this,Nat.add_right_comm,Nat.add_assoc]
noncomputable def sE:ag:=fun args H=>match args,H with
 | [.psl 5 p,.int .i64 a,.int .i64 k],[]=>.ite (dec (byl p/\p.length<=1000000/\0<=a/\a+k<=p.length/\(k=1\/k=2\/k=3\/k=4))) (.ret (.int .u64 (tkN p a.toNat k.toNat)) []) .fail
 | _,_=>.fail
theorem IX  :Known Tryz.prog 55 sE  :=(am        ok0 Tryz.func55 rfl).weak (by
 intro args H v ups h
 unfold sE at h
 split at h
 . rename_i p a k
   rw[aa]at h
   cases hc:dec _ with
   | false=>rw[hc]at h;cases h
   | true=>
    rw[hc,cT]at h
    obtain⟨h1,h2,h3,h4,h5⟩:=dec_iff.1 hc
    obtain⟨b,rfl⟩:=Int.eq_ofNat_of_zero_le h3
    have go:∀ j:Nat,j<=4->(b:Int)+j<=p.length->ytK p b j 0 0 (fun x=>.ret (.int .u64 x) [])= .ret (.int .u64 (tkN p b j)) []:=by
     intro j hj hb
     have:=wF h1.ok h2 (a:=b) (fun x=>.ret (.int .u64 x) []) j 0 (by omega) (by omega)
     rw[Nat.zero_add]at this
     exact this
    rcases h5 with rfl | rfl | rfl | rfl
    . exact(congrArg ac ((Lq p b).trans (go 1 (by omega) h4))).trans h
    . exact(congrArg ac ((Lr p b).trans (go 2 (by omega) h4))).trans h
    . exact(congrArg ac ((Ls p b).trans (go 3 (by omega) h4))).trans h
    . exact(congrArg ac ((Lt p b).trans (go 4 (by omega) h4))).trans h
 . cases h)
noncomputable abbrev κli:=bn Tryz.prog (tbl [(55,sE)]) 300 5
noncomputable abbrev ιli:Nat->Bool:=fun g=>inl (tbl [(55,sE)]) g&&bB Tryz.prog g
theorem Lu:KOk Tryz.prog κli:=aL ak aq (af IX ok0) 300 5
noncomputable def BY:Code:=Tryz.f100.body.getD .skip
noncomputable def c94:Code:=(bv 5 BY).getD .skip
def ut(p l:List SV)(m:Nat)(i:Int):Prop:=byl p/\p.length<=40000/\m=l.length/\0<=i/\i<=p.length/\(p.length - i.toNat) % 4=0/\l.length+(p.length - i.toNat) / 4<=20000
noncomputable def Fm:ag:=fun args H=>match args,H with
 | [.psl 5 p,.qs 0 1 0 m,.int .i64 i],[(0,.seq 36 l)]=>.ite (dec (ut p l m i)) (.ret (.tup [.int .i64 2,.qs 1 1 0 (l.length+(p.length - i.toNat) / 4)]) [(0,none),(1,some (.seq 36 (l++wd p i.toNat ((p.length - i.toNat) / 4))))]) .fail
 | [.psl 5 p,.nils,.int .i64 i],[]=>.ite (dec (ut p [] 0 i/\i < p.length)) (.ret (.tup [.int .i64 2,.qs 0 1 0 ((p.length - i.toNat) / 4)]) [(0,some (.seq 36 (wd p i.toNat ((p.length - i.toNat) / 4))))]) .fail
 | _,_=>.fail
def liM:List SV->HpL->Nat
 | [.psl _ p,_,.int _ i],_=>p.length - i.toNat
 | _,_=>0
noncomputable def e94:LEnt:={ins:=[0,6,7],outs:=[6],keep:=[],size:=38,code:=c94,s:=Fm}
noncomputable def Lv(N:Nat)(p l:List SV)(m:Nat)(i:Int):CTree:=
 bif Nat.blt (p.length - i.toNat) N then bif dec (ut p l m i)then .ret (.tup [.int .i64 2,.qs 0 1 0 (l.length+(p.length - i.toNat) / 4)]) [(0,some (.seq 36 (l++wd p i.toNat ((p.length - i.toNat) / 4))))]else .fail else .fail
noncomputable def Lw(N:Nat)(p l:List SV)(m:Nat)(i:Int):CTree:=
 bif Nat.blt (p.length - i.toNat) N then bif dec (ut p l m i)then .ret (.tup [.int .i64 2,.qs 1 1 0 (l.length+(p.length - i.toNat) / 4)]) [(0,none),(1,some (.seq 36 (l++wd p i.toNat ((p.length - i.toNat) / 4))))]else .fail else .fail
theorem NS(N:Nat)(p l:List SV)(m:Nat)(i:Int):av Tryz.prog κli ιli (aF []) true 300 e94 {e94 with s:=ay liM Fm N} c94 [.psl 5 p,.qs 0 1 0 m,.int .i64 i] [(0,.seq 36 l)]=
 bif decide (i < p.length)then bif dec (byl p/\p.length<=1000000/\0<=i/\i+4<=p.length/\((4:Int)=1\/(4:Int)=2\/(4:Int)=3\/(4:Int)=4))then bif decide (m=l.length)then bif decide (l.length+1<=9223372036854775807)&&decide ((l.length+1) * 4<=140737488355328)then
  Lw N p (l++[.int .u32 (w3 (tkN p i.toNat 4))]) (l.length+1) (w64 (i+4))else .fail else .fail else .fail
 else .ret (.tup [.int .i64 2,.qs 0 1 0 m]) []:=by kernel_rfl
theorem NT(N:Nat)(p:List SV)(i:Int):av Tryz.prog κli ιli (aF []) true 300 e94 {e94 with s:=ay liM Fm N} c94 [.psl 5 p,.nils,.int .i64 i] []=
 bif decide (i < p.length)then bif dec (byl p/\p.length<=1000000/\0<=i/\i+4<=p.length/\((4:Int)=1\/(4:Int)=2\/(4:Int)=3\/(4:Int)=4))then
  Lv N p [.int .u32 (w3 (tkN p i.toNat 4))] 1 (w64 (i+4))else .fail
 else .ret (.tup [.int .i64 2,.nils]) []:=by kernel_rfl
theorem Fo{l:List SV}:bN [(0,.seq 36 l)] (.tup [.int .i64 2,.qs 0 1 0 l.length]) [] (.tup [.int .i64 2,.qs 1 1 0 l.length]) [(0,none),(1,some (.seq 36 l))]:=by
 refine⟨0,1,by simp,by simp[aj,az],fun x c hx=> ?_,rfl,fun y=> ?_⟩
 . have:=aQ _ _ _ hx
   simp only[List.mem_singleton,pJ]at this
   obtain⟨_,rfl⟩:=this
   simp[aJ]
 . match y with
   | 0=>rfl
   | 1=>rfl
   | y+2=>
    simp only[ad,HpL.get,show ¬ (y+2=1)by omega,show ¬ (y+2=0)by omega,if_false,show Nat.beq 0 (y+2)=false from bK (by omega),cF,Option.map_none]
theorem BZ      :aO     Tryz.prog e94:=bG          (κ:=κli) (ι:=ιli) (T:=aF   []) (sp:=true) (fuel:=300) (c:=c94) (μ:=liM) Lu   aq     aE       (show aN    (aF   []) c94=c94 by kernel_rfl) (by
 intro N args H v' ups' hbt h
 unfold e94 Fm at h
 simp only[]at h
 split at h
 . rename_i p m i l
   rw[aa]at h
   cases hc:dec _ with
   | false=>rw[hc]at h;cases h
   | true=>
    rw[hc,cT]at h
    obtain⟨h1,h2,h3,h4,h5,h6,h7⟩:=dec_iff.1 hc
    subst h3
    have hrd:=NS N p l l.length i
    have hN:Nat.blt (p.length - i.toNat) (N+1)=true:=hbt
    rw[bL]at hN
    by_cases hlt:i < p.length
    . obtain⟨q1,q2⟩:=aX h1.ok i.toNat 4
      have e4:(i+4).toNat=i.toNat+4:=by omega
      have e5:(p.length - i.toNat) / 4=(p.length - (i.toNat+4)) / 4+1:=by omega
      rw[dT0 hlt,cT,dec_iff.2 ⟨h1,by omega,h4,by omega,by decide⟩,cT,dT0 rfl,cT,dT0 (show l.length+1<=9223372036854775807 by omega),dT0 (show(l.length+1) * 4<=140737488355328 by omega),Bool.and_self,cT,
       bc q1 (Int.lt_of_lt_of_le q2 (by decide)),show w64 (i+4)=i+4 from ai (by omega) (by omega)]at hrd
      unfold Lw at hrd
      rw[e4,show Nat.blt (p.length - (i.toNat+4)) N=true by rw[bL];omega,cT,dec_iff.2 ⟨h1,h2,by simp,by omega,by omega,by omega,by simp;omega⟩,cT]at hrd
      rw[e5,wd]at h
      rw[lA0,aA,lS,List.singleton_append,Nat.add_assoc,Nat.add_comm 1]at hrd
      cases h
      exact .inl ⟨_,congrArg ac hrd,fun x=>rfl⟩
    . rw[dF hlt,cF]at hrd
      cases h
      refine .inr ⟨_,_,congrArg ac hrd,?_⟩
      rw[show(p.length - i.toNat) / 4=0 by omega]
      simp only[wd,List.append_nil,Nat.add_zero]
      exact Fo
 . rename_i p i
   rw[aa]at h
   cases hc:dec _ with
   | false=>rw[hc]at h;cases h
   | true=>
    rw[hc,cT]at h
    obtain⟨⟨h1,h2,h3,h4,h5,h6,h7⟩,hlt⟩:=dec_iff.1 hc
    have hrd:=NT N p i
    have hN:Nat.blt (p.length - i.toNat) (N+1)=true:=hbt
    rw[bL]at hN
    obtain⟨q1,q2⟩:=aX h1.ok i.toNat 4
    have e4:(i+4).toNat=i.toNat+4:=by omega
    have e5:(p.length - i.toNat) / 4=(p.length - (i.toNat+4)) / 4+1:=by omega
    simp only[List.length_nil]at h7
    rw[dT0 hlt,cT,dec_iff.2 ⟨h1,by omega,h4,by omega,by decide⟩,cT,bc q1 (Int.lt_of_lt_of_le q2 (by decide)),show w64 (i+4)=i+4 from ai (by omega) (by omega)]at hrd
    unfold Lv at hrd
    rw[e4,show Nat.blt (p.length - (i.toNat+4)) N=true by rw[bL];omega,cT,dec_iff.2 ⟨h1,h2,rfl,by omega,by omega,by omega,by simp;omega⟩,cT]at hrd
    rw[e5,wd,Nat.add_comm _ 1]at h
    cases h
    exact .inl ⟨_,congrArg ac hrd,fun x=>rfl⟩
 . cases h)
noncomputable abbrev T94:cu:=aF [("l",e94)]
noncomputable abbrev m94:Code:=bx [(5, "l")] BY
noncomputable def B2:ag:=bE Tryz.prog κli ιli T94 true 300 Tryz.f100 m94
theorem Fp:Known Tryz.prog 100 B2:=⟨⟨Tryz.f100,Tryz.func100,bf ak Tryz.func100,rfl⟩,aS Lu aq (ba BZ aE) Tryz.func100 (show Tryz.f100.body=some (aN T94 m94)by kernel_rfl)⟩
def liB(L k:Int):Bool:=bif(bif L==0 then true else L.tmod 4 !=0)then true else decide (L > w64 (4 * k))
def liT(L k:Int)(A B:CTree):CTree:=bif L==0 then A else bif L.tmod 4 !=0 then A else bif decide (L > w64 (4 * k))then A else B
theorem IY(L k:Int)(A B:CTree):liT L k A B=bif liB L k then A else B:=by
 unfold liT liB
 cases L==0 <;> cases L.tmod 4 !=0 <;> rfl
theorem IZ(p:List SV)(k:Int):B2 [.psl 5 p,.int .i64 k] []=liT p.length k (.ret (.tup [.nils,.bool false]) []) (
 bif dec (ut p [] 0 0/\(0:Int) < p.length)then .ret (.tup [.qs 0 1 0 ((p.length - (0:Int).toNat) / 4),.bool true]) [(0,some (.seq 36 (wd p (0:Int).toNat ((p.length - (0:Int).toNat) / 4))))]else .fail):=by kernel_rfl
noncomputable def sG:ag:=fun args H=>match args,H with
 | [.psl 5 p,.int .i64 k],[]=>.ite (dec (byl p/\p.length<=40000/\0<=k/\k<=1000)) (.ret (.tup [.psl 36 (bif liB p.length k then []else wd p 0 (p.length / 4)),.bool (!(liB p.length k))]) []) .fail
 | _,_=>.fail
theorem I0    :Known Tryz.prog 100 sG    :=bd         Fp      (by
 intro args H v' ups' h
 unfold sG at h
 split at h
 . rename_i p k
   rw[aa]at h
   cases hc:dec _ with
   | false=>rw[hc]at h;cases h
   | true=>
    rw[hc,cT]at h
    obtain⟨h1,h2,h3,h4⟩:=dec_iff.1 hc
    have ht:=IZ p k
    rw[IY]at ht
    have hg:∀ x c',HpL.get [] x≠some c':=fun x c' hx=>by simp[HpL.get]at hx
    cases hb:liB p.length k with
    | true=>
     rw[hb]at ht h
     cases h
     exact⟨_,_,congrArg ac ht,.inr ⟨.tup (.cons .nils .rfl'),fun x c' hx=>⟨c',hx,.rfl'⟩⟩⟩
    | false=>
     rw[hb]at ht h
     have hm:((p.length:Int).tmod 4 !=0)=false:=by
      unfold liB at hb
      cases hz:((p.length:Int)==0) <;> rw[hz]at hb
      . cases hy:((p.length:Int).tmod 4 !=0)with
        | false=>rfl
        | true=>rw[hy]at hb;cases hb
      . cases hb
     have hm2:p.length % 4=0:=by
      have:(p.length:Int).tmod 4=0:=by simpa using hm
      rw[Int.tmod_eq_emod_of_nonneg (by omega)]at this
      omega
     have hz:((p.length:Int)==0)=false:=by
      unfold liB at hb
      cases hy:((p.length:Int)==0)with
      | false=>rfl
      | true=>rw[hy]at hb;cases hb
     have hz2:p.length≠0:=by intro e;rw[e]at hz;cases hz
     rw[cF,dec_iff.2 ⟨⟨h1,h2,rfl,by omega,by omega,by simpa using hm2,by simp;omega⟩,by omega⟩,cT]at ht
     cases h
     exact⟨_,_,congrArg ac ht,.inl ⟨0,36,wd p 0 (p.length / 4),by simp[ad],.tup (.cons (.qs (by simp[fW])) .rfl'),fun x c' hx=>absurd hx (hg x c')⟩⟩
 . cases h)
theorem rF:Known Tryz.prog 48 (fj 2):=yC Tryz.func48 rfl (by decide) (fun r n es=>by kernel_rfl)
theorem Mj(es:List SV):opn (tbl []) Tryz.f47 [.psl 5 es] []=bif te (([]:List SV).length+es.length)then .ret (.ptr 0 0) [(0,some (.cells 157 [.int .i64 0,.int .i64 es.length,.qs 1 1 0 (([]:List SV).length+es.length),.int .i64 0,.int .i64 0,.bool true])),(1,some (.seq 5 ([]++es)))]else .fail:=by kernel_rfl
def ly:ag:=fun args H=>match args,H with
 | [.psl 5 es],[]=>.ite (decide (es.length<=1000000)) (.ret (.ptr 0 0) [(0,some (.cells 157 [.int .i64 0,.int .i64 es.length,.qs 1 1 0 es.length,.int .i64 0,.int .i64 0,.bool true])),(1,some (.seq 5 es))]) .fail
 | _,_=>.fail
theorem rG:Known Tryz.prog 47 ly:=(am ok0 Tryz.func47 rfl).weak (by
 intro args H v ups h
 unfold ly at h
 split at h
 . rename_i es
   rw[aa]at h
   cases hc:decide (es.length<=1000000)with
   | false=>rw[hc]at h;cases h
   | true=>
    rw[hc]at h
    have h1:=of_decide_eq_true hc
    rw[Mj,List.length_nil,Nat.zero_add,kB h1,cT]
    exact h
 . cases h)
theorem bJ{i:Int}{n:Nat}(h0:0<=i)(h1:i < n):inB i n=true:=by unfold inB;rw[dT0 h0,dT0 h1];rfl
/- Markers. -/
def mkd:List SV->Bool
 | []=>true
 | x :: xs=>bif asI x !=255 then false else mkd xs
noncomputable def CR:Code:=Tryz.f50.body.getD .skip
noncomputable def c50:Code:=(bv 2 CR).getD .skip
noncomputable def Jm:ag:=fun args H=>match args,H with
 | [.psl 5 p,.int .i64 n,.int .i64 i],[]=>.ite (dec (n=p.length/\0<=i/\i<=n/\n<=1000000)) (.ite (mkd (p.drop i.toNat)) (.ret (.tup [.int .i64 2,.junk]) []) (.ret (.tup [.int .i64 1,.bool false]) [])) .fail
 | _,_=>.fail
def mkM:List SV->HpL->Nat
 | [_,.int _ n,.int _ i],_=>(n - i).toNat
 | _,_=>0
noncomputable def e50:LEnt:={ins:=[5,6,7],outs:=[2],keep:=[],size:=14,code:=c50,s:=Jm}
theorem Od(N:Nat)(p:List SV)(n i:Int):av Tryz.prog (bn Tryz.prog (tbl []) 300 5) (fun _=>false) (aF []) true 300 e50 {e50 with s:=ay mkM Jm N} c50 [.psl 5 p,.int .i64 n,.int .i64 i] []=
 bif decide (i < n)then bif inB i p.length then bif asI (p.getD i.toNat .junk)!=255 then .ret (.tup [.int .i64 1,.bool false]) []else
  bif Nat.blt (n - w64 (i+1)).toNat N then bif dec (n=p.length/\0<=w64 (i+1)/\w64 (i+1)<=n/\n<=1000000)then bif mkd (p.drop (w64 (i+1)).toNat)then .ret (.tup [.int .i64 2,.junk]) []else .ret (.tup [.int .i64 1,.bool false]) []else .fail else .fail
 else .fail else .ret (.tup [.int .i64 2,.junk]) []:=by kernel_rfl
theorem CS      :aO     Tryz.prog e50:=bG          (κ:=bn    Tryz.prog (tbl []) 300 5) (ι:=fun _=>false) (T:=aF   []) (sp:=true) (fuel:=300) (c:=c50) (μ:=mkM) (aL       ak       aq     ok0 300 5) aq     aE       (show aN    (aF   []) c50=c50 by kernel_rfl) (by
 intro N args H v' ups' hbt h
 unfold e50 Jm at h
 simp only[]at h
 split at h
 . rename_i p n i
   rw[aa]at h
   cases hc:dec (n=p.length/\0<=i/\i<=n/\n<=1000000)with
   | false=>rw[hc]at h;cases h
   | true=>
    rw[hc,cT]at h
    obtain⟨rfl,h0,h1,h2⟩:=dec_iff.1 hc
    have ht:=Od N p p.length i
    have hN:Nat.blt ((p.length:Int) - i).toNat (N+1)=true:=hbt
    rw[bL]at hN
    by_cases hi:i < p.length
    . rw[dT0 hi,cT,bJ h0 hi,cT,show w64 (i+1)=i+1 from ai (by omega) (by omega),show Nat.blt ((p.length:Int) - (i+1)).toNat N=true by rw[bL];omega,dec_iff.2 ⟨rfl,by omega,by omega,h2⟩,cT,cT]at ht
      have hd:mkd (p.drop i.toNat)=bif asI (p.getD i.toNat .junk)!=255 then false else mkd (p.drop (i+1).toNat):=by
       rw[show(i+1).toNat=i.toNat+1 by omega,List.drop_eq_getElem_cons (show i.toNat < p.length by omega),mkd,gD0,List.getElem?_eq_getElem (show i.toNat < p.length by omega)];rfl
      rw[hd]at h
      cases hx:asI (p.getD i.toNat .junk)!=255 with
      | true=>rw[hx]at ht h;cases h;exact .inl ⟨_,congrArg ac ht,fun x=>rfl⟩
      | false=>
       rw[hx]at ht h
       rw[cF]at ht h
       refine .inl ⟨ups',?_,fun x=>rfl⟩
       refine(congrArg ac ht).trans (Eq.trans ?_ h)
       rw[bt,aa]
    . rw[dF hi,cF]at ht
      rw[List.drop_of_length_le (by omega)]at h
      cases h
      exact .inl ⟨_,congrArg ac ht,fun x=>rfl⟩
 . cases h)
noncomputable abbrev T50:cu:=aF [("k",e50)]
noncomputable abbrev m50:Code:=bx [(2, "k")] CR
noncomputable def vb:ag:=bE Tryz.prog (bn Tryz.prog (tbl []) 300 5) (fun _=>false) T50 true 300 Tryz.f50 m50
theorem marked_k0:Known Tryz.prog 50 vb:=⟨⟨Tryz.f50,Tryz.func50,bf ak Tryz.func50,rfl⟩,aS (aL ak aq ok0 300 5) aq (ba CS aE) Tryz.func50 (show Tryz.f50.body=some (aN T50 m50)by kernel_rfl)⟩
theorem CT(p:List SV):vb [.psl 5 p] []=bif dec ((p.length:Int)=p.length/\(0:Int)<=0/\(0:Int)<=p.length/\(p.length:Int)<=1000000)then bif mkd (p.drop (0:Int).toNat)then .ret (.bool true) []else .ret (.bool false) []else .fail:=by kernel_rfl
noncomputable def pu:ag:=fun args H=>match args,H with
 | [.psl 5 p],[]=>.ite (dec (p.length<=1000000)) (.ret (.bool (mkd p)) []) .fail
 | _,_=>.fail
theorem CU:Known Tryz.prog 50 pu:=marked_k0.weak (by
 intro args H v ups h
 unfold pu at h
 split at h
 . rename_i p
   rw[aa]at h
   cases hc:dec (p.length<=1000000)with
   | false=>rw[hc]at h;cases h
   | true=>
    rw[hc,cT]at h
    have h1:=dec_iff.1 hc
    refine(congrArg ac (CT p)).trans ?_
    rw[dec_iff.2 ⟨rfl,by omega,by omega,by omega⟩,cT,show p.drop (0:Int).toNat=p from rfl]
    cases hm:mkd p <;> rw[hm]at h <;> exact h
 . cases h)
end Go.Proofs.YtnlmhpancboddaaGreat
