/- Attributes are read: numbers, known. -/
import Derived.Test.YtnlmhpancboddaaGreatPart8
set_option linter.unusedVariables false
set_option linter.unusedSimpArgs false
namespace Go.Proofs.YtnlmhpancboddaaGreat
open Go.Am
set_option maxRecDepth 100000
theorem xo{P:Program}{v:SV}:CoV P v .junk:=fun _ _ _ _ _ _=>.junk
theorem xp{P:Program}:∀ (vs:List SV),CoL P vs (List.replicate vs.length .junk)
 | []=>.nil
 | _ :: vs=>.cons xo (xp vs)
def jk:Chunk:=.cells 177 [.junk,.junk,.junk,.junk,.junk,.junk,.junk,.junk,.junk,.junk,.junk,.junk,.junk,.junk,.junk,.junk,.junk]
theorem pT{pb cb mb:Bool}{d:Ds}{x:Nat}:CoC Tryz.prog x (dC pb cb mb d) jk:=.cells (xp (dL pb cb mb d))
def zP:SV->Option (Bool × List SV)
 | .nils=>some (true,[])
 | .psl _ l=>some (false,l)
 | _=>none
def dP:List SV->Option (Bool × Bool × Bool × Ds)
 | [.int .i64 ori,p,.int .u32 nx,.bool hm,.int .u32 med,.bool hp,.int .u32 prf,.bool ho,.int .u32 orr,c,m,.int .i64 tk,.int .u32 tl,.int .u32 tr,.int .u32 tg,.psl 88 rch,.psl 88 unr]=>
  match zP p,zP c,zP m with
  | some (pb,path),some (cb,cl),some (mb,cm)=>some (pb,cb,mb,⟨ori,nx,med,prf,orr,tk,tl,tr,tg,hm,hp,ho,path,cl,cm,rch,unr⟩)
  | _,_,_=>none
 | _=>none
def vl(es:List SV)(s e:Nat):List SV:=sl es s (e - s)
def okV(es:List SV)(n s e:Nat):Prop:=byl es/\n=es.length/\n<=1000000/\s<=e/\e<=n
theorem Da{es:List SV}{s m:Nat}:∀ k,k<=m->tkN es s k=tkN (sl es s m) 0 k
 | 0,_=>rfl
 | k+1,h=>by
  rw[tkN,tkN,Da (m:=m) k (by omega),Nat.zero_add,vf (es:=es) (l:=s) (n:=m) (j:=k) (by omega)]
theorem okV.rd{es:List SV}{n s e:Nat}(h:okV es n s e):OkRd (RD s e) es:=by
 obtain⟨h1,h2,h3,h4,h5⟩:=h
 exact⟨by simp[RD],by simp[RD];omega,by simp[RD];omega,by omega,h1.ok⟩
theorem okV.len{es:List SV}{n s e:Nat}(h:okV es n s e):(vl es s e).length=e - s:=by
 obtain⟨h1,h2,h3,h4,h5⟩:=h
 exact eR (by omega)
def nmF(f:Nat):Ds->Int->Ds:=bif Nat.beq f 112 then d1 else bif Nat.beq f 115 then d4 else bif Nat.beq f 116 then d5 else d9
def gB(f:Nat):Int:=bif Nat.beq f 112 then 2 else 4294967295
def nmZ(f:Nat):Nat:=bif Nat.beq f 112 then 1 else 4
def pU(f:Nat)(v:List SV):Bool:=decide (v.length=nmZ f)&&decide (tkN v 0 (nmZ f)<=gB f)
noncomputable def Kc:ag:=fun args H=>match args,H with
 | [.agg [.ptr 0 0,.int .i64 off,.int .u8 fl,.int .u8 cd],.ptr 2 0,.ptr 3 0,.ptr 4 0],[(0,.cells 157 [.int .i64 a,.int .i64 e,.qs 1 1 0 n,_,_,_]),(1,.seq 5 es),(2,_),(3,_),(4,.cells 205 [.fn (.func f) _ _]),(5,_),(6,.cells 177 cs)]=>
  match dP cs with
  | some (pb,cb,mb,d)=>.ite (dec (H=nmH (RD a.toNat e.toNat) n es (nmZ f) (gB f) f pb cb mb d/\okV es n a.toNat e.toNat/\(f=112\/f=115\/f=116\/f=117)))
    (.ite (pU f (vl es a.toNat e.toNat)) (.ret (.bool true) [(6,some (dC pb cb mb (nmF f d (tkN (vl es a.toNat e.toNat) 0 (nmZ f))))),(0,none)]) (.ret (.bool false) [(6,some jk),(0,none)])) .fail
  | none=>.fail
 | _,_=>.fail
theorem pV{H:HpL}{c:Chunk}{c0 c6:Chunk}(h6:CoC Tryz.prog 6 c6 c){ups:List (Nat × Option Chunk)}(hu:ad ups H.get 6=some c6)(ho:∀ x,x≠0->x≠6->ad ups H.get x=H.get x):∀ x c',ad [(6,some c),(0,none)] H.get x=some c'->∃ c,ad ups H.get x=some c/\CoC Tryz.prog x c c':=by
 intro x c' hx
 simp only[ad]at hx
 by_cases h0:x=0
 . rw[if_pos h0]at hx;cases hx
 . rw[if_neg h0]at hx
   by_cases hx6:x=6
   . subst hx6;rw[if_pos rfl]at hx;cases hx;exact⟨c6,hu,h6⟩
   . rw[if_neg hx6]at hx;exact⟨c',by rw[ho x h0 hx6];exact hx,.rfl'⟩
theorem Oa{f:Nat}(hf:f=112\/f=115\/f=116\/f=117)(r:Rd)(n:Nat)(es:List SV)(off fl cd:Int)(pb cb mb:Bool)(d:Ds):opn κn Tryz.f135 (nmA off fl cd) (nmH r n es (nmZ f) (gB f) f pb cb mb d)=nmT r n es (nmZ f) (gB f) pb cb mb (nmF f d):=by
 rcases hf with rfl | rfl | rfl | rfl
 . exact Mo ..
 . exact Mq ..
 . exact Mr ..
 . exact Ms ..
theorem Ob  :Known Tryz.prog 135 Kc  :=bw         (aj        nOk Tryz.func135 rfl) (by
 intro args H v' ups' h
 unfold Kc at h
 split at h
 . rename_i off fl cd a e n x1 x2 x3 es x4 x5 f x6 x7 x8 cs
   split at h
   . rename_i pb cb mb d hd
     rw[aa]at h
     cases hc:dec _ with
     | false=>rw[hc]at h;cases h
     | true=>
      rw[hc,cT,aa]at h
      obtain⟨hH,ho,hf⟩:=dec_iff.1 hc
      rw[hH]
      generalize a.toNat=s at *
      generalize e.toNat=t at *
      have ht:=Oa hf (RD s t) n es off fl cd pb cb mb d
      have hz:nmZ f=1\/nmZ f=4:=by rcases hf with rfl | rfl | rfl | rfl <;> decide
      have hl:=ho.len
      obtain⟨h1,h2,h3,h4,h5⟩:=ho
      have hw:IntKind.i64.wrap ((RD s t).end_ - (RD s t).at_)=((t - s:Nat):Int):=by
       unfold RD;simp only[]
       rw[am (by omega) (by omega)];omega
      unfold nmT at ht
      rw[hw]at ht
      by_cases hq:t - s=nmZ f
      . rw[show(((t - s:Nat):Int)!=((nmZ f:Nat):Int))=false by simp;omega,cF]at ht
        unfold rdC at ht
        rw[dec_iff.2 ⟨okV.rd ⟨h1,h2,h3,h4,h5⟩,h2,by omega,by omega⟩,cT,aY (by omega),Da (es:=es) (s:=s) (m:=t - s) (nmZ f) (by omega)]at ht
        change _=bif decide (tkN (vl es s t) 0 (nmZ f) > gB f)then _ else CTree.ret (.bool true) [(6,some (dC pb cb mb (nmF f d (tkN (vl es s t) 0 (nmZ f))))),_]at ht
        by_cases hm:tkN (vl es s t) 0 (nmZ f)<=gB f
        . rw[dF0 (by omega),cF]at ht
          rw[show pU f (vl es s t)=true by unfold pU;rw[hl,dT0 hq,dT0 hm];rfl]at h
          cases h
          refine⟨_,_,congrArg ae ht,.inr ⟨.rfl',pV (c0:=jk) .rfl' rfl (fun x h0 h6=> ?_)⟩⟩
          simp only[ad,h0,h6,if_false]
        . rw[dT0 (by omega),cT]at ht
          rw[show pU f (vl es s t)=false by unfold pU;rw[dF0 hm];simp]at h
          cases h
          refine⟨_,_,congrArg ae ht,.inr ⟨.rfl',pV (c0:=jk) pT rfl (fun x h0 h6=> ?_)⟩⟩
          simp only[ad,h0,if_false]
      . rw[show(((t - s:Nat):Int)!=((nmZ f:Nat):Int))=true by simp;omega,cT]at ht
        rw[show pU f (vl es s t)=false by unfold pU;rw[hl,dF0 hq];rfl]at h
        cases h
        exact⟨_,_,congrArg ae ht,.inr ⟨.rfl',pV (c0:=jk) pT rfl (fun x h0 h6=>rfl)⟩⟩
   . cases h
 . cases h)
def flH(r:Rd)(n:Nat)(es:List SV)(pb cb mb:Bool)(d:Ds):HpL:=[(0,rC r n),(1,.seq 5 es),(2,.cells 203 [.ptr 3 0]),(3,dC pb cb mb d)]
def flA(off fl cd:Int):List SV:=[.agg [.ptr 0 0,.int .i64 off,.int .u8 fl,.int .u8 cd],.ptr 2 0]
noncomputable def fx(k:Nat):ag:=fun args H=>match args with
 | [.ptr 0 0]=>match rOf H with
  | some (r,n,es)=>.ite (dec (OkRd r es/\n=es.length)) (.ret (.int .u64 (r.num es k)) [(0,some (rC (r.adv k) n))]) .fail
  | none=>.fail
 | _=>.fail
theorem yT   {f k:Nat}{fn:Func}(hf:Tryz.prog.funcs[f]? =some fn)(hb:fn.body.isNone=false)(hk:k<=8)
  (ht:∀ r n es,opn κn fn [.ptr 0 0] (rH r n es)=rdC r n es k (.ret (.int .u64 (r.num es k)) [(0,some (rC (r.adv k) n))])):Known Tryz.prog f (fx k):=(aj nOk hf hb).weak (by
 intro args H v ups h
 unfold fx at h
 split at h
 . split at h
   . rename_i r n es hr
     rw[aa]at h
     cases hc:dec (OkRd r es/\n=es.length)with
     | false=>rw[hc]at h;cases h
     | true=>
      rw[hc,cT]at h
      obtain⟨h1,h2⟩:=dec_iff.1 hc
      rw[nS hr]
      refine(congrArg ae (ht r n es)).trans ?_
      unfold rdC
      rw[dec_iff.2 ⟨h1,h2,by omega,by omega⟩]
      exact h
   . cases h
 . cases h)
theorem AF:Known Tryz.prog 49 (fx 1):=yT Tryz.func49 rfl (by decide) (fun r n es=>by kernel_rfl)
theorem HR:Known Tryz.prog 123 (fx 3):=yT Tryz.func123 rfl (by decide) (fun r n es=>by kernel_rfl)
theorem rY:Known Tryz.prog 70 (fx 4):=yT Tryz.func70 rfl (by decide) (fun r n es=>by kernel_rfl)
noncomputable abbrev κu:=tbl [(49,fx 1),(123,fx 3),(70,fx 4),(126,rZ)]
theorem uOk:KOk Tryz.prog κu:=ac AF (ac HR (ac rY (ac zd ok0)))
noncomputable def lM(pre:Bool->Bool->Bool->Bool)(ok:List SV->Bool)(g:List SV->Ds->Ds)(fp fc fm:Bool->Bool):ag:=fun args H=>match args,H with
 | [.agg [.ptr 0 0,.int .i64 off,.int .u8 fl,.int .u8 cd],.ptr 2 0],[(0,.cells 157 [.int .i64 a,.int .i64 e,.qs 1 1 0 n,_,_,_]),(1,.seq 5 es),(2,_),(3,.cells 177 cs)]=>
  match dP cs with
  | some (pb,cb,mb,d)=>.ite (dec (H=flH (RD a.toNat e.toNat) n es pb cb mb d/\okV es n a.toNat e.toNat/\pre pb cb mb=true))
    (.ite (ok (vl es a.toNat e.toNat)) (.ret (.bool true) [(3,some (dC (fp pb) (fc cb) (fm mb) (g (vl es a.toNat e.toNat) d))),(0,none)]) (.ret (.bool false) [(3,some jk),(0,none)])) .fail
  | none=>.fail
 | _,_=>.fail
theorem rI   {f:Nat}{s0:ag   }{pre:Bool->Bool->Bool->Bool}{ok:List SV->Bool}{g:List SV->Ds->Ds}{fp fc fm:Bool->Bool}(h0:Known Tryz.prog f s0)
  (ht:∀ s t n es off fl cd pb cb mb d,okV es n s t->pre pb cb mb=true->∃ v ups,ae (s0 (flA off fl cd) (flH (RD s t) n es pb cb mb d))=some (v,ups)/\
   (pp Tryz.prog (flH (RD s t) n es pb cb mb d) v ups (.bool (ok (vl es s t))) (bif ok (vl es s t)then [(3,some (dC (fp pb) (fc cb) (fm mb) (g (vl es s t) d))),(0,none)]else [(3,some jk),(0,none)])\/
    Am.Told Tryz.prog (flH (RD s t) n es pb cb mb d) v ups (.bool (ok (vl es s t))) (bif ok (vl es s t)then [(3,some (dC (fp pb) (fc cb) (fm mb) (g (vl es s t) d))),(0,none)]else [(3,some jk),(0,none)]))):
  Known Tryz.prog f (lM pre ok g fp fc fm):=bw h0 (by
 intro args H v' ups' h
 unfold lM at h
 split at h
 . rename_i off fl cd a e n x1 x2 x3 es x4 cs
   split at h
   . rename_i pb cb mb d hd
     rw[aa]at h
     cases hc:dec _ with
     | false=>rw[hc]at h;cases h
     | true=>
      rw[hc,cT,aa]at h
      obtain⟨hH,ho,hp⟩:=dec_iff.1 hc
      rw[hH]
      have:=ht a.toNat e.toNat n es off fl cd pb cb mb d ho hp
      cases hk:ok (vl es a.toNat e.toNat)with
      | true=>rw[hk]at h this;cases h;exact this
      | false=>rw[hk]at h this;cases h;exact this
   . cases h
 . cases h)
theorem nO{H:HpL}{c c3:Chunk}(h3:CoC Tryz.prog 3 c3 c){ups:List (Nat × Option Chunk)}(hu:ad ups H.get 3=some c3)(ho:∀ x,x≠0->x≠3->ad ups H.get x=H.get x):∀ x c',ad [(3,some c),(0,none)] H.get x=some c'->∃ c,ad ups H.get x=some c/\CoC Tryz.prog x c c':=by
 intro x c' hx
 simp only[ad]at hx
 by_cases h0:x=0
 . rw[if_pos h0]at hx;cases hx
 . rw[if_neg h0]at hx
   by_cases hx6:x=3
   . subst hx6;rw[if_pos rfl]at hx;cases hx;exact⟨c3,hu,h3⟩
   . rw[if_neg hx6]at hx;exact⟨c',by rw[ho x h0 hx6];exact hx,.rfl'⟩
noncomputable def ruC(r:Rd)(n:Nat)(es:List SV)(K:CTree):CTree:=bif dec (OkRd r es/\n=es.length)then K else .fail
def dT(d:Ds)(k l r g:Int):Ds:={d with tk:=k,tl:=l,tr:=r,tg:=g}
def tnB(r0 k:Int)(r:Rd):Bool:=bif(bif(bif r0==0 then(bif k==3 then true else k==6)else false)then IntKind.i64.wrap (r.end_ - r.at_)==0 else false)then r.err==0 else false
noncomputable def tnT(r:Rd)(n:Nat)(es:List SV)(pb cb mb:Bool)(d:Ds):CTree:=
 ruC r n es (ruC (r.adv 1) n es (ruC ((r.adv 1).adv 1) n es (ruC (((r.adv 1).adv 1).adv 3) n es (
  bif IntKind.i64.wrap ((r.adv 1).num es 1)==3 then ruC ((((r.adv 1).adv 1).adv 3).adv 4) n es (.ret (.bool (tnB (r.num es 1) (IntKind.i64.wrap ((r.adv 1).num es 1)) (((((r.adv 1).adv 1).adv 3).adv 4).adv 4)))
   [(3,some (dC pb cb mb (dT d (IntKind.i64.wrap ((r.adv 1).num es 1)) (w3 (((r.adv 1).adv 1).num es 3)) (w3 ((((r.adv 1).adv 1).adv 3).num es 4)) (w3 (((((r.adv 1).adv 1).adv 3).adv 4).num es 4))))),(0,some (rC (((((r.adv 1).adv 1).adv 3).adv 4).adv 4) n))])
  else .ret (.bool (tnB (r.num es 1) (IntKind.i64.wrap ((r.adv 1).num es 1)) ((((r.adv 1).adv 1).adv 3).adv 4)))
   [(3,some (dC pb cb mb (dT d (IntKind.i64.wrap ((r.adv 1).num es 1)) (w3 (((r.adv 1).adv 1).num es 3)) (w3 ((((r.adv 1).adv 1).adv 3).num es 4)) 0))),(0,some (rC ((((r.adv 1).adv 1).adv 3).adv 4) n))]))))
theorem NS(r:Rd)(n:Nat)(es:List SV)(off fl cd:Int)(pb cb mb:Bool)(d:Ds):opn κu Tryz.f127 (flA off fl cd) (flH r n es pb cb mb d)=tnT r n es pb cb mb d:=by
 cases pb <;> cases cb <;> cases mb <;> kernel_rfl
theorem lY{es:List SV}{s m j:Nat}:∀ k,j+k<=m->tkN es (s+j) k=tkN (sl es s m) j k
 | 0,_=>rfl
 | k+1,h=>by
  rw[tkN,tkN,lY (m:=m) k (by omega),vf (es:=es) (l:=s) (n:=m) (j:=j+k) (by omega),Nat.add_assoc]
theorem iV{es:List SV}{s t n:Nat}(j k:Nat)(h:s+(j+k)<=t):(RD (s+j) t).num es k=tkN (vl es s t) j k:=by
 rw[aY (by omega),lY (m:=t - s) k (by omega)];rfl
theorem ez{s t:Nat}(j k:Nat)(h:s+(j+k)<=t):(RD (s+j) t).adv k=RD (s+(j+k)) t:=by
 rw[aO (by omega),Nat.add_assoc]
theorem dp{r:Rd}(h:(r.err !=0)=true)(k:Nat):((r.adv k).err !=0)=true:=by rw[sY h];exact h
theorem fS{s t k:Nat}(h:¬ s+k<=t):(((RD s t).adv k).err !=0)=true:=by rw[jZ h];rfl
theorem eU{r:Rd}{n:Nat}{es:List SV}(h:OkRd r es)(hn:n=es.length)(K:CTree):ruC r n es K=K:=by
 unfold ruC;rw[dec_iff.2 ⟨h,hn⟩];rfl
def kx(v:List SV):Bool:=bif dg v 0==0 then(bif dg v 1==3 then decide (v.length=13)else bif dg v 1==6 then decide (v.length=9)else false)else false
def tnG(v:List SV)(d:Ds):Ds:=dT d (dg v 1) (tkN v 2 3) (tkN v 5 4) (bif dg v 1==3 then tkN v 9 4 else 0)
theorem tf{a b:Int}{r:Rd}(h:(r.err !=0)=true):tnB a b r=false:=by
 unfold tnB
 have:(r.err==0)=false:=by simpa using h
 rw[this]
 generalize(bif(bif a==0 then(bif b==3 then true else b==6)else false)then IntKind.i64.wrap (r.end_ - r.at_)==0 else false)=x
 cases x <;> rfl
theorem xn{s t k:Nat}(h:s+k<=t)(ht:t<=1000000):IntKind.i64.wrap ((RD (s+k) t).end_ - (RD (s+k) t).at_)=((t - s - k:Nat):Int):=by
 unfold RD;simp only[]
 rw[am (by omega) (by omega)];omega
theorem N7  :Known Tryz.prog 127 (lM   (fun _ _ _=>true) kx   tnG id id id):=rI    (aj        uOk Tryz.func127 rfl) (by
 intro s t n es off fl cd pb cb mb d ho _
 have ht:=NS (RD s t) n es off fl cd pb cb mb d
 have hl:=ho.len
 have hr:=ho.rd
 obtain⟨h1,h2,h3,h4,h5⟩:=ho
 have hv:byl (vl es s t):=h1.sl _ _
 have e1:(RD s t).adv 1=(RD (s+0) t).adv 1:=rfl
 unfold tnT at ht
 rw[eU hr h2,eU (hr.adv 1) h2,eU ((hr.adv 1).adv 1) h2,eU (((hr.adv 1).adv 1).adv 3) h2]at ht
 have told_no:∀ {x:Bool} {c:Chunk} {c0:Chunk},x=false->(∃ d',c=dC pb cb mb d')->Am.Told Tryz.prog (flH (RD s t) n es pb cb mb d) (.bool x) [(3,some c),(0,some c0)] (.bool false) [(3,some jk),(0,none)]:=by
  rintro x c c0 rfl ⟨d',rfl⟩
  exact⟨.rfl',nO pT rfl (fun x h0 h6=>by simp only[ad,h0,h6,if_false])⟩
 by_cases h9:s+9<=t
 . have a1:(RD s t).adv 1=RD (s+1) t:=ez    (s:=s) 0 1 (by omega)
   have a2:(RD (s+1) t).adv 1=RD (s+2) t:=ez 1 1 (by omega)
   have a3:(RD (s+2) t).adv 3=RD (s+5) t:=ez 2 3 (by omega)
   have a4:(RD (s+5) t).adv 4=RD (s+9) t:=ez 5 4 (by omega)
   have m0:(RD s t).num es 1=dg (vl es s t) 0:=by rw[<- tk1];exact iV (n:=n) (s:=s) 0 1 (by omega)
   have m1:(RD (s+1) t).num es 1=dg (vl es s t) 1:=by rw[<- tk1];exact iV (n:=n) 1 1 (by omega)
   have m2:(RD (s+2) t).num es 3=tkN (vl es s t) 2 3:=iV (n:=n) 2 3 (by omega)
   have m3:(RD (s+5) t).num es 4=tkN (vl es s t) 5 4:=iV (n:=n) 5 4 (by omega)
   obtain⟨q1,q2⟩:=hv.ok 1
   obtain⟨q3,q4⟩:=bT hv.ok 2 3
   obtain⟨q5,q6⟩:=bT hv.ok 5 4
   rw[a1,a2,a3,a4,m0,m1,m2,m3,am (n:=dg (vl es s t) 1) (by omega) (by omega),bS (n:=tkN (vl es s t) 2 3) q3 (Int.lt_trans q4 (by decide)),bS (n:=tkN (vl es s t) 5 4) q5 q6]at ht
   by_cases hk3:dg (vl es s t) 1=3
   . rw[show(dg (vl es s t) 1==3)=true by simpa using hk3,cT       ,eU     (by rw[<- a4,<- a3,<- a2,<- a1];exact(((hr.adv 1).adv 1).adv 3).adv 4) h2]at ht
     by_cases h13:s+13<=t
     . have a5:(RD (s+9) t).adv 4=RD (s+13) t:=ez 9 4 (by omega)
       have m4:(RD (s+9) t).num es 4=tkN (vl es s t) 9 4:=iV (n:=n) 9 4 (by omega)
       obtain⟨q7,q8⟩:=bT hv.ok 9 4
       rw[a5,m4,bS (n:=tkN (vl es s t) 9 4) q7 q8]at ht
       have hb:tnB (dg (vl es s t) 0) (dg (vl es s t) 1) (RD (s+13) t)=kx (vl es s t):=by
        unfold tnB kx
        rw[xn h13 (by omega),hk3,hl]
        cases dg (vl es s t) 0==0 with
        | false=>rfl
        | true=>
         by_cases hx:t - s=13
         . rw[dT0 hx,show t - s - 13=0 by omega];rfl
         . rw[dF0 hx,show(((t - s - 13:Nat):Int)==0)=false by simp;omega];rfl
       rw[hb]at ht
       refine⟨_,_,congrArg ae ht,.inr ?_⟩
       cases hok:kx (vl es s t)with
       | false=>exact told_no rfl ⟨_,rfl⟩
       | true=>
        refine⟨.rfl',nO (c3:=dC pb cb mb (tnG (vl es s t) d)) .rfl' ?_ (fun x h0 h6=>by simp only[ad,h0,h6,if_false])⟩
        show some _=some _
        unfold tnG
        rw[hk3];rfl
     . have hbad:=fS (s:=s+9) (t:=t) (k:=4) (by omega)
       have hok:kx (vl es s t)=false:=by
        unfold kx
        rw[hk3,hl,dF0 (show ¬ t - s=13 by omega)]
        cases dg (vl es s t) 0==0 <;> rfl
       rw[tf hbad]at ht
       rw[hok]
       exact⟨_,_,congrArg ae ht,.inr (told_no rfl ⟨_,rfl⟩)⟩
   . have hk3':(dg (vl es s t) 1==3)=false:=by simpa using hk3
     rw[hk3',cF]at ht
     have hb:tnB (dg (vl es s t) 0) (dg (vl es s t) 1) (RD (s+9) t)=kx (vl es s t):=by
      unfold tnB kx
      rw[xn h9 (by omega),hk3',hl]
      cases dg (vl es s t) 0==0 with
      | false=>rfl
      | true=>cases dg (vl es s t) 1==6 with
       | false=>rfl
       | true=>
        by_cases hx:t - s=9
        . rw[dT0 hx,show t - s - 9=0 by omega];rfl
        . rw[dF0 hx,show(((t - s - 9:Nat):Int)==0)=false by simp;omega];rfl
     rw[hb]at ht
     refine⟨_,_,congrArg ae ht,.inr ?_⟩
     cases hok:kx (vl es s t)with
     | false=>exact told_no rfl ⟨_,rfl⟩
     | true=>
      refine⟨.rfl',nO (c3:=dC pb cb mb (tnG (vl es s t) d)) .rfl' ?_ (fun x h0 h6=>by simp only[ad,h0,h6,if_false])⟩
      show some _=some _
      unfold tnG
      rw[hk3'];rfl
 . have hbad:((((((RD s t).adv 1).adv 1).adv 3).adv 4).err !=0)=true:=by
     by_cases c1:s+1<=t
     . have a1:(RD s t).adv 1=RD (s+1) t:=ez (s:=s) 0 1 (by omega)
       rw[a1]
       by_cases c2:s+2<=t
       . rw[ez (s:=s) (t:=t) 1 1 (by omega)]
         by_cases c3:s+5<=t
         . rw[ez (s:=s) (t:=t) (1+1) 3 (by omega)];exact fS (by omega)
         . exact dp (fS (by omega)) _
       . exact dp (dp (fS (by omega)) _) _
     . exact dp (dp (dp (fS c1) _) _) _
   have hok:kx (vl es s t)=false:=by
    unfold kx
    rw[hl,dF0 (show ¬ t - s=13 by omega),dF0 (show ¬ t - s=9 by omega)]
    cases dg (vl es s t) 0==0 <;> cases dg (vl es s t) 1==3 <;> cases dg (vl es s t) 1==6 <;> rfl
   rw[hok]
   rw[tf hbad,eU ((((hr.adv 1).adv 1).adv 3).adv 4) h2,tf (dp hbad 4)]at ht
   cases hx:(IntKind.i64.wrap (((RD s t).adv 1).num es 1)==3)with
   | true=>
    rw[hx]at ht
    exact⟨_,_,congrArg ae ht,.inr (told_no rfl ⟨_,rfl⟩)⟩
   | false=>
    rw[hx]at ht
    exact⟨_,_,congrArg ae ht,.inr (told_no rfl ⟨_,rfl⟩)⟩)
noncomputable abbrev κo:=tbl [(126,rZ),(136,xq)]
theorem oOk:KOk Tryz.prog κo:=ac zd (ac Ke ok0)
def roH(r:Rd)(n:Nat)(es:List SV)(pb cb mb:Bool)(d:Ds):HpL:=[(0,rC r n),(1,.seq 5 es),(2,dC pb cb mb d)]
def roA(off fl cd:Int)(o:Nat):List SV:=[.agg [.ptr 0 0,.int .i64 off,.int .u8 fl,.int .u8 cd],.ptr 2 o]
def lfI(r:Rd):Int:=IntKind.i64.wrap (r.end_ - r.at_)
def ii(r:Rd)(es:List SV):List SV:=r.sub es (lfI r).toNat
noncomputable def dO(o:Nat)(p:List SV)(d:Ds):Ds:=bif Nat.beq o 15 then {d with rch:=rdL p}else {d with unr:=rdL p}
noncomputable def roT(r:Rd)(n:Nat)(es:List SV)(pb cb mb:Bool)(d:Ds)(o:Nat):CTree:=
 bif dec (OkRd r es/\n=es.length/\0<=lfI r/\lfI r<=1000000)then bif dec (byl (ii r es)/\0+(ii r es).length<=(ii r es).length/\(ii r es).length<=1000000)then
  .ret (.bool (bif rdE (sl (ii r es) 0 (ii r es).length)==0 then(r.adv (lfI r).toNat).err==0 else false)) [(2,some (dC pb cb mb (dO o (sl (ii r es) 0 (ii r es).length) d))),(0,some (rC (r.adv (lfI r).toNat) n))]
 else .fail else .fail
theorem KU(r:Rd)(n:Nat)(es:List SV)(off fl cd:Int)(pb cb mb:Bool)(d:Ds):opn κo Tryz.f124 (roA off fl cd 15) (roH r n es pb cb mb d)=roT r n es pb cb mb d 15:=by
 cases pb <;> cases cb <;> cases mb <;> kernel_rfl
theorem KV(r:Rd)(n:Nat)(es:List SV)(off fl cd:Int)(pb cb mb:Bool)(d:Ds):opn κo Tryz.f124 (roA off fl cd 16) (roH r n es pb cb mb d)=roT r n es pb cb mb d 16:=by
 cases pb <;> cases cb <;> cases mb <;> kernel_rfl
noncomputable def KW:ag:=fun args H=>match args,H with
 | [.agg [.ptr 0 0,.int .i64 off,.int .u8 fl,.int .u8 cd],.ptr 2 o],[(0,.cells 157 [.int .i64 a,.int .i64 e,.qs 1 1 0 n,.int .i64 er,.int .i64 f,.bool true]),(1,.seq 5 es),(2,.cells 177 cs)]=>
  match dP cs with
  | some (pb,cb,mb,d)=>.ite (dec (H=roH ⟨a,e,er,f⟩ n es pb cb mb d/\OkRd ⟨a,e,er,f⟩ es/\n=es.length/\byl es/\(o=15\/o=16)))
    (.ret (.bool (bif rdE (ii ⟨a,e,er,f⟩ es)==0 then((⟨a,e,er,f⟩:Rd).adv (lfI ⟨a,e,er,f⟩).toNat).err==0 else false)) [(2,some (dC pb cb mb (dO o (ii ⟨a,e,er,f⟩ es) d))),(0,some (rC ((⟨a,e,er,f⟩:Rd).adv (lfI ⟨a,e,er,f⟩).toNat) n))]) .fail
  | none=>.fail
 | _,_=>.fail
theorem KX(l:List SV):sl l 0 l.length=l:=by unfold sl;simp
theorem Oq  :Known Tryz.prog 124 KW  :=(aj        oOk Tryz.func124 rfl).weak (by
 intro args H v ups h
 unfold KW at h
 split at h
 . rename_i off fl cd o a e n er f es cs
   split at h
   . rename_i pb cb mb d hd
     rw[aa]at h
     cases hc:dec _ with
     | false=>rw[hc]at h;cases h
     | true=>
      rw[hc,cT]at h
      obtain⟨hH,h1,h2,h3,h4⟩:=dec_iff.1 hc
      rw[hH]
      generalize(⟨a,e,er,f⟩:Rd)=r at *
      have hlf:0<=lfI r/\lfI r<=1000000:=by
       obtain⟨q1,q2,q3,q4,q5⟩:=h1
       unfold lfI
       rw[am (by omega) (by omega)];omega
      have hrl:byl (ii r es):=lO h3 r _
      have hrn:(ii r es).length<=1000000:=Nat.le_trans (zb r es _) (by omega)
      have ht:roT r n es pb cb mb d o= .ret (.bool (bif rdE (ii r es)==0 then(r.adv (lfI r).toNat).err==0 else false)) [(2,some (dC pb cb mb (dO o (ii r es) d))),(0,some (rC (r.adv (lfI r).toNat) n))]:=by
       unfold roT
       rw[dec_iff.2 ⟨h1,h2,hlf.1,hlf.2⟩,dec_iff.2 ⟨hrl,by omega,hrn⟩,KX];rfl
      rcases h4 with rfl | rfl
      . exact(congrArg ae ((KU r n es off fl cd pb cb mb d).trans ht)).trans h
      . exact(congrArg ae ((KV r n es off fl cd pb cb mb d).trans ht)).trans h
   . cases h
 . cases h)
noncomputable abbrev κq:=tbl [(49,fx 1),(123,fx 3),(70,fx 4),(124,KW)]
theorem qOk:KOk Tryz.prog κq:=ac AF (ac HR (ac rY (ac Oq ok0)))
noncomputable def roC(r:Rd)(es:List SV):Bool:=bif rdE (ii r es)==0 then(r.adv (lfI r).toNat).err==0 else false
noncomputable def roK(r:Rd)(n:Nat)(es:List SV)(pb cb mb:Bool)(d:Ds)(o:Nat)(K:Bool->Ds->Rd->CTree):CTree:=
 bif dec (roH r n es pb cb mb d=roH r n es pb cb mb d/\OkRd r es/\n=es.length/\byl es/\(o=15\/o=16))then K (roC r es) (dO o (ii r es) d) (r.adv (lfI r).toNat)else .fail
theorem Mj(r:Rd)(n:Nat)(es:List SV)(off fl cd:Int)(pb cb mb:Bool)(d:Ds):opn κq Tryz.f122 (flA off fl cd) (flH r n es pb cb mb d)=
 ruC r n es (bif r.num es 3==6470 then roK (r.adv 3) n es pb cb mb d 16 (fun b d' r'=>.ret (.bool b) [(3,some (dC pb cb mb d')),(0,some (rC r' n))])else .ret (.bool false) [(0,some (rC (r.adv 3) n))]):=by
 cases pb <;> cases cb <;> cases mb <;> kernel_rfl
def dNx(d:Ds)(x:Int):Ds:={d with nx:=w3 x}
theorem Ml(r:Rd)(n:Nat)(es:List SV)(off fl cd:Int)(pb cb mb:Bool)(d:Ds):opn κq Tryz.f120 (flA off fl cd) (flH r n es pb cb mb d)=
 ruC r n es (bif r.num es 3 !=6470 then .ret (.bool false) [(0,some (rC (r.adv 3) n))]else ruC (r.adv 3) n es (bif(r.adv 3).num es 1 !=4 then .ret (.bool false) [(0,some (rC ((r.adv 3).adv 1) n))]else
  ruC ((r.adv 3).adv 1) n es (ruC (((r.adv 3).adv 1).adv 4) n es (bif(((r.adv 3).adv 1).adv 4).num es 1==0 then
   roK ((((r.adv 3).adv 1).adv 4).adv 1) n es pb cb mb (dNx d (((r.adv 3).adv 1).num es 4)) 15 (fun b d' r'=>bif b then .ret (.bool (decide ((d'.rch.length:Int) > 0))) [(3,some (dC pb cb mb d')),(0,some (rC r' n))]else .ret (.bool false) [(3,some (dC pb cb mb d')),(0,some (rC r' n))])
   else .ret (.bool false) [(3,some (dC pb cb mb (dNx d (((r.adv 3).adv 1).num es 4)))),(0,some (rC ((((r.adv 3).adv 1).adv 4).adv 1) n))])))):=by
 cases pb <;> cases cb <;> cases mb <;> kernel_rfl
theorem iR{s t k:Nat}(h:s+k<=t)(ht:t<=1000000):lfI (RD (s+k) t)=((t - s - k:Nat):Int):=xn h ht
theorem Bx{es:List SV}{s t k:Nat}(h:s+k<=t)(ht:t<=1000000):ii (RD (s+k) t) es=(vl es s t).drop k:=by
 unfold ii vl
 rw[iR h ht,show((t - s - k:Nat):Int).toNat=t - s - k from rfl,iP (by omega),oH]
 rfl
theorem Hv{es:List SV}{s t k:Nat}(h:s+k<=t)(ht:t<=1000000):roC (RD (s+k) t) es=(rdE ((vl es s t).drop k)==0):=by
 unfold roC
 rw[Bx h ht,iR h ht,show((t - s - k:Nat):Int).toNat=t - s - k from rfl,aO (by omega)]
 cases rdE ((vl es s t).drop k)==0 <;> rfl
theorem By{r:Rd}{n:Nat}{es:List SV}{pb cb mb:Bool}{d:Ds}{o:Nat}(h1:OkRd r es)(h2:n=es.length)(h3:byl es)(h4:o=15\/o=16)(K:Bool->Ds->Rd->CTree):roK r n es pb cb mb d o K=K (roC r es) (dO o (ii r es) d) (r.adv (lfI r).toNat):=by
 unfold roK;rw[dec_iff.2 ⟨rfl,h1,h2,h3,h4⟩];rfl
theorem fG{r r':Rd}{n:Nat}{es:List SV}{pb cb mb:Bool}{d d':Ds}{ups:List (Nat × Option Chunk)}(hu:ups=[(0,some (rC r' n))]\/ups=[(3,some (dC pb cb mb d')),(0,some (rC r' n))]):
  Am.Told Tryz.prog (flH r n es pb cb mb d) (.bool false) ups (.bool false) [(3,some jk),(0,none)]:=by
 rcases hu with rfl | rfl
 . exact⟨.rfl',nO (c3:=dC pb cb mb d) pT rfl (fun x h0 h6=>by simp only[ad,h0,if_false])⟩
 . exact⟨.rfl',nO (c3:=dC pb cb mb d') pT rfl (fun x h0 h6=>by simp only[ad,h0,h6,if_false])⟩
theorem Bz{r r':Rd}{n:Nat}{es:List SV}{pb cb mb:Bool}{d d':Ds}:Am.Told Tryz.prog (flH r n es pb cb mb d) (.bool true) [(3,some (dC pb cb mb d')),(0,some (rC r' n))] (.bool true) [(3,some (dC pb cb mb d')),(0,none)]:=
 ⟨.rfl',nO (c3:=dC pb cb mb d') .rfl' rfl (fun x h0 h6=>by simp only[ad,h0,h6,if_false])⟩
noncomputable def sH(v:List SV):Bool:=bif decide (3<=v.length)then(bif tkN v 0 3==6470 then rdE (v.drop 3)==0 else false)else false
noncomputable def unG(v:List SV)(d:Ds):Ds:={d with unr:=rdL (v.drop 3)}
theorem LQ:Known Tryz.prog 122 (lM (fun _ _ _=>true) sH unG id id id):=rI (aj qOk Tryz.func122 rfl) (by
 intro s t n es off fl cd pb cb mb d ho _
 have ht:=Mj (RD s t) n es off fl cd pb cb mb d
 have hl:=ho.len
 have hr:=ho.rd
 obtain⟨h1,h2,h3,h4,h5⟩:=ho
 rw[eU hr h2]at ht
 by_cases h3':s+3<=t
 . have a1:(RD s t).adv 3=RD (s+3) t:=ez (s:=s) 0 3 (by omega)
   have m0:(RD s t).num es 3=tkN (vl es s t) 0 3:=iV (n:=n) (s:=s) 0 3 (by omega)
   rw[m0,a1]at ht
   have hok:sH (vl es s t)=(bif tkN (vl es s t) 0 3==6470 then rdE ((vl es s t).drop 3)==0 else false):=by
    unfold sH;rw[hl,dT0 (show 3<=t - s by omega)];rfl
   rw[hok]
   cases hf:tkN (vl es s t) 0 3==6470 with
   | false=>
    rw[hf]at ht
    exact⟨_,_,congrArg ae ht,.inr (fG (d':=d) (.inl rfl))⟩
   | true=>
    rw[hf,cT,By (by rw[<- a1];exact hr.adv 3) h2 h1 (.inr rfl),Hv h3' (by omega),Bx h3' (by omega)]at ht
    rw[cT]
    refine⟨_,_,congrArg ae ht,.inr ?_⟩
    cases rdE ((vl es s t).drop 3)==0 with
    | false=>exact fG (.inr rfl)
    | true=>exact Bz
 . have hok:sH (vl es s t)=false:=by unfold sH;rw[hl,dF0 (show ¬ 3<=t - s by omega)];rfl
   have hf:(RD s t).num es 3=0:=by
    have:(RD s t).few 3=true:=by unfold Rd.few RD;exact dT0 (by simp only[];omega)
    unfold Rd.num;rw[this];rfl
   rw[hf]at ht
   rw[hok]
   exact⟨_,_,congrArg ae ht,.inr (fG (d':=d) (.inl rfl))⟩)
end Go.Proofs.YtnlmhpancboddaaGreat
