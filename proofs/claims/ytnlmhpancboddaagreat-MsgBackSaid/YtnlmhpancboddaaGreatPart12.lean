/- Attributes are read: what reading comes to; the loop's summary. -/
import Derived.Test.YtnlmhpancboddaaGreatPart11
import Derived.Test.YtnlmhpancboddaaGreatMachine6
set_option linter.unusedVariables false
set_option linter.unusedSimpArgs false
namespace Go.Proofs.YtnlmhpancboddaaGreat
open Go.Am
set_option maxRecDepth 100000
structure Dz where
 (pb cb mb:Bool) (d:Ds)
def dN(pb cb mb:Bool)(d:Ds):Ds:=⟨d.ori,d.nx,d.med,d.prf,d.orr,d.tk,d.tl,d.tr,d.tg,d.hm,d.hp,d.ho,bif pb then []else d.path,bif cb then []else d.cl,bif mb then []else d.cm,d.rch,d.unr⟩
def nZ(z:Dz):Dz:=⟨z.pb,z.cb,z.mb,dN z.pb z.cb z.mb z.d⟩
def Nz(a b:Int):Int:=IntKind.u8.wrap ((BitVec.ofInt 8 a&&& ~~~ BitVec.ofInt 8 b).toNat:Int)
def igC(g:Int):Int:=bif g==16 then 48 else bif g==22 then 48 else 16
def flC(g:Int):Int:=bif g==1 then 64 else bif g==2 then 64 else bif g==4 then 128 else bif g==5 then 64 else bif g==9 then 128 else bif g==10 then 128 else bif g==14 then 128 else bif g==15 then 128 else 192
def oe(g fl:Int):Bool:=Nz fl (igC g)==flC g
noncomputable def okC(g:Int)(v:List SV):Bool:=bif g==1 then pU 112 v else bif g==2 then kw v else bif g==4 then pU 115 v else bif g==5 then pU 116 v else bif g==9 then pU 117 v else bif g==10 then AE v else bif g==14 then tN v else bif g==15 then sH v else bif g==16 then Au v else kx v
noncomputable def gD(g:Int)(v:List SV)(d:Ds):Ds:=bif g==1 then nmF 112 d (tkN v 0 1)else bif g==2 then ptG v d else bif g==4 then nmF 115 d (tkN v 0 4)else bif g==5 then nmF 116 d (tkN v 0 4)else bif g==9 then nmF 117 d (tkN v 0 4)else bif g==10 then klG v d else bif g==14 then rcG v d else bif g==15 then unG v d else bif g==16 then kmG v d else tnG v d
noncomputable def gC(g:Int)(v:List SV)(z:Dz):Dz:=⟨bif g==2 then false else z.pb,bif g==10 then false else z.cb,bif g==16 then false else z.mb,gD g v z.d⟩
theorem wK{es:List SV}{a:Nat}:3<=hdN es a:=by unfold hdN;split <;> omega
noncomputable def fF  {σ:Type}(lk:σ->Int->Bool)(st:σ->Int->σ)(es:List SV)(n a:Nat)(at_:Int)(s:σ)(z:Dz):Int × Int × σ × Dz:=by
 classical
 exact if a < n then
  if okN es a n then
   if knC (cz es a)=true then
    if oe (cz es a) (dg es a)=true then
     if lk s (cz es a)=true then(11,a,s,z)
     else if okC (cz es a) (vl es (vS es a) (vE es a))=true then fF lk st es n (vE es a) a (st s (cz es a)) (gC (cz es a) (vl es (vS es a) (vE es a)) z)
     else(3,a,s,z)
    else(17,a,s,z)
   else if(fw .u8 (dg es a) 128==0)=true then(17,a,s,z)else fF lk st es n (vE es a) a s z
  else(4,a,s,z)
 else(0,at_,s,z)
termination_by n - a
decreasing_by all_goals (have:=wK (es:=es) (a:=a);unfold vE;omega)
def stK(kvs:List (Int × Bool))(g:Int):List (Int × Bool):=iJ g true kvs
def NA:Chunk:=.cells 146 [.int .u8 1,.int .u8 64,.fn (.func 84) [] [],.int .u8 2,.int .u8 64,.fn (.func 85) [] [],.int .u8 4,.int .u8 128,.fn (.func 86) [] [],.int .u8 5,.int .u8 64,.fn (.func 87) [] [],.int .u8 9,.int .u8 128,.fn (.func 88) [] [],
 .int .u8 10,.int .u8 128,.fn (.func 89) [] [],.int .u8 14,.int .u8 128,.fn (.func 90) [] [],.int .u8 15,.int .u8 128,.fn (.func 91) [] [],.int .u8 16,.int .u8 192,.fn (.func 92) [] [],.int .u8 22,.int .u8 192,.fn (.func 93) [] []]
def NB:Chunk:=.mpc [.int .u8 1,.int .u8 2,.int .u8 4,.int .u8 5,.int .u8 9,.int .u8 10,.int .u8 14,.int .u8 15,.int .u8 16,.int .u8 22]
 [.fn (.func 135) [] [.ptr 3 0,.ptr 4 0,.ptr 5 0],.fn (.func 113) [] [.ptr 6 0],.fn (.func 135) [] [.ptr 8 0,.ptr 9 0,.ptr 10 0],.fn (.func 135) [] [.ptr 11 0,.ptr 12 0,.ptr 13 0],.fn (.func 135) [] [.ptr 14 0,.ptr 15 0,.ptr 16 0],
  .fn (.func 118) [] [.ptr 6 0],.fn (.func 120) [] [.ptr 6 0],.fn (.func 122) [] [.ptr 6 0],.fn (.func 125) [] [.ptr 6 0],.fn (.func 127) [] [.ptr 6 0]]
def zC(z:Dz):Chunk:=dC z.pb z.cb z.mb z.d
def mH(er at_:Int)(c:Chunk)(kvs:List (Int × Bool))(r:Rd)(n:Nat)(es:List SV):HpL:=
 [(0,.cells 28 [.int .i64 er,.int .i64 at_]),(1,NA),(2,NB),(3,.cells 3 [.int .i64 1]),(4,.cells 63 [.int .u64 2]),(5,.cells 205 [.fn (.func 112) [] [.ptr 6 0]]),(6,.cells 203 [.ptr 7 0]),(7,c),
  (8,.cells 3 [.int .i64 4]),(9,.cells 63 [.int .u64 4294967295]),(10,.cells 205 [.fn (.func 115) [] [.ptr 6 0]]),(11,.cells 3 [.int .i64 4]),(12,.cells 63 [.int .u64 4294967295]),(13,.cells 205 [.fn (.func 116) [] [.ptr 6 0]]),
  (14,.cells 3 [.int .i64 4]),(15,.cells 63 [.int .u64 4294967295]),(16,.cells 205 [.fn (.func 117) [] [.ptr 6 0]]),(17,.mpb .u8 kvs),(18,rCk 19 r n),(19,.seq 5 es)]
def mOk(a n:Nat)(es:List SV)(kvs:List (Int × Bool))(z:Dz):Prop:=byl es/\n=es.length/\n<=1000000/\a<=n/\nZ z=z/\(bj kvs 2=false->z.pb=true)/\(bj kvs 10=false->z.cb=true)/\(bj kvs 16=false->z.mb=true)
noncomputable abbrev gq:=fF bj stK
noncomputable def o9(o:Int × Int × List (Int × Bool) × Dz)(n:Nat):CTree:=
 .ite (o.1==0) (.ret (.tup [.int .i64 2,.ptr 0 0,.mp 17]) [(0,some (.cells 28 [.int .i64 0,.int .i64 o.2.1])),(7,some (dC false false false o.2.2.2.d)),(17,some (.mpb .u8 o.2.2.1)),(18,none)])
  (.ret (.tup [.int .i64 2,.ptr 0 0,.mp 17]) [(0,some (.cells 28 [.int .i64 o.1,.int .i64 o.2.1])),(7,none),(17,none),(18,none)])
noncomputable def m_s:ag:=fun args H=>match args,H with
 | [.ptr 0 0,.ptr 1 0,.mp 2,.mp 17,.ptr 18 0],[(0,.cells 28 [.int .i64 er,.int .i64 at_]),_,_,_,_,_,_,(7,.cells 177 cs),_,_,_,_,_,_,_,_,_,(17,.mpb _ kvs),(18,.cells 157 [.int .i64 a,.int .i64 e,.qs 19 1 0 n,.int .i64 re,.int .i64 rf,_]),(19,.seq 5 es)]=>
  match dP cs with
  | some (pb,cb,mb,d)=>.ite (er==0) (.ite (dec (H=mH 0 at_ (zC ⟨pb,cb,mb,d⟩) kvs (RD a.toNat n) n es/\mOk a.toNat n es kvs ⟨pb,cb,mb,d⟩)) (o9 (gq es n a.toNat at_ kvs ⟨pb,cb,mb,d⟩) n) .fail)
    (.ite (dec (H=mH er at_ (zC ⟨pb,cb,mb,d⟩) kvs ⟨a,e,re,rf⟩ n es)) (.ret (.tup [.int .i64 2,.ptr 0 0,.mp 17]) [(7,none),(17,none),(18,none)]) .fail)
  | none=>.ite (er==0) .fail (.ite (dec (H=mH er at_ jk kvs ⟨a,e,re,rf⟩ n es)) (.ret (.tup [.int .i64 2,.ptr 0 0,.mp 17]) [(7,none),(17,none),(18,none)]) .fail)
 | _,_=>.fail
def mM:List SV->HpL->Nat
 | _,[(0,.cells 28 [.int .i64 er,_]),_,_,_,_,_,_,_,_,_,_,_,_,_,_,_,_,_,(18,.cells 157 [.int .i64 a,_,.qs _ _ _ n,_,_,_]),_]=>bif er==0 then n - a.toNat+1 else 0
 | _,_=>0
noncomputable def Ho:Code:=Tryz.f76.body.getD .skip
noncomputable def c9:Code:=(bx 4 Ho).getD .skip
noncomputable def e9:LEnt:={ins:=[5,7,8,9,10],outs:=[5,9],keep:=[0,2,6],size:=119,code:=c9,s:=m_s}
noncomputable abbrev κma(s:ag):=bt Tryz.prog (tbl [(98,s),(135,Kc),(113,lM (fun pb _ _=>pb) kw ptG (fun _=>false) id id),(118,lM (fun pb cb mb=>cb) AE klG id (fun _=>false) id),(120,lM (fun _ _ _=>true) tN rcG id id id),(122,lM (fun _ _ _=>true) sH unG id id id),(125,lM (fun pb cb mb=>mb) Au kmG id id (fun _=>false)),(127,lM (fun _ _ _=>true) kx tnG id id id)]) 300 5
theorem Bo{s:ag}(h:Known Tryz.prog 98 s):KOk Tryz.prog (κma s):=aG ap ax (ac h (ac Ob (ac JO (ac MM (ac Nk (ac LQ (ac My (ac N7 ok0)))))))) 300 5
noncomputable abbrev ιma:Nat->Bool:=fun g=>inl (tbl [(98,fN),(135,fN),(113,fN),(118,fN),(120,fN),(122,fN),(125,fN),(127,fN)]) g&&bJ Tryz.prog g
/- The rest of the loop behind a round. -/
noncomputable def mGo(N:Nat)(at_:Int)(z:Dz)(kvs:List (Int × Bool))(r:Rd)(n:Nat)(es:List SV)(K:Int × Int × List (Int × Bool) × Dz->CTree):CTree:=
 bif Nat.blt (n - r.at_.toNat+1) N then bif dec (mH 0 at_ (zC z) kvs r n es=mH 0 at_ (zC z) kvs (RD r.at_.toNat n) n es/\mOk r.at_.toNat n es kvs (nZ z))then K (gq es n r.at_.toNat at_ kvs (nZ z))else .fail else .fail
noncomputable def wL(N:Nat)(er at_:Int)(c:Chunk)(kvs:List (Int × Bool))(r:Rd)(n:Nat)(es:List SV)(K:CTree):CTree:=
 bif Nat.blt 0 N then bif dec (mH er at_ c kvs r n es=mH er at_ c kvs r n es)then K else .fail else .fail
abbrev hZ:List SV:=[.ptr 0 0,.ptr 1 0,.mp 2,.mp 17,.ptr 18 0]
noncomputable abbrev fO(N:Nat)(s:ag):ag:=ay Tryz.prog (κma s) ιma (aL []) true 300 e9 {e9 with s:=az mM m_s N} c9
noncomputable def vA:ag:=fun _ _=>.fail
theorem Kj:Known Tryz.prog 98 vA:=nu_k.weak (fun _ _ _ _ h=>by cases h)
theorem MK(N:Nat)(er at_:Int)(pb cb mb:Bool)(d:Ds)(kvs:List (Int × Bool))(r:Rd)(n:Nat)(es:List SV):fO N vA hZ (mH er at_ (dC pb cb mb d) kvs r n es)=
 bif(bif er==0 then decide (lfI r > 0)else false)then .fail else .ret (.tup [.int .i64 2,.ptr 0 0,.mp 17]) []:=by cases pb <;> cases cb <;> cases mb <;> kernel_rfl
theorem Oc(N:Nat)(er at_:Int)(kvs:List (Int × Bool))(r:Rd)(n:Nat)(es:List SV):fO N vA hZ (mH er at_ jk kvs r n es)=
 bif(bif er==0 then decide (lfI r > 0)else false)then .fail else .ret (.tup [.int .i64 2,.ptr 0 0,.mp 17]) []:=by kernel_rfl
noncomputable def mK(o:Int × Int × List (Int × Bool) × Dz):CTree:=
 bif o.1==0 then .ret (.tup [.int .i64 2,.ptr 0 0,.mp 17]) [(17,some (.mpb .u8 o.2.2.1)),(7,some (dC false false false o.2.2.2.d)),(0,some (.cells 28 [.int .i64 0,.int .i64 o.2.1])),(18,none)]
 else .ret (.tup [.int .i64 2,.ptr 0 0,.mp 17]) [(17,none),(7,none),(0,some (.cells 28 [.int .i64 o.1,.int .i64 o.2.1])),(18,none)]
def mX(er at_:Int):CTree:=.ret (.tup [.int .i64 2,.ptr 0 0,.mp 17]) [(7,none),(17,none),(0,some (.cells 28 [.int .i64 er,.int .i64 at_])),(18,none)]
def mX'(er at_:Int):CTree:=.ret (.tup [.int .i64 2,.ptr 0 0,.mp 17]) [(17,none),(7,none),(0,some (.cells 28 [.int .i64 er,.int .i64 at_])),(18,none)]
noncomputable def mRd(N:Nat)(g:Int)(pb cb mb:Bool)(d:Ds)(kvs:List (Int × Bool))(r:Rd)(n:Nat)(es:List SV)(C:Prop):CTree:=
 bif decide (lfI r > 0)then bif dec (r=RD r.at_.toNat n/\cdN es r.at_.toNat n/\okN es r.at_.toNat n/\cz es r.at_.toNat=g)then
  bif !(oe g (dg es r.at_.toNat))then wL N 17 r.at_.toNat (dC pb cb mb d) (stK kvs g) (RD (vE es r.at_.toNat) n) n es (mX 17 r.at_.toNat)else
  bif bj kvs g then wL N 11 r.at_.toNat (dC pb cb mb d) (stK kvs g) (RD (vE es r.at_.toNat) n) n es (mX 11 r.at_.toNat)else
  bif dec C then
   bif okC g (vl es (vS es r.at_.toNat) (vE es r.at_.toNat))then mGo N r.at_.toNat (gC g (vl es (vS es r.at_.toNat) (vE es r.at_.toNat)) (nZ ⟨pb,cb,mb,d⟩)) (stK kvs g) (RD (vE es r.at_.toNat) n) n es mK
   else wL N 3 r.at_.toNat jk (stK kvs g) (RD (vE es r.at_.toNat) n) n es (mX' 3 r.at_.toNat)else .fail
 else .fail else .ret (.tup [.int .i64 2,.ptr 0 0,.mp 17]) []
theorem m_1(N:Nat)(at_:Int)(pb cb mb:Bool)(d:Ds)(kvs:List (Int × Bool))(r:Rd)(n:Nat)(es:List SV):fO N (kY 1) hZ (mH 0 at_ (dC pb cb mb d) kvs r n es)=
 mRd N 1 pb cb mb d kvs r n es (nmH (RD (vS es r.at_.toNat) (vE es r.at_.toNat)) n es (nmZ 112) (gB 112) 112 pb cb mb d=nmH (RD (vS es r.at_.toNat) (vE es r.at_.toNat)) n es (nmZ 112) (gB 112) 112 pb cb mb (dN pb cb mb d)/\okV es n (vS es r.at_.toNat) (vE es r.at_.toNat)/\(112=112\/112=115\/112=116\/112=117)):=by cases pb <;> cases cb <;> cases mb <;> kernel_rfl
theorem m_2(N:Nat)(at_:Int)(pb cb mb:Bool)(d:Ds)(kvs:List (Int × Bool))(r:Rd)(n:Nat)(es:List SV):fO N (kY 2) hZ (mH 0 at_ (dC pb cb mb d) kvs r n es)=
 mRd N 2 pb cb mb d kvs r n es (flH (RD (vS es r.at_.toNat) (vE es r.at_.toNat)) n es pb cb mb d=flH (RD (vS es r.at_.toNat) (vE es r.at_.toNat)) n es pb cb mb (dN pb cb mb d)/\okV es n (vS es r.at_.toNat) (vE es r.at_.toNat)/\pb=true):=by cases pb <;> cases cb <;> cases mb <;> kernel_rfl
theorem m_4(N:Nat)(at_:Int)(pb cb mb:Bool)(d:Ds)(kvs:List (Int × Bool))(r:Rd)(n:Nat)(es:List SV):fO N (kY 4) hZ (mH 0 at_ (dC pb cb mb d) kvs r n es)=
 mRd N 4 pb cb mb d kvs r n es (nmH (RD (vS es r.at_.toNat) (vE es r.at_.toNat)) n es (nmZ 115) (gB 115) 115 pb cb mb d=nmH (RD (vS es r.at_.toNat) (vE es r.at_.toNat)) n es (nmZ 115) (gB 115) 115 pb cb mb (dN pb cb mb d)/\okV es n (vS es r.at_.toNat) (vE es r.at_.toNat)/\(115=112\/115=115\/115=116\/115=117)):=by cases pb <;> cases cb <;> cases mb <;> kernel_rfl
theorem m_5(N:Nat)(at_:Int)(pb cb mb:Bool)(d:Ds)(kvs:List (Int × Bool))(r:Rd)(n:Nat)(es:List SV):fO N (kY 5) hZ (mH 0 at_ (dC pb cb mb d) kvs r n es)=
 mRd N 5 pb cb mb d kvs r n es (nmH (RD (vS es r.at_.toNat) (vE es r.at_.toNat)) n es (nmZ 116) (gB 116) 116 pb cb mb d=nmH (RD (vS es r.at_.toNat) (vE es r.at_.toNat)) n es (nmZ 116) (gB 116) 116 pb cb mb (dN pb cb mb d)/\okV es n (vS es r.at_.toNat) (vE es r.at_.toNat)/\(116=112\/116=115\/116=116\/116=117)):=by cases pb <;> cases cb <;> cases mb <;> kernel_rfl
theorem m_9(N:Nat)(at_:Int)(pb cb mb:Bool)(d:Ds)(kvs:List (Int × Bool))(r:Rd)(n:Nat)(es:List SV):fO N (kY 9) hZ (mH 0 at_ (dC pb cb mb d) kvs r n es)=
 mRd N 9 pb cb mb d kvs r n es (nmH (RD (vS es r.at_.toNat) (vE es r.at_.toNat)) n es (nmZ 117) (gB 117) 117 pb cb mb d=nmH (RD (vS es r.at_.toNat) (vE es r.at_.toNat)) n es (nmZ 117) (gB 117) 117 pb cb mb (dN pb cb mb d)/\okV es n (vS es r.at_.toNat) (vE es r.at_.toNat)/\(117=112\/117=115\/117=116\/117=117)):=by cases pb <;> cases cb <;> cases mb <;> kernel_rfl
theorem Nr(N:Nat)(at_:Int)(pb cb mb:Bool)(d:Ds)(kvs:List (Int × Bool))(r:Rd)(n:Nat)(es:List SV):fO N (kY 10) hZ (mH 0 at_ (dC pb cb mb d) kvs r n es)=
 mRd N 10 pb cb mb d kvs r n es (flH (RD (vS es r.at_.toNat) (vE es r.at_.toNat)) n es pb cb mb d=flH (RD (vS es r.at_.toNat) (vE es r.at_.toNat)) n es pb cb mb (dN pb cb mb d)/\okV es n (vS es r.at_.toNat) (vE es r.at_.toNat)/\cb=true):=by cases pb <;> cases cb <;> cases mb <;> kernel_rfl
theorem Ns(N:Nat)(at_:Int)(pb cb mb:Bool)(d:Ds)(kvs:List (Int × Bool))(r:Rd)(n:Nat)(es:List SV):fO N (kY 14) hZ (mH 0 at_ (dC pb cb mb d) kvs r n es)=
 mRd N 14 pb cb mb d kvs r n es (flH (RD (vS es r.at_.toNat) (vE es r.at_.toNat)) n es pb cb mb d=flH (RD (vS es r.at_.toNat) (vE es r.at_.toNat)) n es pb cb mb (dN pb cb mb d)/\okV es n (vS es r.at_.toNat) (vE es r.at_.toNat)/\true=true):=by cases pb <;> cases cb <;> cases mb <;> kernel_rfl
theorem Nt(N:Nat)(at_:Int)(pb cb mb:Bool)(d:Ds)(kvs:List (Int × Bool))(r:Rd)(n:Nat)(es:List SV):fO N (kY 15) hZ (mH 0 at_ (dC pb cb mb d) kvs r n es)=
 mRd N 15 pb cb mb d kvs r n es (flH (RD (vS es r.at_.toNat) (vE es r.at_.toNat)) n es pb cb mb d=flH (RD (vS es r.at_.toNat) (vE es r.at_.toNat)) n es pb cb mb (dN pb cb mb d)/\okV es n (vS es r.at_.toNat) (vE es r.at_.toNat)/\true=true):=by cases pb <;> cases cb <;> cases mb <;> kernel_rfl
theorem Nu(N:Nat)(at_:Int)(pb cb mb:Bool)(d:Ds)(kvs:List (Int × Bool))(r:Rd)(n:Nat)(es:List SV):fO N (kY 16) hZ (mH 0 at_ (dC pb cb mb d) kvs r n es)=
 mRd N 16 pb cb mb d kvs r n es (flH (RD (vS es r.at_.toNat) (vE es r.at_.toNat)) n es pb cb mb d=flH (RD (vS es r.at_.toNat) (vE es r.at_.toNat)) n es pb cb mb (dN pb cb mb d)/\okV es n (vS es r.at_.toNat) (vE es r.at_.toNat)/\mb=true):=by cases pb <;> cases cb <;> cases mb <;> kernel_rfl
theorem Nv(N:Nat)(at_:Int)(pb cb mb:Bool)(d:Ds)(kvs:List (Int × Bool))(r:Rd)(n:Nat)(es:List SV):fO N (kY 22) hZ (mH 0 at_ (dC pb cb mb d) kvs r n es)=
 mRd N 22 pb cb mb d kvs r n es (flH (RD (vS es r.at_.toNat) (vE es r.at_.toNat)) n es pb cb mb d=flH (RD (vS es r.at_.toNat) (vE es r.at_.toNat)) n es pb cb mb (dN pb cb mb d)/\okV es n (vS es r.at_.toNat) (vE es r.at_.toNat)/\true=true):=by cases pb <;> cases cb <;> cases mb <;> kernel_rfl
theorem LR(N:Nat)(at_:Int)(pb cb mb:Bool)(d:Ds)(kvs:List (Int × Bool))(r:Rd)(n:Nat)(es:List SV):fO N D1 hZ (mH 0 at_ (dC pb cb mb d) kvs r n es)=
 bif decide (lfI r > 0)then bif dec (r=RD r.at_.toNat n/\cdN es r.at_.toNat n/\¬ okN es r.at_.toNat n)then
  wL N 4 r.at_.toNat (dC pb cb mb d) kvs (wj es r.at_.toNat n).2.2 n es (.ret (.tup [.int .i64 2,.ptr 0 0,.mp 17]) [(17,none),(7,none),(0,some (.cells 28 [.int .i64 4,.int .i64 r.at_.toNat])),(18,none)])
 else .fail else .ret (.tup [.int .i64 2,.ptr 0 0,.mp 17]) []:=by cases pb <;> cases cb <;> cases mb <;> kernel_rfl
noncomputable abbrev κmu:=bt Tryz.prog (tbl [(98,KO),(99,vA)]) 300 5
theorem NQ:Known Tryz.prog 99 vA:=(aj (f:=99) ok0 Tryz.func99 rfl).weak (fun _ _ _ _ h=>by cases h)
theorem LT:KOk Tryz.prog κmu:=aG ap ax (ac nu_k (ac NQ ok0)) 300 5
noncomputable abbrev ιmu:Nat->Bool:=fun g=>inl (tbl [(98,fN),(99,fN)]) g&&bJ Tryz.prog g
noncomputable def I6(g:Int)(K:CTree):CTree:=bif 1 !=g then bif 2 !=g then bif 4 !=g then bif 5 !=g then bif 9 !=g then bif 10 !=g then bif 14 !=g then bif 15 !=g then bif 16 !=g then bif 22 !=g then K else .fail else .fail else .fail else .fail else .fail else .fail else .fail else .fail else .fail else .fail
theorem LU(N:Nat)(at_:Int)(pb cb mb:Bool)(d:Ds)(kvs:List (Int × Bool))(r:Rd)(n:Nat)(es:List SV):ay Tryz.prog κmu ιmu (aL []) true 300 e9 {e9 with s:=az mM m_s N} c9 hZ (mH 0 at_ (dC pb cb mb d) kvs r n es)=
 bif decide (lfI r > 0)then bif dec (r=RD r.at_.toNat n/\cdN es r.at_.toNat n/\okN es r.at_.toNat n/\knC (cz es r.at_.toNat)=false)then
  I6 (cz es r.at_.toNat) (bif fw .u8 (dg es r.at_.toNat) 128==0 then wL N 17 r.at_.toNat (dC pb cb mb d) kvs (RD (vE es r.at_.toNat) n) n es (.ret (.tup [.int .i64 2,.ptr 0 0,.mp 17]) [(17,none),(7,none),(0,some (.cells 28 [.int .i64 17,.int .i64 r.at_.toNat])),(18,none)])
   else mGo N r.at_.toNat ⟨pb,cb,mb,d⟩ kvs (RD (vE es r.at_.toNat) n) n es mK)
 else .fail else .ret (.tup [.int .i64 2,.ptr 0 0,.mp 17]) []:=by cases pb <;> cases cb <;> cases mb <;> kernel_rfl
end Go.Proofs.YtnlmhpancboddaaGreat
namespace Go.Proofs.YtnlmhpancboddaaGreat
open Go.Am
set_option maxRecDepth 100000
section
variable {σ:Type} {lk:σ->Int->Bool} {st:σ->Int->σ} {es:List SV} {n a:Nat} {at_:Int} {s:σ} {z:Dz}
theorem ur(h:¬ a < n):fF lk st es n a at_ s z=(0,at_,s,z):=by rw[fF,if_neg h]
theorem BF(h:a < n)(ho:¬ okN es a n):fF lk st es n a at_ s z=(4,(a:Int),s,z):=by rw[fF,if_pos h,if_neg ho]
theorem BG(h:a < n)(ho:okN es a n)(hk:knC (cz es a)=false)(hf:(fw .u8 (dg es a) 128==0)=true):fF lk st es n a at_ s z=(17,(a:Int),s,z):=by rw[fF,if_pos h,if_pos ho,if_neg (by rw[hk];decide),if_pos hf]
theorem BH(h:a < n)(ho:okN es a n)(hk:knC (cz es a)=false)(hf:(fw .u8 (dg es a) 128==0)=false):fF lk st es n a at_ s z=fF lk st es n (vE es a) a s z:=by rw[fF,if_pos h,if_pos ho,if_neg (by rw[hk];decide),if_neg (by rw[hf];decide)]
theorem BI(h:a < n)(ho:okN es a n)(hk:knC (cz es a)=true)(hf:oe (cz es a) (dg es a)=false):fF lk st es n a at_ s z=(17,(a:Int),s,z):=by rw[fF,if_pos h,if_pos ho,if_pos hk,if_neg (by rw[hf];decide)]
theorem BJ(h:a < n)(ho:okN es a n)(hk:knC (cz es a)=true)(hf:oe (cz es a) (dg es a)=true)(hl:lk s (cz es a)=true):fF lk st es n a at_ s z=(11,(a:Int),s,z):=by rw[fF,if_pos h,if_pos ho,if_pos hk,if_pos hf,if_pos hl]
theorem BK(h:a < n)(ho:okN es a n)(hk:knC (cz es a)=true)(hf:oe (cz es a) (dg es a)=true)(hl:lk s (cz es a)=false)(hv:okC (cz es a) (vl es (vS es a) (vE es a))=false):fF lk st es n a at_ s z=(3,(a:Int),s,z):=by
 rw[fF,if_pos h,if_pos ho,if_pos hk,if_pos hf,if_neg (by rw[hl];decide),if_neg (by rw[hv];decide)]
theorem yi(h:a < n)(ho:okN es a n)(hk:knC (cz es a)=true)(hf:oe (cz es a) (dg es a)=true)(hl:lk s (cz es a)=false)(hv:okC (cz es a) (vl es (vS es a) (vE es a))=true):
  fF lk st es n a at_ s z=fF lk st es n (vE es a) a (st s (cz es a)) (gC (cz es a) (vl es (vS es a) (vE es a)) z):=by
 rw[fF,if_pos h,if_pos ho,if_pos hk,if_pos hf,if_neg (by rw[hl];decide),if_pos hv]
end
theorem BL{g:Int}(h:knC g=true):g=1\/g=2\/g=4\/g=5\/g=9\/g=10\/g=14\/g=15\/g=16\/g=22:=by
 unfold knC at h
 simp only[cond_eq_ite,beq_iff_eq]at h
 repeat' split at h
 all_goals first | omega | (have:=h;simp at this;omega)
theorem I5{g:Int}(h:knC g=false):(1 !=g)=true/\(2 !=g)=true/\(4 !=g)=true/\(5 !=g)=true/\(9 !=g)=true/\(10 !=g)=true/\(14 !=g)=true/\(15 !=g)=true/\(16 !=g)=true/\(22 !=g)=true:=by
 have hn:∀ k:Int,(k=1\/k=2\/k=4\/k=5\/k=9\/k=10\/k=14\/k=15\/k=16\/k=22)->(k !=g)=true:=by
  intro k hk
  rw[bne_iff_ne]
  rintro rfl
  rcases hk with rfl | rfl | rfl | rfl | rfl | rfl | rfl | rfl | rfl | rfl <;> cases h
 exact⟨hn 1 (by omega),hn 2 (by omega),hn 4 (by omega),hn 5 (by omega),hn 9 (by omega),hn 10 (by omega),hn 14 (by omega),hn 15 (by omega),hn 16 (by omega),hn 22 (by omega)⟩
theorem Fe{g:Int}(h:knC g=false)(K:CTree):I6 g K=K:=by
 obtain⟨h1,h2,h3,h4,h5,h6,h7,h8,h9,h10⟩:=I5 h
 unfold I6
 rw[h1,h2,h3,h4,h5,h6,h7,h8,h9,h10];rfl
theorem nZ_iff{z:Dz}:nZ z=z↔(z.pb=true->z.d.path=[])/\(z.cb=true->z.d.cl=[])/\(z.mb=true->z.d.cm=[]):=by
 obtain⟨pb,cb,mb,⟨a1,a2,a3,a4,a5,a6,a7,a8,a9,b1,b2,b3,p,c,m,r,u⟩⟩:=z
 unfold nZ dN
 simp only[Dz.mk.injEq,Ds.mk.injEq,true_and,and_true]
 refine and_congr ?_ (and_congr ?_ ?_)
 . cases pb <;> simp[eq_comm]
 . cases cb <;> simp[eq_comm]
 . cases mb <;> simp[eq_comm]
theorem BM{g:Int}(h:knC g=true)(v:List SV)(d:Ds):(g≠2->(gD g v d).path=d.path)/\(g≠10->(gD g v d).cl=d.cl)/\(g≠16->(gD g v d).cm=d.cm):=by
 rcases BL h with rfl | rfl | rfl | rfl | rfl | rfl | rfl | rfl | rfl | rfl <;> refine⟨fun hh=> ?_,fun hh=> ?_,fun hh=> ?_⟩ <;> first | rfl | exact absurd rfl hh
theorem Hw   {g:Int}(h:knC g=true)(v:List SV){z:Dz}(hz:nZ z=z):nZ (gC g v z)=gC g v z:=by
 obtain⟨h1,h2,h3⟩:=nZ_iff.1 hz
 obtain⟨q1,q2,q3⟩:=BM h v z.d
 refine nZ_iff.2 ⟨fun hp=> ?_,fun hp=> ?_,fun hp=> ?_⟩
 . by_cases hg:g=2
   . subst hg;cases hp
   . have:(g==2)=false:=by simpa using hg
     simp only[gC,this,cF]at hp ⊢
     rw[q1 hg];exact h1 hp
 . by_cases hg:g=10
   . subst hg;cases hp
   . have:(g==10)=false:=by simpa using hg
     simp only[gC,this,cF]at hp ⊢
     rw[q2 hg];exact h2 hp
 . by_cases hg:g=16
   . subst hg;cases hp
   . have:(g==16)=false:=by simpa using hg
     simp only[gC,this,cF]at hp ⊢
     rw[q3 hg];exact h3 hp
theorem m7(g:Int)(b:Bool):∀ (kvs:List (Int × Bool)) (k:Int),bj (iJ g b kvs) k=bif k==g then b else bj kvs k
 | [],k=>by
  show(bif k==g then b else false)=_
  rfl
 | (x,y) :: l,k=>by
  have ih:=m7 g b l k
  unfold iJ
  cases hx:g==x with
  | true=>
   have:g=x:=by simpa using hx
   subst this
   show(bif k==g then b else bj l k)=bif k==g then b else bif k==g then y else bj l k
   cases k==g <;> rfl
  | false=>
   show(bif k==x then y else bj (iJ g b l) k)=bif k==g then b else bif k==x then y else bj l k
   rw[ih]
   cases hk:k==x with
   | false=>rfl
   | true=>
    have:k=x:=by simpa using hk
    subst this
    have:(k==g)=false:=beq_eq_false_iff_ne.2 (Ne.symm (beq_eq_false_iff_ne.1 hx))
    rw[this];rfl
theorem BN      {a b n:Nat}{es:List SV}{kvs:List (Int × Bool)}{z:Dz}{g:Int}(v:List SV)(hg:knC g=true)(h:mOk a n es kvs z)(hb:b<=n):mOk b n es (stK kvs g) (gC g v z):=by
 obtain⟨h1,h2,h3,h4,h5,h6,h7,h8⟩:=h
 have hs:∀ k:Int,bj (stK kvs g) k=bif k==g then true else bj kvs k:=m7 g true kvs
 refine⟨h1,h2,h3,hb,Hw hg v h5,fun hh=> ?_,fun hh=> ?_,fun hh=> ?_⟩
 . rw[hs]at hh
   by_cases hk:g=2
   . subst hk;cases hh
   . have e1:(g==2)=false:=by simpa using hk
     have e2:((2:Int)==g)=false:=beq_eq_false_iff_ne.2 (Ne.symm hk)
     rw[e2]at hh
     simp only[gC,e1,cF];exact h6 hh
 . rw[hs]at hh
   by_cases hk:g=10
   . subst hk;cases hh
   . have e1:(g==10)=false:=by simpa using hk
     have e2:((10:Int)==g)=false:=beq_eq_false_iff_ne.2 (Ne.symm hk)
     rw[e2]at hh
     simp only[gC,e1,cF];exact h7 hh
 . rw[hs]at hh
   by_cases hk:g=16
   . subst hk;cases hh
   . have e1:(g==16)=false:=by simpa using hk
     have e2:((16:Int)==g)=false:=beq_eq_false_iff_ne.2 (Ne.symm hk)
     rw[e2]at hh
     simp only[gC,e1,cF];exact h8 hh
end Go.Proofs.YtnlmhpancboddaaGreat
namespace Go.Proofs.YtnlmhpancboddaaGreat
open Go.Am
set_option maxRecDepth 100000
def Ft(H:HpL)(t:CTree)(v':SV)(ups':List (Nat × Option Chunk)):Prop:=
 (∃ ups,ae t=some (v',ups)/\∀ x,ad ups' H.get x=ad ups H.get x)\/(∃ v ups,ae t=some (v,ups)/\cg H v ups v' ups')\/(∃ v ups,ae t=some (v,ups)/\uA Tryz.prog H v ups v' ups')
theorem p4a{h:HpF}{a b c e:Option Chunk}:∀ x,ad   [(0,a),(7,b),(17,c),(18,e)] h x=ad   [(17,c),(7,b),(0,a),(18,e)] h x:=by
 intro x
 simp only[ad]
 by_cases h18:x=18
 . simp only[h18,if_true]
 . by_cases h17:x=17
   . subst h17;rfl
   . by_cases h7:x=7
     . subst h7;rfl
     . simp only[h18,h17,h7,if_false]
theorem p4b{h:HpF}{a b c e:Option Chunk}:∀ x,ad   [(0,a),(7,b),(17,c),(18,e)] h x=ad   [(7,b),(17,c),(0,a),(18,e)] h x:=by
 intro x
 simp only[ad]
 by_cases h18:x=18
 . simp only[h18,if_true]
 . by_cases h17:x=17
   . subst h17;rfl
   . by_cases h7:x=7
     . subst h7;rfl
     . simp only[h18,h17,h7,if_false]
theorem rK       {H:HpL}{v:SV}{c:Int}{vs:List SV}(hv:v= .tup (.int .i64 c :: vs)):uA    Tryz.prog H v [] v [(7,none),(17,none),(18,none)]:=by
 refine⟨c,vs,vs,hv,hv,.rfl',fun x c' hx=>⟨c',?_,.rfl'⟩⟩
 simp only[ad]at hx ⊢
 by_cases h18:x=18
 . rw[if_pos h18]at hx;cases hx
 . rw[if_neg h18]at hx
   by_cases h17:x=17
   . rw[if_pos h17]at hx;cases hx
   . rw[if_neg h17]at hx
     by_cases h7:x=7
     . rw[if_pos h7]at hx;cases hx
     . rw[if_neg h7]at hx;exact hx
theorem Ca{b:Bool}{e:Nat}{l:List SV}(h:b=true->l=[]):CoV Tryz.prog (nz b e l) (.psl e l):=by
 cases b with
 | true=>rw[h rfl];exact .nils
 | false=>exact .rfl'
theorem L8{z:Dz}(h:nZ z=z){x:Nat}:CoC Tryz.prog x (zC z) (dC false false false z.d):=by
 obtain⟨h1,h2,h3⟩:=nZ_iff.1 h
 exact .cells (.cons .rfl' (.cons (Ca h1) (.cons .rfl' (.cons .rfl' (.cons .rfl' (.cons .rfl' (.cons .rfl' (.cons .rfl' (.cons .rfl' (.cons (Ca h2) (.cons (Ca h3) .rfl')))))))))))
section
variable {N a n:Nat} {es:List SV} {at_:Int} {kvs:List (Int × Bool)} {pb cb mb:Bool} {d:Ds} {v':SV} {ups':List (Nat × Option Chunk)}
variable (hm:mOk a n es kvs ⟨pb,cb,mb,d⟩) (hN:n - a+1 < N+1) (h:ae (o9 (gq es n a at_ kvs ⟨pb,cb,mb,d⟩) n)=some (v',ups'))
theorem lN{er at':Int}{s:List (Int × Bool)}{z:Dz}(he:(er==0)=false)(h:ae (o9 (er,at',s,z) n)=some (v',ups')):v'= .tup [.int .i64 2,.ptr 0 0,.mp 17]/\ups'=[(0,some (.cells 28 [.int .i64 er,.int .i64 at'])),(7,none),(17,none),(18,none)]:=by
 unfold o9 at h
 rw[aa]at h
 simp only[he,cF]at h
 cases h;exact⟨rfl,rfl⟩
theorem pq{er at':Int}{c:Chunk}{r:Rd}{K:CTree}(hN:0 < N):wL N er at' c kvs r n es K=K:=by
 unfold wL
 rw[show Nat.blt 0 N=true by rw[bL];exact hN,dec_iff.2 rfl];rfl
theorem Hx{b:Nat}{at':Int}{z:Dz}{K:Int × Int × List (Int × Bool) × Dz->CTree}(hN:n - b+1 < N)(hz:nZ z=z)(hm:mOk b n es kvs z):mGo N at' z kvs (RD b n) n es K=K (gq es n b at' kvs z):=by
 unfold mGo
 rw[hz,show Nat.blt (n - (RD b n).at_.toNat+1) N=true by rw[bL];exact hN,dec_iff.2 ⟨rfl,hm⟩];rfl
theorem yu{o:Int × Int × List (Int × Bool) × Dz}{H:HpL}(h:ae (o9 o n)=some (v',ups')):Ft H (mK o) v' ups':=by
 refine .inl ?_
 unfold o9 at h
 rw[aa]at h
 unfold mK
 cases ho:o.1==0 with
 | true=>rw[ho]at h;cases h;exact⟨_,rfl,p4a⟩
 | false=>rw[ho]at h;cases h;exact⟨_,rfl,p4a⟩
include hm hN h
theorem Cb(hlt:a < n)(ho:¬ okN es a n):Ft (mH 0 at_ (dC pb cb mb d) kvs (RD a n) n es) (fO N D1 hZ (mH 0 at_ (dC pb cb mb d) kvs (RD a n) n es)) v' ups':=by
 obtain⟨h1,h2,h3,h4,h5,h6,h7,h8⟩:=hm
 have hl:lfI (RD a n)=((n - a:Nat):Int):=by have:=iR (s:=a) (t:=n) (k:=0) (by omega) (by omega);simpa using this
 have hc:cdN es a n:=⟨hlt,h2,h3,h1.ok⟩
 rw[gq,BF hlt ho]at h
 obtain⟨rfl,rfl⟩:=lN (by decide) h
 have hrd:=LR N at_ pb cb mb d kvs (RD a n) n es
 rw[hl,dT0 (by omega),cT,dec_iff.2 ⟨rfl,hc,ho⟩,cT,pq (by omega)]at hrd
 rw[hrd]
 exact .inl ⟨_,rfl,p4a⟩
theorem Cc(hlt:a < n)(ho:okN es a n)(hk:knC (cz es a)=false):Ft (mH 0 at_ (dC pb cb mb d) kvs (RD a n) n es) (ay Tryz.prog κmu ιmu (aL []) true 300 e9 {e9 with s:=az mM m_s N} c9 hZ (mH 0 at_ (dC pb cb mb d) kvs (RD a n) n es)) v' ups':=by
 have hm0:=hm
 obtain⟨h1,h2,h3,h4,h5,h6,h7,h8⟩:=hm
 have hl:lfI (RD a n)=((n - a:Nat):Int):=by have:=iR (s:=a) (t:=n) (k:=0) (by omega) (by omega);simpa using this
 have hc:cdN es a n:=⟨hlt,h2,h3,h1.ok⟩
 have hrd:=LU N at_ pb cb mb d kvs (RD a n) n es
 rw[hl,dT0 (by omega),cT,dec_iff.2 ⟨rfl,hc,ho,hk⟩,cT]at hrd
 simp only[show(RD a n).at_.toNat=a from rfl]at hrd
 rw[Fe hk]at hrd
 have hE:vE es a<=n:=ho.2
 have hE3:a+3<=vE es a:=by have:=wK (es:=es) (a:=a);unfold vE;omega
 cases hf:fw .u8 (dg es a) 128==0 with
 | true=>
  rw[gq,BG hlt ho hk hf]at h
  obtain⟨rfl,rfl⟩:=lN (by decide) h
  rw[hf,cT,pq (by omega)]at hrd
  rw[hrd]
  exact .inl ⟨_,rfl,p4a⟩
 | false=>
  rw[gq,BH hlt ho hk hf]at h
  rw[hf,cF,Hx (by omega) h5 ⟨h1,h2,h3,hE,h5,h6,h7,h8⟩]at hrd
  rw[hrd]
  exact yu h
theorem fh{g:Int}{C:Prop}(hlt:a < n)(ho:okN es a n)(hg:cz es a=g)(hk:knC g=true)(hrd:fO N (kY g) hZ (mH 0 at_ (dC pb cb mb d) kvs (RD a n) n es)=mRd N g pb cb mb d kvs (RD a n) n es C)
  (hC:okV es n (vS es a) (vE es a)->dN pb cb mb d=d->bj kvs g=false->C):Ft (mH 0 at_ (dC pb cb mb d) kvs (RD a n) n es) (fO N (kY g) hZ (mH 0 at_ (dC pb cb mb d) kvs (RD a n) n es)) v' ups':=by
 have hm0:=hm
 obtain⟨h1,h2,h3,h4,h5,h6,h7,h8⟩:=hm
 have hl:lfI (RD a n)=((n - a:Nat):Int):=by have:=iR (s:=a) (t:=n) (k:=0) (by omega) (by omega);simpa using this
 have hc:cdN es a n:=⟨hlt,h2,h3,h1.ok⟩
 have hE:vE es a<=n:=ho.2
 have hE3:a+3<=vE es a:=by have:=wK (es:=es) (a:=a);unfold vE;omega
 unfold mRd at hrd
 rw[hl,dT0 (by omega),cT,dec_iff.2 ⟨rfl,hc,ho,hg⟩,cT]at hrd
 simp only[show(RD a n).at_.toNat=a from rfl]at hrd
 subst hg
 rw[hrd]
 clear hrd
 cases hf:oe (cz es a) (dg es a)with
 | false=>
  rw[gq,BI hlt ho hk hf]at h
  obtain⟨rfl,rfl⟩:=lN (by decide) h
  rw[Bool.not_false,cT,pq (by omega)]
  exact .inl ⟨_,rfl,p4b⟩
 | true=>
  rw[Bool.not_true,cF]
  cases hlk:bj kvs (cz es a)with
  | true=>
   rw[gq,BJ hlt ho hk hf hlk]at h
   obtain⟨rfl,rfl⟩:=lN (by decide) h
   rw[cT,pq (by omega)]
   exact .inl ⟨_,rfl,p4b⟩
  | false=>
   have hdn:dN pb cb mb d=d:=by injection h5
   rw[cF,dec_iff.2 (hC ⟨h1,h2,h3,by unfold vS vE;omega,hE⟩ hdn hlk),cT]
   cases hv:okC (cz es a) (vl es (vS es a) (vE es a))with
   | false=>
    rw[gq,BK hlt ho hk hf hlk hv]at h
    obtain⟨rfl,rfl⟩:=lN (by decide) h
    rw[cF,pq (by omega)]
    exact .inl ⟨_,rfl,p4a⟩
   | true=>
    rw[gq,yi hlt ho hk hf hlk hv]at h
    rw[cT,h5,Hx (by omega) (Hw hk _ h5) (BN _ hk hm0 hE)]
    exact yu h
end
end Go.Proofs.YtnlmhpancboddaaGreat
