/- Messages are the same. -/
import Derived.Test.YtnlmhpancboddaaGreatPart20
import Derived.Test.YtnlmhpancboddaaGreatPart18
import Derived.Test.YtnlmhpancboddaaGreatPart17
import Derived.Test.YtnlmhpancboddaaGreatPart16
set_option linter.unusedVariables false
set_option linter.unusedSimpArgs false
namespace Go.Proofs.YtnlmhpancboddaaGreat
open Go.Am
set_option maxRecDepth 100000
def ci(x:SV)(j:Nat):Int:=asI (aM x j)
def cb(x:SV)(j:Nat):Bool:=asB (aM x j)
def cl(x:SV)(j:Nat):List SV:=asL (aM x j)
def ib(x:SV):Mg:=⟨ci x 0,⟨false,false,false,ci x 1,ci x 2,ci x 3,ci x 4,cb x 5⟩,ci x 6,ci x 7,⟨ci x 8,ci x 10,ci x 12,ci x 14,ci x 16,ci x 19,ci x 20,ci x 21,ci x 22,cb x 11,cb x 13,cb x 15,cl x 9,cl x 17,cl x 18,cl x 23,cl x 24⟩⟩
noncomputable abbrev κsm:=tbl [(36,su),(37,pn)]
theorem Oy:KOk Tryz.prog κsm:=af ER (af CN ok0)
noncomputable def smT(m:Mg):CTree:=
 bif m.k==m.k then bif(m.s.asn==m.s.asn&&(m.s.hold==m.s.hold&&(m.s.id==m.s.id&&(m.s.rst==m.s.rst&&m.s.rsd==m.s.rsd))))then bif m.code==m.code then bif m.sub==m.sub then
  bif dec (aD m.d=aD m.d/\aD m.d=aD {m.d with rch:=[],unr:=[]}/\m.d.path.length<=100000/\m.d.cl.length<=100000/\m.d.cm.length<=100000)then bif dec (m.d.rch=m.d.rch/\m.d.rch.length<=100000)then bif dec (m.d.unr=m.d.unr/\m.d.unr.length<=100000)then .ret (.bool true) []else .fail else .fail else .fail
 else zsF else zsF else zsF else zsF
theorem Mz(m:Mg):opn κsm Tryz.f20 [mgV m,mgV m] []=smT m:=by kernel_rfl
def mgP:SV->Option Mg
 | .agg [.int .i64 k,.int .u32 asn,.int .i64 hold,.int .u32 id,.int .i64 rst,.bool rsd,.int .i64 code,.int .i64 sub,.int .i64 ori,.psl 36 p,.int .u32 nx,.bool hm,.int .u32 med,.bool hp,.int .u32 prf,.bool ho,.int .u32 orr,.psl 37 c,.psl 136 m,.int .i64 tk,.int .u32 tl,.int .u32 tr,.int .u32 tg,.psl 88 r,.psl 88 u]=>
  some ⟨k,⟨false,false,false,asn,hold,id,rst,rsd⟩,code,sub,⟨ori,nx,med,prf,orr,tk,tl,tr,tg,hm,hp,ho,p,c,m,r,u⟩⟩
 | _=>none
def fY(d:Ds):Prop:=d.path.length<=100000/\d.cl.length<=100000/\d.cm.length<=100000/\d.rch.length<=100000/\d.unr.length<=100000
noncomputable def oz:ag:=fun args H=>match args,H with
 | [x,y],[]=>match mgP x with
  | some m=>.ite (dec (x=mgV m/\y=mgV m/\fY m.d)) (.ret (.bool true) []) .fail
  | none=>.fail
 | _,_=>.fail
theorem GI     :Known Tryz.prog 20 oz     :=(am        Oy   Tryz.func20 rfl).weak (by
 intro args H v ups h
 unfold oz at h
 split at h
 . rename_i x y
   split at h
   . rename_i m hm
     rw[aa]at h
     cases hc:dec (x=mgV m/\y=mgV m/\fY m.d)with
     | false=>rw[hc]at h;cases h
     | true=>
      rw[hc,cT]at h
      obtain⟨rfl,rfl,h1,h2,h3,h4,h5⟩:=dec_iff.1 hc
      refine(congrArg ac (Mz m)).trans ?_
      unfold smT
      rw[dec_iff.2 ⟨rfl,rfl,h1,h2,h3⟩,dec_iff.2 ⟨rfl,h4⟩,dec_iff.2 ⟨rfl,h5⟩]
      simp only[beq_self_eq_true,Bool.and_self,cT]
      exact h
   . cases h
 . cases h)
noncomputable def xg:Code:=Tryz.f11.body.getD .skip
noncomputable def c11:Code:=(bv 4 xg).getD .skip
def lK(n:Nat)(xs:List SV)(i:Int):Prop:=n=xs.length/\n<=2000000/\0<=i/\∀ x ∈ xs,fY (ib x).d
noncomputable def vC:ag:=fun args H=>match args,H with
 | [.qs 0 25 0 n,.psl 52 ys,.int .i64 i],[(0,.seq 52 xs)]=>.ite (dec (ys=xs/\lK n xs i)) (.ret (.tup [.int .i64 2,.junk]) []) .fail
 | [.psl 52 ys,.qs 0 25 0 n,.int .i64 i],[(0,.seq 52 xs)]=>.ite (dec (ys=xs/\lK n xs i)) (.ret (.tup [.int .i64 2,.junk]) []) .fail
 | [.psl 52 xs,.psl 52 ys,.int .i64 i],[]=>.ite (dec (ys=xs/\lK xs.length xs i)) (.ret (.tup [.int .i64 2,.junk]) []) .fail
 | _,_=>.fail
def GJ:List SV->HpL->Nat
 | [.qs _ _ _ n,_,.int _ i],_=>n - i.toNat
 | [.psl _ xs,_,.int _ i],_=>xs.length - i.toNat
 | _,_=>0
noncomputable def e11:LEnt:={ins:=[0,1,5],outs:=[4],keep:=[],size:=27,code:=c11,s:=vC}
noncomputable abbrev κml:=bn Tryz.prog (tbl [(20,oz)]) 300 5
noncomputable abbrev ιml:Nat->Bool:=fun g=>inl (tbl [(20,oz)]) g&&bB Tryz.prog g
theorem MA:KOk Tryz.prog κml:=aL ak aq (af GI ok0) 300 5
noncomputable def GK(N n:Nat)(xs ys:List SV)(i:Int):CTree:=bif Nat.blt (n - i.toNat) N then bif dec (ys=xs/\lK n xs i)then .ret (.tup [.int .i64 2,.junk]) []else .fail else .fail
noncomputable def MB(x:SV)(K:CTree):CTree:=bif dec (mgV (ib x)=mgV (ib x)/\mgV (ib x)=mgV (ib x)/\fY (ib x).d)then K else .fail
theorem MC(N n:Nat)(xs:List SV)(i:Int):av Tryz.prog κml ιml (aF []) true 300 e11 {e11 with s:=ay GJ vC N} c11 [.qs 0 25 0 n,.psl 52 xs,.int .i64 i] [(0,.seq 52 xs)]=
 bif decide (i < n)then bif inB i n then bif decide (0+i.toNat < xs.length)then bif inB i xs.length then bif dec (mgV (ib (xs.getD (0+i.toNat) .junk))=mgV (ib (xs.getD (0+i.toNat) .junk))/\mgV (ib (xs.getD i.toNat .junk))=mgV (ib (xs.getD (0+i.toNat) .junk))/\fY (ib (xs.getD (0+i.toNat) .junk)).d)then GK N n xs xs (w64 (i+1))else .fail else .fail else .fail else .fail
 else .ret (.tup [.int .i64 2,.junk]) []:=by kernel_rfl
theorem MD(N n:Nat)(xs:List SV)(i:Int):av Tryz.prog κml ιml (aF []) true 300 e11 {e11 with s:=ay GJ vC N} c11 [.psl 52 xs,.qs 0 25 0 n,.int .i64 i] [(0,.seq 52 xs)]=
 bif decide (i < xs.length)then bif inB i xs.length then bif inB i n then bif decide (0+i.toNat < xs.length)then bif dec (mgV (ib (xs.getD i.toNat .junk))=mgV (ib (xs.getD i.toNat .junk))/\mgV (ib (xs.getD (0+i.toNat) .junk))=mgV (ib (xs.getD i.toNat .junk))/\fY (ib (xs.getD i.toNat .junk)).d)then
  (bif Nat.blt (xs.length - (w64 (i+1)).toNat) N then bif dec (xs=xs/\lK n xs (w64 (i+1)))then .ret (.tup [.int .i64 2,.junk]) []else .fail else .fail)else .fail else .fail else .fail else .fail
 else .ret (.tup [.int .i64 2,.junk]) []:=by kernel_rfl
theorem ME(N:Nat)(xs:List SV)(i:Int):av Tryz.prog κml ιml (aF []) true 300 e11 {e11 with s:=ay GJ vC N} c11 [.psl 52 xs,.psl 52 xs,.int .i64 i] []=
 bif decide (i < xs.length)then bif inB i xs.length then bif inB i xs.length then MB (xs.getD i.toNat .junk) (GK N xs.length xs xs (w64 (i+1)))else .fail else .fail
 else .ret (.tup [.int .i64 2,.junk]) []:=by kernel_rfl
theorem p9{l:List SV}{j:Nat}(h:j < l.length):l.getD j .junk ∈ l:=by
 rw[gD0,List.getElem?_eq_getElem h];exact List.getElem_mem h
theorem A2       :aO     Tryz.prog e11:=bG          (κ:=κml) (ι:=ιml) (T:=aF   []) (sp:=true) (fuel:=300) (c:=c11) (μ:=GJ  ) MA   aq     aE       (show aN    (aF   []) c11=c11 by kernel_rfl) (by
 intro N args H v' ups' hbt h
 unfold e11 vC at h
 simp only[]at h
 split at h
 . rename_i n ys i xs
   rw[aa]at h
   cases hc:dec (ys=xs/\lK n xs i)with
   | false=>rw[hc]at h;cases h
   | true=>
    rw[hc,cT]at h
    obtain⟨rfl,rfl,h1,h0,hs⟩:=dec_iff.1 hc
    have ht:=MC N ys.length ys i
    have hN:Nat.blt (ys.length - i.toNat) (N+1)=true:=hbt
    rw[bL]at hN
    by_cases hi:i < ys.length
    . unfold GK at ht
      rw[dT0 hi,cT,bJ h0 hi,Nat.zero_add,dT0 (show i.toNat < ys.length by omega),dec_iff.2 ⟨rfl,rfl,hs _ (p9 (show i.toNat < ys.length by omega))⟩,show w64 (i+1)=i+1 from ai (by omega) (by omega),show Nat.blt (ys.length - (i+1).toNat) N=true by rw[bL];omega,dec_iff.2 ⟨rfl,rfl,h1,by omega,hs⟩]at ht
      exact .inl ⟨_,(congrArg ac ht).trans h,fun x=>rfl⟩
    . rw[dF hi,cF]at ht
      exact .inl ⟨_,(congrArg ac ht).trans h,fun x=>rfl⟩
 . rename_i ys n i xs
   rw[aa]at h
   cases hc:dec (ys=xs/\lK n xs i)with
   | false=>rw[hc]at h;cases h
   | true=>
    rw[hc,cT]at h
    obtain⟨rfl,rfl,h1,h0,hs⟩:=dec_iff.1 hc
    have ht:=MD N ys.length ys i
    have hN:Nat.blt (ys.length - i.toNat) (N+1)=true:=hbt
    rw[bL]at hN
    by_cases hi:i < ys.length
    . rw[dT0 hi,cT,bJ h0 hi,Nat.zero_add,dT0 (show i.toNat < ys.length by omega),dec_iff.2 ⟨rfl,rfl,hs _ (p9 (show i.toNat < ys.length by omega))⟩,show w64 (i+1)=i+1 from ai (by omega) (by omega),show Nat.blt (ys.length - (i+1).toNat) N=true by rw[bL];omega,dec_iff.2 ⟨rfl,rfl,h1,by omega,hs⟩]at ht
      exact .inl ⟨_,(congrArg ac ht).trans h,fun x=>rfl⟩
    . rw[dF hi,cF]at ht
      exact .inl ⟨_,(congrArg ac ht).trans h,fun x=>rfl⟩
 . rename_i xs ys i
   rw[aa]at h
   cases hc:dec (ys=xs/\lK xs.length xs i)with
   | false=>rw[hc]at h;cases h
   | true=>
    rw[hc,cT]at h
    obtain⟨rfl,-,h1,h0,hs⟩:=dec_iff.1 hc
    have ht:=ME N ys i
    have hN:Nat.blt (ys.length - i.toNat) (N+1)=true:=hbt
    rw[bL]at hN
    by_cases hi:i < ys.length
    . unfold MB GK at ht
      rw[dT0 hi,cT,bJ h0 hi,dec_iff.2 ⟨rfl,rfl,hs _ (p9 (show i.toNat < ys.length by omega))⟩,show w64 (i+1)=i+1 from ai (by omega) (by omega),show Nat.blt (ys.length - (i+1).toNat) N=true by rw[bL];omega,dec_iff.2 ⟨rfl,rfl,h1,by omega,hs⟩]at ht
      exact .inl ⟨_,(congrArg ac ht).trans h,fun x=>rfl⟩
    . rw[dF hi,cF]at ht
      exact .inl ⟨_,(congrArg ac ht).trans h,fun x=>rfl⟩
 . cases h)
noncomputable def oC:ag:=bE Tryz.prog κml ιml (aF [("s",e11)]) true 300 Tryz.f11 (bx [(4, "s")] xg)
theorem sames_k0:Known Tryz.prog 11 oC:=⟨⟨Tryz.f11,Tryz.func11,bf ak Tryz.func11,rfl⟩,aS MA aq (ba A2 aE) Tryz.func11 (show Tryz.f11.body=some (aN (aF [("s",e11)]) (bx [(4, "s")] xg))by kernel_rfl)⟩
noncomputable def A3(b:Bool)(n:Nat)(xs:List SV):CTree:=bif b then .ret (.bool false) []else bif dec (xs=xs/\lK n xs 0)then .ret (.bool true) []else .fail
theorem DQ(n:Nat)(xs:List SV):oC [.qs 0 25 0 n,.psl 52 xs] [(0,.seq 52 xs)]=A3 ((n:Int)!=(xs.length:Int)) n xs:=by kernel_rfl
theorem DR(n:Nat)(xs:List SV):oC [.psl 52 xs,.qs 0 25 0 n] [(0,.seq 52 xs)]=A3 ((xs.length:Int)!=(n:Int)) n xs:=by kernel_rfl
theorem DS(xs:List SV):oC [.psl 52 xs,.psl 52 xs] []=A3 ((xs.length:Int)!=(xs.length:Int)) xs.length xs:=by kernel_rfl
def ki(xs:List SV):Prop:=xs.length<=2000000/\∀ x ∈ xs,fY (ib x).d
noncomputable def tt:ag:=fun args H=>match args,H with
 | [.qs 0 25 0 n,.psl 52 ys],[(0,.seq 52 xs)]=>.ite (dec (ys=xs/\n=xs.length/\ki xs)) (.ret (.bool true) []) .fail
 | [.psl 52 ys,.qs 0 25 0 n],[(0,.seq 52 xs)]=>.ite (dec (ys=xs/\n=xs.length/\ki xs)) (.ret (.bool true) []) .fail
 | [.psl 52 xs,.psl 52 ys],[]=>.ite (dec (ys=xs/\ki xs)) (.ret (.bool true) []) .fail
 | _,_=>.fail
theorem GV:Known Tryz.prog 11 tt:=sames_k0.weak (by
 intro args H v ups h
 have ne:∀ k:Nat,((k:Int)!=(k:Int))=false:=fun k=>by simp
 unfold tt at h
 split at h
 . rename_i n ys xs
   rw[aa]at h
   cases hc:dec (ys=xs/\n=xs.length/\ki xs)with
   | false=>rw[hc]at h;cases h
   | true=>
    rw[hc,cT]at h
    obtain⟨rfl,rfl,h1,h2⟩:=dec_iff.1 hc
    refine(congrArg ac (DQ ys.length ys)).trans ?_
    unfold A3
    rw[ne,dec_iff.2 ⟨rfl,rfl,h1,by omega,h2⟩]
    exact h
 . rename_i ys n xs
   rw[aa]at h
   cases hc:dec (ys=xs/\n=xs.length/\ki xs)with
   | false=>rw[hc]at h;cases h
   | true=>
    rw[hc,cT]at h
    obtain⟨rfl,rfl,h1,h2⟩:=dec_iff.1 hc
    refine(congrArg ac (DR ys.length ys)).trans ?_
    unfold A3
    rw[ne,dec_iff.2 ⟨rfl,rfl,h1,by omega,h2⟩]
    exact h
 . rename_i xs ys
   rw[aa]at h
   cases hc:dec (ys=xs/\ki xs)with
   | false=>rw[hc]at h;cases h
   | true=>
    rw[hc,cT]at h
    obtain⟨rfl,h1,h2⟩:=dec_iff.1 hc
    refine(congrArg ac (DS ys)).trans ?_
    unfold A3
    rw[ne,dec_iff.2 ⟨rfl,rfl,h1,by omega,h2⟩]
    exact h
 . cases h)
theorem uS      :∀ (f:Nat) (p:List SV) (a:Int) (rs:List SV),rs.length<=4096->(pcs f p a rs).2.2.length<=4096
 | 0,_,_,_,h=>h
 | f+1,p,a,rs,h=>by
  unfold pcs
  split
  . exact h
  . split
    . exact h
    . split
      . exact h
      . exact uS f _ _ _ (by rw[lA0,lS];omega)
theorem uT(p:List SV):(rdL p).length<=4096:=by
 unfold rdL
 split
 . exact uS _ _ _ _ (by simp)
 . simp
def kw(d:Ds):Prop:=d.path.length<=100000/\d.cl.length<=100000/\d.cm.length<=100000/\d.rch.length<=100000/\d.unr.length<=100000
theorem Cr{g:Int}(hk:knC g=true){v:List SV}(hv:v.length<=100000){d:Ds}(h:kw d):kw (gD g v d):=by
 obtain⟨h1,h2,h3,h4,h5⟩:=h
 rcases gY hk with rfl | rfl | rfl | rfl | rfl | rfl | rfl | rfl | rfl | rfl
 . exact⟨h1,h2,h3,h4,h5⟩
 . refine⟨?_,h2,h3,h4,h5⟩
   show(bif v.length==0 then([]:List SV)else wd v 2 (elQ ((v.length - 2:Nat):Int) 4).toNat).length<=100000
   cases v.length==0 with
   | true=>simp
   | false=>
    have hq:elQ ((v.length - 2:Nat):Int) 4=(((v.length - 2) / 4:Nat):Int):=rJ _ (by omega) 4 (by omega)
    rw[cF,fW,hq];omega
 . exact⟨h1,h2,h3,h4,h5⟩
 . exact⟨h1,h2,h3,h4,h5⟩
 . exact⟨h1,h2,h3,h4,h5⟩
 . refine⟨h1,?_,h3,h4,h5⟩
   show(wd v 0 (v.length / 4)).length<=100000
   rw[fW];omega
 . exact⟨h1,h2,h3,Nat.le_trans (uT _) (by omega),h5⟩
 . exact⟨h1,h2,h3,h4,Nat.le_trans (uT _) (by omega)⟩
 . refine⟨h1,h2,?_,h4,h5⟩
   show(cw v 0 (v.length / 8)).length<=100000
   rw[sS];omega
 . exact⟨h1,h2,h3,h4,h5⟩
theorem kx        {σ:Type}{lk:σ->Int->Bool}{st:σ->Int->σ}{es:List SV}{n:Nat}(he:es.length<=100000):∀ (m a:Nat) (x:Int) (s:σ) (z:Dz),n - a<=m->kw     z.d->kw     (ew   lk st es n a x s z).2.2.2.d
 | m,a,x,s,z,hm,hs=>by
  by_cases hlt:a < n
  . by_cases ho:okN es a n
    . have hE3:a+3<=vE es a:=by have:=ku     (es:=es) (a:=a);unfold vE;omega
      obtain⟨m',rfl⟩:∃ m',m=m'+1:=⟨m - 1,by omega⟩
      cases hk:knC (bC es a)with
      | false=>
       cases hf:cz .u8 (dg es a) 128==0 with
       | true=>rw[iY hlt ho hk hf];exact hs
       | false=>rw[iZ hlt ho hk hf];exact kx he m' _ _ _ _ (by omega) hs
      | true=>
       cases hf:nQ (bC es a) (dg es a)with
       | false=>rw[i7 hlt ho hk hf];exact hs
       | true=>
        cases hlk:lk s (bC es a)with
        | true=>rw[i9 hlt ho hk hf hlk];exact hs
        | false=>
         cases hv:okC (bC es a) (vl es (vS es a) (vE es a))with
         | false=>rw[ja hlt ho hk hf hlk hv];exact hs
         | true=>
          rw[li hlt ho hk hf hlk hv]
          exact kx he m' _ _ _ _ (by omega) (Cr hk (by unfold vl sl;rw[List.length_take,List.length_drop];omega) hs)
    . rw[iX hlt ho];exact hs
  . rw[fT hlt];exact hs
termination_by m=>m
theorem mD:kw dI0:=⟨by decide,by decide,by decide,by decide,by decide⟩
theorem Aq{es:List SV}(he:es.length<=100000):kw (rdQ es es.length).2.2:=by
 have h:=kx (lk:=bw) (st:=stK) (n:=es.length) he es.length 0 0 [] zI (by omega) mD
 unfold rdQ rdO
 change kw (fg es es.length 0 0 [] zI).2.2.2.d at h
 generalize fg es es.length 0 0 [] zI=o at *
 cases o.1==0 with
 | false=>exact mD
 | true=>
  cases bw o.2.2.1 14 with
  | false=>exact⟨Nat.zero_le _,Nat.zero_le _,Nat.zero_le _,Nat.zero_le _,h.2.2.2.2⟩
  | true=>cases(bif bw o.2.2.1 1 then bw o.2.2.1 2 else false)with
   | true=>exact h
   | false=>exact mD
def vsp(d:Nat)(es:List SV):List SV:=[.psl 5 es,.junk,.ptr 1 0,.ptr (2+d) 0,.ptr (3+d) 0,.ptr (4+d) 0,.junk,.junk,.psl 5 es,.fn (.func 31) [] [.ptr (5+d) 0,.ptr (6+d) 0]]++List.replicate 17 .junk
noncomputable def lrp(d:Nat)(st:LS)(es:List SV):Chunk:=.loopr st (vsp d es) rng9.1 rng9.2.1 rng9.2.2
noncomputable def HP0(es:List SV)(a:Int):HpL:=[(0,lrp 0 .ready es),(1,.cells 25 [.nils]),(2,.cells 22 [.nils]),(3,.cells 28 [.int .i64 0,.int .i64 0]),(4,.cells 3 [.int .i64 a]),(5,.cells 22 [.psl 5 es]),(6,.cells 62 [.ptr 4 0])]
noncomputable def HP1(es:List SV)(a:Int)(m:Nat)(rs:List SV):HpL:=[(0,lrp 1 .ready es),(1,.cells 25 [.qs 2 25 0 m]),(2,.seq 52 rs),(3,.cells 22 [.nils]),(4,.cells 28 [.int .i64 0,.int .i64 0]),(5,.cells 3 [.int .i64 a]),(6,.cells 22 [.psl 5 es]),(7,.cells 62 [.ptr 5 0])]
def sX(es:List SV)(a:Int)(rs:List SV):Prop:=byl es/\es.length<=1000000/\0<=a/\a<=es.length/\rs.length+(es.length - a.toNat)<=2000000
noncomputable def C0(es:List SV)(r:Int × Nat × List SV):CTree:=
 .ite (decide (r.2.2.length=0))
  (.ite (r.1==0) (.ret (.tup [.int .i64 1]) []) (.ret (.tup [.int .i64 1]) [(3,some (.cells 28 [.int .i64 r.1,.int .i64 r.2.1])),(0,some (lrp 0 (.done .ret) es))]))
  (.ite (r.1==0) (.ret (.tup [.int .i64 1]) [(1,some (.cells 25 [.qs 7 25 0 r.2.2.length])),(4,some (.cells 3 [.int .i64 r.2.1])),(7,some (.seq 52 r.2.2))])
   (.ret (.tup [.int .i64 1]) [(1,some (.cells 25 [.qs 7 25 0 r.2.2.length])),(4,some (.cells 3 [.int .i64 r.2.1])),(3,some (.cells 28 [.int .i64 r.1,.int .i64 r.2.1])),(0,some (lrp 0 (.done .ret) es)),(7,some (.seq 52 r.2.2))]))
noncomputable def Ay(es:List SV)(r:Int × Nat × List SV):CTree:=
 .ite (r.1==0) (.ret (.tup [.int .i64 1]) [(1,some (.cells 25 [.qs 8 25 0 r.2.2.length])),(2,none),(5,some (.cells 3 [.int .i64 r.2.1])),(8,some (.seq 52 r.2.2))])
  (.ret (.tup [.int .i64 1]) [(1,some (.cells 25 [.qs 8 25 0 r.2.2.length])),(2,none),(5,some (.cells 3 [.int .i64 r.2.1])),(4,some (.cells 28 [.int .i64 r.1,.int .i64 r.2.1])),(0,some (lrp 1 (.done .ret) es)),(8,some (.seq 52 r.2.2))])
def Mn:HpL->Option (List SV × Int × Option (Nat × List SV))
 | [(0,_),(1,.cells 25 [.nils]),(2,_),(3,_),(4,.cells 3 [.int .i64 a]),(5,.cells 22 [.psl 5 es]),(6,_)]=>some (es,a,none)
 | [(0,_),(1,.cells 25 [.qs 2 25 0 m]),(2,.seq 52 rs),(3,_),(4,_),(5,.cells 3 [.int .i64 a]),(6,.cells 22 [.psl 5 es]),(7,_)]=>some (es,a,some (m,rs))
 | _=>none
noncomputable def ve:ag:=fun args H=>match args with
 | [.yl 0,.ptr b 0,.ptr c 0]=>match Mn H with
  | some (es,a,none)=>.ite (dec (b=5/\c=6/\H=HP0 es a/\sX es a [])) (C0 es (spL es a.toNat [])) .fail
  | some (es,a,some (m,rs))=>.ite (dec (b=6/\c=7/\H=HP1 es a m rs/\m=rs.length/\sX es a rs)) (Ay es (spL es a.toNat rs)) .fail
  | none=>.fail
 | _=>.fail
def Jo:List SV->HpL->Nat
 | _,H=>match Mn H with
  | some (es,a,_)=>es.length - a.toNat
  | none=>0
noncomputable def Az:LEnt:={ins:=[0,1,2],outs:=[],keep:=[],size:=58,code:=c31,s:=ve}
/- A round. -/
noncomputable def Ga(es:List SV)(a:Int)(K:List SV->Int × Int->CTree):CTree:=slI es a es.length fun p=>lF p (K p (hdP p))
noncomputable def Gb(p:List SV)(sz:Int)(K:Mg × Int->CTree):CTree:=bif inB 18 p.length then slI p 19 sz fun q=>lF q (K (rdP (w64 (dg p 18)) q))else .fail
noncomputable def nq(d:Nat)(es:List SV)(e a:Int)(L:SV)(K:CTree):CTree:=bif e !=0 then .ret (.tup [.int .i64 1]) [(3+d,some (.cells 28 [.int .i64 e,.int .i64 a])),(2+d,some (.cells 22 [.nils])),(1,some (.cells 25 [L])),(0,some (lrp d (.done .ret) es))]else K
noncomputable def HO(es:List SV):CTree:=.ret (.tup [.int .i64 1]) [(1,some (.cells 25 [.qs 7 25 0 1])),(0,some (lrp 0 .ready es)),(7,some (.seq 52 [mgV mg0]))]
noncomputable def C1(N:Nat)(es:List SV)(a:Int)(rs:List SV):CTree:=
 bif Nat.blt (es.length - a.toNat) N then bif dec (6=6/\7=7/\HP1 es a 1 rs=HP1 es a 1 rs/\1=rs.length/\sX es a rs)then
  (fun r:Int × Nat × List SV=>bif r.1==0 then .ret (.tup [.int .i64 1]) [(1,some (.cells 25 [.qs 7 25 0 r.2.2.length])),(0,some (lrp 0 .ready es)),(4,some (.cells 3 [.int .i64 r.2.1])),(7,some (.seq 52 r.2.2))]
   else .ret (.tup [.int .i64 1]) [(3,some (.cells 28 [.int .i64 r.1,.int .i64 r.2.1])),(1,some (.cells 25 [.qs 7 25 0 r.2.2.length])),(0,some (lrp 0 (.done .ret) es)),(4,some (.cells 3 [.int .i64 r.2.1])),(7,some (.seq 52 r.2.2))]) (spL es a.toNat rs)else .fail else .fail
theorem Jp(N:Nat)(es:List SV)(a:Int):av Tryz.prog κsp ιsp (aF []) true 300 Az {Az with s:=ay Jo ve N} c31 [.yl 0,.ptr 5 0,.ptr 6 0] (HP0 es a)=
 Ga es a fun p h=>bif(bif h.2==0 then h.1==0 else false)then .ret (.tup [.int .i64 1]) []else
  bif h.2==0 then Gb p h.1 fun q=>bif q.2 !=0 then nq 0 es q.2 a .nils (HO es)else C1 N es (w64 (a+h.1)) [mgV q.1]
  else bif h.2 !=0 then nq 0 es h.2 a .nils (HO es)else C1 N es (w64 (a+h.1)) [mgV mg0]:=by kernel_rfl
noncomputable def HP(es:List SV)(m:Nat)(rs:List SV):CTree:=gr9 m rs (.ret (.tup [.int .i64 1]) [(1,some (.cells 25 [.qs 8 25 0 (rs.length+1)])),(2,none),(0,some (lrp 1 .ready es)),(8,some (.seq 52 (rs++[mgV mg0])))])
noncomputable def C2(N:Nat)(es:List SV)(a:Int)(m:Nat)(rs:List SV)(x:SV):CTree:=gr9 m rs (
 bif Nat.blt (es.length - a.toNat) N then bif dec (6=6/\7=7/\HP1 es a (rs.length+1) (rs++[x])=HP1 es a (rs.length+1) (rs++[x])/\rs.length+1=(rs++[x]).length/\sX es a (rs++[x]))then
  (fun r:Int × Nat × List SV=>bif r.1==0 then .ret (.tup [.int .i64 1]) [(1,some (.cells 25 [.qs 8 25 0 r.2.2.length])),(2,none),(0,some (lrp 1 .ready es)),(5,some (.cells 3 [.int .i64 r.2.1])),(8,some (.seq 52 r.2.2))]
   else .ret (.tup [.int .i64 1]) [(4,some (.cells 28 [.int .i64 r.1,.int .i64 r.2.1])),(1,some (.cells 25 [.qs 8 25 0 r.2.2.length])),(2,none),(0,some (lrp 1 (.done .ret) es)),(5,some (.cells 3 [.int .i64 r.2.1])),(8,some (.seq 52 r.2.2))]) (spL es a.toNat (rs++[x]))else .fail else .fail)
theorem Jq(N m:Nat)(es rs:List SV)(a:Int):av Tryz.prog κsp ιsp (aF []) true 300 Az {Az with s:=ay Jo ve N} c31 [.yl 0,.ptr 6 0,.ptr 7 0] (HP1 es a m rs)=
 Ga es a fun p h=>bif(bif h.2==0 then h.1==0 else false)then .ret (.tup [.int .i64 1]) []else
  bif h.2==0 then Gb p h.1 fun q=>bif q.2 !=0 then nq 1 es q.2 a (.qs 2 25 0 m) (HP es m rs)else C2 N es (w64 (a+h.1)) m rs (mgV q.1)
  else bif h.2 !=0 then nq 1 es h.2 a (.qs 2 25 0 m) (HP es m rs)else C2 N es (w64 (a+h.1)) m rs (mgV mg0):=by kernel_rfl
theorem yn{es:List SV}{a:Int}(hb:byl es)(hl:es.length<=1000000)(h0:0<=a)(h1:a<=es.length)(K:List SV->Int × Int->CTree):Ga es a K=K (es.drop a.toNat) (hdP (es.drop a.toNat)):=by
 unfold Ga
 rw[eK (a:=a) (b:=(es.length:Int)) (i:=a.toNat) (j:=es.length) (by omega) rfl (by omega) (Nat.le_refl _),ia,eg (jl hb _) (by rw[List.length_drop];omega)]
theorem yo{p:List SV}{sz:Int}(hb:byl p)(hl:p.length<=1000000)(s1:19<=sz)(s2:sz<=p.length)(K:Mg × Int->CTree):Gb p sz K=K (rdP (dg p 18) (sl p 19 (sz.toNat - 19))):=by
 obtain⟨r1,r2⟩:=hb.ok 18
 unfold Gb
 rw[bJ (by omega) (by omega),cT,eK (a:=19) (b:=sz) (i:=19) (j:=sz.toNat) rfl (by omega) (by omega) (by omega),eg (hb.sl _ _) (by rw[dK (by omega)];omega),show w64 (dg p 18)=dg p 18 from ai (by omega) (by omega)]
end Go.Proofs.YtnlmhpancboddaaGreat
