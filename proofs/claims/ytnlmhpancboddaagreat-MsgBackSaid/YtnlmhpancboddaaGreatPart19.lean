/- Messages are the same. -/
import Derived.Test.YtnlmhpancboddaaGreatPart17
import Derived.Test.YtnlmhpancboddaaGreatPart18
import Derived.Test.YtnlmhpancboddaaGreatMachine6
import Derived.Test.YtnlmhpancboddaaGreatMachine5
import Derived.Test.YtnlmhpancboddaaGreatPart16
import Derived.Test.YtnlmhpancboddaaGreatPart3
set_option linter.unusedVariables false
set_option linter.unusedSimpArgs false
namespace Go.Proofs.YtnlmhpancboddaaGreat
open Go.Am
set_option maxRecDepth 100000
def ci(x:SV)(j:Nat):Int:=asI (ar x j)
def cb(x:SV)(j:Nat):Bool:=asB (ar x j)
def cl(x:SV)(j:Nat):List SV:=asL (ar x j)
def dB(x:SV):Mg:=⟨ci x 0,⟨false,false,false,ci x 1,ci x 2,ci x 3,ci x 4,cb x 5⟩,ci x 6,ci x 7,⟨ci x 8,ci x 10,ci x 12,ci x 14,ci x 16,ci x 19,ci x 20,ci x 21,ci x 22,cb x 11,cb x 13,cb x 15,cl x 9,cl x 17,cl x 18,cl x 23,cl x 24⟩⟩
noncomputable abbrev κsm:=tbl [(36,sG),(37,pL)]
theorem Og:KOk Tryz.prog κsm:=ac EK (ac CL ok0)
noncomputable def smT(m:Mg):CTree:=
 bif m.k==m.k then bif(m.s.asn==m.s.asn&&(m.s.hold==m.s.hold&&(m.s.id==m.s.id&&(m.s.rst==m.s.rst&&m.s.rsd==m.s.rsd))))then bif m.code==m.code then bif m.sub==m.sub then
  bif dec (aD m.d=aD m.d/\aD m.d=aD {m.d with rch:=[],unr:=[]}/\m.d.path.length<=100000/\m.d.cl.length<=100000/\m.d.cm.length<=100000)then bif dec (m.d.rch=m.d.rch/\m.d.rch.length<=100000)then bif dec (m.d.unr=m.d.unr/\m.d.unr.length<=100000)then .ret (.bool true) []else .fail else .fail else .fail
 else zsF else zsF else zsF else zsF
theorem MR(m:Mg):opn κsm Tryz.f20 [mgV m,mgV m] []=smT m:=by kernel_rfl
def mgP:SV->Option Mg
 | .agg [.int .i64 k,.int .u32 asn,.int .i64 hold,.int .u32 id,.int .i64 rst,.bool rsd,.int .i64 code,.int .i64 sub,.int .i64 ori,.psl 36 p,.int .u32 nx,.bool hm,.int .u32 med,.bool hp,.int .u32 prf,.bool ho,.int .u32 orr,.psl 37 c,.psl 136 m,.int .i64 tk,.int .u32 tl,.int .u32 tr,.int .u32 tg,.psl 88 r,.psl 88 u]=>
  some ⟨k,⟨false,false,false,asn,hold,id,rst,rsd⟩,code,sub,⟨ori,nx,med,prf,orr,tk,tl,tr,tg,hm,hp,ho,p,c,m,r,u⟩⟩
 | _=>none
def iz(d:Ds):Prop:=d.path.length<=100000/\d.cl.length<=100000/\d.cm.length<=100000/\d.rch.length<=100000/\d.unr.length<=100000
noncomputable def oN:ag:=fun args H=>match args,H with
 | [x,y],[]=>match mgP x with
  | some m=>.ite (dec (x=mgV m/\y=mgV m/\iz m.d)) (.ret (.bool true) []) .fail
  | none=>.fail
 | _,_=>.fail
theorem Gt     :Known Tryz.prog 20 oN     :=(aj        Og   Tryz.func20 rfl).weak (by
 intro args H v ups h
 unfold oN at h
 split at h
 . rename_i x y
   split at h
   . rename_i m hm
     rw[aa]at h
     cases hc:dec (x=mgV m/\y=mgV m/\iz m.d)with
     | false=>rw[hc]at h;cases h
     | true=>
      rw[hc,cT]at h
      obtain⟨rfl,rfl,h1,h2,h3,h4,h5⟩:=dec_iff.1 hc
      refine(congrArg ae (MR m)).trans ?_
      unfold smT
      rw[dec_iff.2 ⟨rfl,rfl,h1,h2,h3⟩,dec_iff.2 ⟨rfl,h4⟩,dec_iff.2 ⟨rfl,h5⟩]
      simp only[beq_self_eq_true,Bool.and_self,cT]
      exact h
   . cases h
 . cases h)
noncomputable def xy:Code:=Tryz.f11.body.getD .skip
noncomputable def c11:Code:=(bx 4 xy).getD .skip
def mc(n:Nat)(xs:List SV)(i:Int):Prop:=n=xs.length/\n<=2000000/\0<=i/\∀ x ∈ xs,iz (dB x).d
noncomputable def vM:ag:=fun args H=>match args,H with
 | [.qs 0 25 0 n,.psl 52 ys,.int .i64 i],[(0,.seq 52 xs)]=>.ite (dec (ys=xs/\mc n xs i)) (.ret (.tup [.int .i64 2,.junk]) []) .fail
 | [.psl 52 ys,.qs 0 25 0 n,.int .i64 i],[(0,.seq 52 xs)]=>.ite (dec (ys=xs/\mc n xs i)) (.ret (.tup [.int .i64 2,.junk]) []) .fail
 | [.psl 52 xs,.psl 52 ys,.int .i64 i],[]=>.ite (dec (ys=xs/\mc xs.length xs i)) (.ret (.tup [.int .i64 2,.junk]) []) .fail
 | _,_=>.fail
def Gu:List SV->HpL->Nat
 | [.qs _ _ _ n,_,.int _ i],_=>n - i.toNat
 | [.psl _ xs,_,.int _ i],_=>xs.length - i.toNat
 | _,_=>0
noncomputable def e11:LEnt:={ins:=[0,1,5],outs:=[4],keep:=[],size:=27,code:=c11,s:=vM}
noncomputable abbrev κml:=bt Tryz.prog (tbl [(20,oN)]) 300 5
noncomputable abbrev ιml:Nat->Bool:=fun g=>inl (tbl [(20,oN)]) g&&bJ Tryz.prog g
theorem MS:KOk Tryz.prog κml:=aG ap ax (ac Gt ok0) 300 5
noncomputable def Gv(N n:Nat)(xs ys:List SV)(i:Int):CTree:=bif Nat.blt (n - i.toNat) N then bif dec (ys=xs/\mc n xs i)then .ret (.tup [.int .i64 2,.junk]) []else .fail else .fail
noncomputable def MT(x:SV)(K:CTree):CTree:=bif dec (mgV (dB x)=mgV (dB x)/\mgV (dB x)=mgV (dB x)/\iz (dB x).d)then K else .fail
theorem MU(N n:Nat)(xs:List SV)(i:Int):ay Tryz.prog κml ιml (aL []) true 300 e11 {e11 with s:=az Gu vM N} c11 [.qs 0 25 0 n,.psl 52 xs,.int .i64 i] [(0,.seq 52 xs)]=
 bif decide (i < n)then bif inB i n then bif decide (0+i.toNat < xs.length)then bif inB i xs.length then bif dec (mgV (dB (xs.getD (0+i.toNat) .junk))=mgV (dB (xs.getD (0+i.toNat) .junk))/\mgV (dB (xs.getD i.toNat .junk))=mgV (dB (xs.getD (0+i.toNat) .junk))/\iz (dB (xs.getD (0+i.toNat) .junk)).d)then Gv N n xs xs (w64 (i+1))else .fail else .fail else .fail else .fail
 else .ret (.tup [.int .i64 2,.junk]) []:=by kernel_rfl
theorem MV(N n:Nat)(xs:List SV)(i:Int):ay Tryz.prog κml ιml (aL []) true 300 e11 {e11 with s:=az Gu vM N} c11 [.psl 52 xs,.qs 0 25 0 n,.int .i64 i] [(0,.seq 52 xs)]=
 bif decide (i < xs.length)then bif inB i xs.length then bif inB i n then bif decide (0+i.toNat < xs.length)then bif dec (mgV (dB (xs.getD i.toNat .junk))=mgV (dB (xs.getD i.toNat .junk))/\mgV (dB (xs.getD (0+i.toNat) .junk))=mgV (dB (xs.getD i.toNat .junk))/\iz (dB (xs.getD i.toNat .junk)).d)then
  (bif Nat.blt (xs.length - (w64 (i+1)).toNat) N then bif dec (xs=xs/\mc n xs (w64 (i+1)))then .ret (.tup [.int .i64 2,.junk]) []else .fail else .fail)else .fail else .fail else .fail else .fail
 else .ret (.tup [.int .i64 2,.junk]) []:=by kernel_rfl
theorem MW(N:Nat)(xs:List SV)(i:Int):ay Tryz.prog κml ιml (aL []) true 300 e11 {e11 with s:=az Gu vM N} c11 [.psl 52 xs,.psl 52 xs,.int .i64 i] []=
 bif decide (i < xs.length)then bif inB i xs.length then bif inB i xs.length then MT (xs.getD i.toNat .junk) (Gv N xs.length xs xs (w64 (i+1)))else .fail else .fail
 else .ret (.tup [.int .i64 2,.junk]) []:=by kernel_rfl
theorem mo{l:List SV}{j:Nat}(h:j < l.length):l.getD j .junk ∈ l:=by
 rw[gD0,List.getElem?_eq_getElem h];exact List.getElem_mem h
theorem AV       :aR     Tryz.prog e11:=cH          (κ:=κml) (ι:=ιml) (T:=aL   []) (sp:=true) (fuel:=300) (c:=c11) (μ:=Gu  ) MS   ax     aE       (show aM    (aL   []) c11=c11 by kernel_rfl) (by
 intro N args H v' ups' hbt h
 unfold e11 vM at h
 simp only[]at h
 split at h
 . rename_i n ys i xs
   rw[aa]at h
   cases hc:dec (ys=xs/\mc n xs i)with
   | false=>rw[hc]at h;cases h
   | true=>
    rw[hc,cT]at h
    obtain⟨rfl,rfl,h1,h0,hs⟩:=dec_iff.1 hc
    have ht:=MU N ys.length ys i
    have hN:Nat.blt (ys.length - i.toNat) (N+1)=true:=hbt
    rw[bL]at hN
    by_cases hi:i < ys.length
    . unfold Gv at ht
      rw[dT0 hi,cT,cR h0 hi,Nat.zero_add,dT0 (show i.toNat < ys.length by omega),dec_iff.2 ⟨rfl,rfl,hs _ (mo (show i.toNat < ys.length by omega))⟩,show w64 (i+1)=i+1 from am (by omega) (by omega),show Nat.blt (ys.length - (i+1).toNat) N=true by rw[bL];omega,dec_iff.2 ⟨rfl,rfl,h1,by omega,hs⟩]at ht
      exact .inl ⟨_,(congrArg ae ht).trans h,fun x=>rfl⟩
    . rw[dF0 hi,cF]at ht
      exact .inl ⟨_,(congrArg ae ht).trans h,fun x=>rfl⟩
 . rename_i ys n i xs
   rw[aa]at h
   cases hc:dec (ys=xs/\mc n xs i)with
   | false=>rw[hc]at h;cases h
   | true=>
    rw[hc,cT]at h
    obtain⟨rfl,rfl,h1,h0,hs⟩:=dec_iff.1 hc
    have ht:=MV N ys.length ys i
    have hN:Nat.blt (ys.length - i.toNat) (N+1)=true:=hbt
    rw[bL]at hN
    by_cases hi:i < ys.length
    . rw[dT0 hi,cT,cR h0 hi,Nat.zero_add,dT0 (show i.toNat < ys.length by omega),dec_iff.2 ⟨rfl,rfl,hs _ (mo (show i.toNat < ys.length by omega))⟩,show w64 (i+1)=i+1 from am (by omega) (by omega),show Nat.blt (ys.length - (i+1).toNat) N=true by rw[bL];omega,dec_iff.2 ⟨rfl,rfl,h1,by omega,hs⟩]at ht
      exact .inl ⟨_,(congrArg ae ht).trans h,fun x=>rfl⟩
    . rw[dF0 hi,cF]at ht
      exact .inl ⟨_,(congrArg ae ht).trans h,fun x=>rfl⟩
 . rename_i xs ys i
   rw[aa]at h
   cases hc:dec (ys=xs/\mc xs.length xs i)with
   | false=>rw[hc]at h;cases h
   | true=>
    rw[hc,cT]at h
    obtain⟨rfl,-,h1,h0,hs⟩:=dec_iff.1 hc
    have ht:=MW N ys i
    have hN:Nat.blt (ys.length - i.toNat) (N+1)=true:=hbt
    rw[bL]at hN
    by_cases hi:i < ys.length
    . unfold MT Gv at ht
      rw[dT0 hi,cT,cR h0 hi,dec_iff.2 ⟨rfl,rfl,hs _ (mo (show i.toNat < ys.length by omega))⟩,show w64 (i+1)=i+1 from am (by omega) (by omega),show Nat.blt (ys.length - (i+1).toNat) N=true by rw[bL];omega,dec_iff.2 ⟨rfl,rfl,h1,by omega,hs⟩]at ht
      exact .inl ⟨_,(congrArg ae ht).trans h,fun x=>rfl⟩
    . rw[dF0 hi,cF]at ht
      exact .inl ⟨_,(congrArg ae ht).trans h,fun x=>rfl⟩
 . cases h)
noncomputable def oP:ag:=bV Tryz.prog κml ιml (aL [("s",e11)]) true 300 Tryz.f11 (bF [(4, "s")] xy)
theorem sames_k0:Known Tryz.prog 11 oP:=⟨⟨Tryz.f11,Tryz.func11,bc ap Tryz.func11,rfl⟩,aZ MS ax (bf AV aE) Tryz.func11 (show Tryz.f11.body=some (aM (aL [("s",e11)]) (bF [(4, "s")] xy))by kernel_rfl)⟩
noncomputable def AW(b:Bool)(n:Nat)(xs:List SV):CTree:=bif b then .ret (.bool false) []else bif dec (xs=xs/\mc n xs 0)then .ret (.bool true) []else .fail
theorem DI(n:Nat)(xs:List SV):oP [.qs 0 25 0 n,.psl 52 xs] [(0,.seq 52 xs)]=AW ((n:Int)!=(xs.length:Int)) n xs:=by kernel_rfl
theorem DJ(n:Nat)(xs:List SV):oP [.psl 52 xs,.qs 0 25 0 n] [(0,.seq 52 xs)]=AW ((xs.length:Int)!=(n:Int)) n xs:=by kernel_rfl
theorem DK(xs:List SV):oP [.psl 52 xs,.psl 52 xs] []=AW ((xs.length:Int)!=(xs.length:Int)) xs.length xs:=by kernel_rfl
def n5(xs:List SV):Prop:=xs.length<=2000000/\∀ x ∈ xs,iz (dB x).d
noncomputable def tu:ag:=fun args H=>match args,H with
 | [.qs 0 25 0 n,.psl 52 ys],[(0,.seq 52 xs)]=>.ite (dec (ys=xs/\n=xs.length/\n5 xs)) (.ret (.bool true) []) .fail
 | [.psl 52 ys,.qs 0 25 0 n],[(0,.seq 52 xs)]=>.ite (dec (ys=xs/\n=xs.length/\n5 xs)) (.ret (.bool true) []) .fail
 | [.psl 52 xs,.psl 52 ys],[]=>.ite (dec (ys=xs/\n5 xs)) (.ret (.bool true) []) .fail
 | _,_=>.fail
theorem GF:Known Tryz.prog 11 tu:=sames_k0.weak (by
 intro args H v ups h
 have ne:∀ k:Nat,((k:Int)!=(k:Int))=false:=fun k=>by simp
 unfold tu at h
 split at h
 . rename_i n ys xs
   rw[aa]at h
   cases hc:dec (ys=xs/\n=xs.length/\n5 xs)with
   | false=>rw[hc]at h;cases h
   | true=>
    rw[hc,cT]at h
    obtain⟨rfl,rfl,h1,h2⟩:=dec_iff.1 hc
    refine(congrArg ae (DI ys.length ys)).trans ?_
    unfold AW
    rw[ne,dec_iff.2 ⟨rfl,rfl,h1,by omega,h2⟩]
    exact h
 . rename_i ys n xs
   rw[aa]at h
   cases hc:dec (ys=xs/\n=xs.length/\n5 xs)with
   | false=>rw[hc]at h;cases h
   | true=>
    rw[hc,cT]at h
    obtain⟨rfl,rfl,h1,h2⟩:=dec_iff.1 hc
    refine(congrArg ae (DJ ys.length ys)).trans ?_
    unfold AW
    rw[ne,dec_iff.2 ⟨rfl,rfl,h1,by omega,h2⟩]
    exact h
 . rename_i xs ys
   rw[aa]at h
   cases hc:dec (ys=xs/\n5 xs)with
   | false=>rw[hc]at h;cases h
   | true=>
    rw[hc,cT]at h
    obtain⟨rfl,h1,h2⟩:=dec_iff.1 hc
    refine(congrArg ae (DK ys)).trans ?_
    unfold AW
    rw[ne,dec_iff.2 ⟨rfl,rfl,h1,by omega,h2⟩]
    exact h
 . cases h)
def tv:ag:=fun args H=>match args,H with
 | [],[]=>.ret (.bool true) []
 | _,_=>.fail
theorem GG:n8 Tryz.prog (bt Tryz.prog (tbl []) 300 8) (fun g=>inl (tbl []) g&&bJ Tryz.prog g) true 300 Tryz.f7 [] []= .ret (.bool true) []:=by kernel_rfl
theorem GH:Known Tryz.prog 7 tv:=jy ap ax (aG ap ax ok0 300 8) Tryz.func7 rfl (by
 intro args H v ups h
 unfold tv at h
 split at h
 . exact(congrArg ae GG).trans h
 . cases h)
theorem Tryz.own:ownKnob Tryz.prog.godebug=none:=by kernel_rfl
theorem DL:laidOutB Tryz.prog=true:=by kernel_rfl
theorem DM:mapsRowed Tryz.prog=true:=by kernel_rfl
theorem DN:((List.range Tryz.prog.types.size).all fun t=>match Tryz.prog.underlying t with | some (.slice e)=>decide (0 < Tryz.prog.cellsOf e) | _=>true)=true:=by kernel_rfl
theorem wf8{n:Int}(h:(Lit.int .u8 n).wf=true):0<=n/\n<=255:=by
 simp[Lit.wf,IntKind.min,IntKind.max,IntKind.signed,IntKind.bits]at h;omega
theorem eu{n:Int}(h:(Lit.int .u32 n).wf=true):0<=n/\n < 4294967296:=by
 simp[Lit.wf,IntKind.min,IntKind.max,IntKind.signed,IntKind.bits]at h;omega
theorem Lm{n:Int}(h:(Lit.int .u64 n).wf=true):0<=n/\n < 18446744073709551616:=by
 simp[Lit.wf,IntKind.min,IntKind.max,IntKind.signed,IntKind.bits]at h;omega
theorem Bb{v:SV}(hv:OkV Tryz.prog 88 v):∃ n:Nl,v=n.v/\RgE n/\RgN n:=by
 obtain⟨cs,rfl,hh⟩:=hv.agg_inv (by kernel_rfl)
 clear hv
 rw[show aK Tryz.prog 40 88=[3,63,5,5,5,5,5,5,5,5,5,5,36,84,37,4,37,3,37,36,36]by kernel_rfl]at hh
 obtain⟨v0,cs,rfl,h0,hh⟩:=hh.cons_inv
 obtain⟨v1,cs,rfl,h1,hh⟩:=hh.cons_inv
 obtain⟨v2,cs,rfl,h2,hh⟩:=hh.cons_inv
 obtain⟨v3,cs,rfl,h3,hh⟩:=hh.cons_inv
 obtain⟨v4,cs,rfl,h4,hh⟩:=hh.cons_inv
 obtain⟨v5,cs,rfl,h5,hh⟩:=hh.cons_inv
 obtain⟨v6,cs,rfl,h6,hh⟩:=hh.cons_inv
 obtain⟨v7,cs,rfl,h7,hh⟩:=hh.cons_inv
 obtain⟨v8,cs,rfl,h8,hh⟩:=hh.cons_inv
 obtain⟨v9,cs,rfl,h9,hh⟩:=hh.cons_inv
 obtain⟨v10,cs,rfl,h10,hh⟩:=hh.cons_inv
 obtain⟨v11,cs,rfl,h11,hh⟩:=hh.cons_inv
 obtain⟨v12,cs,rfl,h12,hh⟩:=hh.cons_inv
 obtain⟨v13,cs,rfl,h13,hh⟩:=hh.cons_inv
 obtain⟨v14,cs,rfl,h14,hh⟩:=hh.cons_inv
 obtain⟨v15,cs,rfl,h15,hh⟩:=hh.cons_inv
 obtain⟨v16,cs,rfl,h16,hh⟩:=hh.cons_inv
 obtain⟨v17,cs,rfl,h17,hh⟩:=hh.cons_inv
 obtain⟨v18,cs,rfl,h18,hh⟩:=hh.cons_inv
 obtain⟨v19,cs,rfl,h19,hh⟩:=hh.cons_inv
 obtain⟨v20,cs,rfl,h20,hh⟩:=hh.cons_inv
 obtain rfl:=hh.nil_inv
 obtain⟨a0,rfl,w0⟩:=h0.int_inv Tryz.underlying3
 obtain⟨a1,rfl,w1⟩:=h1.int_inv Tryz.underlying63
 obtain⟨a2,rfl,w2⟩:=h2.int_inv Tryz.underlying5
 obtain⟨a3,rfl,w3⟩:=h3.int_inv Tryz.underlying5
 obtain⟨a4,rfl,w4⟩:=h4.int_inv Tryz.underlying5
 obtain⟨a5,rfl,w5⟩:=h5.int_inv Tryz.underlying5
 obtain⟨a6,rfl,w6⟩:=h6.int_inv Tryz.underlying5
 obtain⟨a7,rfl,w7⟩:=h7.int_inv Tryz.underlying5
 obtain⟨a8,rfl,w8⟩:=h8.int_inv Tryz.underlying5
 obtain⟨a9,rfl,w9⟩:=h9.int_inv Tryz.underlying5
 obtain⟨a10,rfl,w10⟩:=h10.int_inv Tryz.underlying5
 obtain⟨a11,rfl,w11⟩:=h11.int_inv Tryz.underlying5
 obtain⟨a12,rfl,w12⟩:=h12.int_inv Tryz.underlying36
 obtain⟨a13,rfl,w13⟩:=h13.int_inv Tryz.underlying84
 obtain⟨a14,rfl,w14⟩:=h14.int_inv Tryz.underlying37
 obtain⟨a15,rfl⟩:=h15.bool_inv Tryz.underlying4
 obtain⟨a16,rfl,w16⟩:=h16.int_inv Tryz.underlying37
 obtain⟨a17,rfl,w17⟩:=h17.int_inv Tryz.underlying3
 obtain⟨a18,rfl,w18⟩:=h18.int_inv Tryz.underlying37
 obtain⟨a19,rfl,w19⟩:=h19.int_inv Tryz.underlying36
 obtain⟨a20,rfl,w20⟩:=h20.int_inv Tryz.underlying36
 refine⟨Jb (.agg [.int .i64 a0,.int .u64 a1,.int .u8 a2,.int .u8 a3,.int .u8 a4,.int .u8 a5,.int .u8 a6,.int .u8 a7,.int .u8 a8,.int .u8 a9,.int .u8 a10,.int .u8 a11,.int .u32 a12,.int .u64 a13,.int .u32 a14,.bool a15,.int .u32 a16,.int .i64 a17,.int .u32 a18,.int .u32 a19,.int .u32 a20]),rfl,?_,Lm w1,eu w12,Lm w13,eu w14,eu w16,eu w18,eu w19,eu w20⟩
 intro v hv
 simp only[List.mem_cons,List.not_mem_nil,or_false]at hv
 rcases hv with rfl | rfl | rfl | rfl | rfl | rfl | rfl | rfl | rfl | rfl
 . exact⟨a2,rfl,wf8 w2⟩
 . exact⟨a3,rfl,wf8 w3⟩
 . exact⟨a4,rfl,wf8 w4⟩
 . exact⟨a5,rfl,wf8 w5⟩
 . exact⟨a6,rfl,wf8 w6⟩
 . exact⟨a7,rfl,wf8 w7⟩
 . exact⟨a8,rfl,wf8 w8⟩
 . exact⟨a9,rfl,wf8 w9⟩
 . exact⟨a10,rfl,wf8 w10⟩
 . exact⟨a11,rfl,wf8 w11⟩
theorem good_of{l:List SV}(h:∀ x ∈ l,OkV Tryz.prog 88 x):gG l:=fun x hx=>by
 obtain⟨n,h1,h2,-⟩:=Bb (h x hx)
 exact⟨n,h1,h2⟩
theorem Ln{l:List SV}(h:∀ x ∈ l,OkV Tryz.prog 88 x){i:Int}(h0:0<=i)(h1:i < l.length):RgN (rt l i):=by
 obtain⟨n,e1,-,e2⟩:=Bb (h _ (getD_mem (show i.toNat < l.length by omega)))
 unfold rt
 rw[e1,DQ];exact e2
theorem tQ{l:List SV}(h:∀ x ∈ l,OkV Tryz.prog 88 x):∀ (k:Nat) (i:Int),0<=i->i+k<=l.length->fst k l i=0->lK k l i=true
 | 0,_,_,_,_=>rfl
 | k+1,i,h0,h1,hf=>by
  unfold fst at hf
  cases hc:chk (rt l i)!=0 with
  | true=>
   rw[hc,cT]at hf
   rw[hf]at hc;cases hc
  | false=>
   rw[hc,cF]at hf
   have hc0:chk (rt l i)=0:=by simpa using hc
   unfold lK
   rw[tQ h k (i+1) (by omega) (by omega) hf,dT0 ⟨hc0,Ce (Ln h h0 (by omega)) hc0⟩]
   rfl
theorem Bc{l:List SV}(h:∀ x ∈ l,OkV Tryz.prog 88 x)(hl:l.length<=1000)(hf:tw l=0):okR l=true:=by
 unfold okR
 rw[dT0 hl,tQ h l.length 0 (by omega) (by omega) hf]
 rfl
theorem Bd{e:TypeId}{l:List SV}(hu:Tryz.prog.underlying e=some (.int .u32))(h:∀ x ∈ l,OkV Tryz.prog e x):okW l=true:=by
 rw[okW_iff]
 intro k
 rw[gD0]
 cases hk:l[k]? with
 | none=>simp[asI]
 | some x=>
  obtain⟨n,rfl,w⟩:=(h x (List.mem_of_getElem? hk)).int_inv hu
  exact eu w
theorem xU{e:TypeId}{l:List SV}(hu:Tryz.prog.underlying e=some (.int .u32))(h:∀ x ∈ l,OkV Tryz.prog e x):GL l:=fun x hx=>by
 obtain⟨n,rfl,w⟩:=(h x hx).int_inv hu
 exact⟨n,rfl,eu w⟩
theorem Ie{l:List SV}(h:∀ x ∈ l,OkV Tryz.prog 136 x):sh8 l:=fun x hx=>by
 obtain⟨cs,rfl,hh⟩:=(h x hx).agg_inv (by kernel_rfl)
 rw[show aK Tryz.prog 40 136=[5,5,5,5,5,5,5,5]by kernel_rfl]at hh
 obtain⟨v0,cs,rfl,h0,hh⟩:=hh.cons_inv
 obtain⟨v1,cs,rfl,h1,hh⟩:=hh.cons_inv
 obtain⟨v2,cs,rfl,h2,hh⟩:=hh.cons_inv
 obtain⟨v3,cs,rfl,h3,hh⟩:=hh.cons_inv
 obtain⟨v4,cs,rfl,h4,hh⟩:=hh.cons_inv
 obtain⟨v5,cs,rfl,h5,hh⟩:=hh.cons_inv
 obtain⟨v6,cs,rfl,h6,hh⟩:=hh.cons_inv
 obtain⟨v7,cs,rfl,h7,hh⟩:=hh.cons_inv
 obtain rfl:=hh.nil_inv
 obtain⟨a0,rfl,-⟩:=h0.int_inv Tryz.underlying5
 obtain⟨a1,rfl,-⟩:=h1.int_inv Tryz.underlying5
 obtain⟨a2,rfl,-⟩:=h2.int_inv Tryz.underlying5
 obtain⟨a3,rfl,-⟩:=h3.int_inv Tryz.underlying5
 obtain⟨a4,rfl,-⟩:=h4.int_inv Tryz.underlying5
 obtain⟨a5,rfl,-⟩:=h5.int_inv Tryz.underlying5
 obtain⟨a6,rfl,-⟩:=h6.int_inv Tryz.underlying5
 obtain⟨a7,rfl,-⟩:=h7.int_inv Tryz.underlying5
 exact⟨a0,a1,a2,a3,a4,a5,a6,a7,rfl⟩
def shb(l:List SV):Prop:=∀ x ∈ l,∀ j,∃ n:Int,asI (ar x j)=n/\0<=n/\n<=255
theorem If{l:List SV}(h:∀ x ∈ l,OkV Tryz.prog 136 x):shb l:=fun x hx j=>by
 obtain⟨cs,rfl,hh⟩:=(h x hx).agg_inv (by kernel_rfl)
 rw[show aK Tryz.prog 40 136=[5,5,5,5,5,5,5,5]by kernel_rfl]at hh
 obtain⟨v0,cs,rfl,h0,hh⟩:=hh.cons_inv
 obtain⟨v1,cs,rfl,h1,hh⟩:=hh.cons_inv
 obtain⟨v2,cs,rfl,h2,hh⟩:=hh.cons_inv
 obtain⟨v3,cs,rfl,h3,hh⟩:=hh.cons_inv
 obtain⟨v4,cs,rfl,h4,hh⟩:=hh.cons_inv
 obtain⟨v5,cs,rfl,h5,hh⟩:=hh.cons_inv
 obtain⟨v6,cs,rfl,h6,hh⟩:=hh.cons_inv
 obtain⟨v7,cs,rfl,h7,hh⟩:=hh.cons_inv
 obtain rfl:=hh.nil_inv
 obtain⟨a0,rfl,w0⟩:=h0.int_inv Tryz.underlying5
 obtain⟨a1,rfl,w1⟩:=h1.int_inv Tryz.underlying5
 obtain⟨a2,rfl,w2⟩:=h2.int_inv Tryz.underlying5
 obtain⟨a3,rfl,w3⟩:=h3.int_inv Tryz.underlying5
 obtain⟨a4,rfl,w4⟩:=h4.int_inv Tryz.underlying5
 obtain⟨a5,rfl,w5⟩:=h5.int_inv Tryz.underlying5
 obtain⟨a6,rfl,w6⟩:=h6.int_inv Tryz.underlying5
 obtain⟨a7,rfl,w7⟩:=h7.int_inv Tryz.underlying5
 match j with
 | 0=>exact⟨a0,rfl,wf8 w0⟩
 | 1=>exact⟨a1,rfl,wf8 w1⟩
 | 2=>exact⟨a2,rfl,wf8 w2⟩
 | 3=>exact⟨a3,rfl,wf8 w3⟩
 | 4=>exact⟨a4,rfl,wf8 w4⟩
 | 5=>exact⟨a5,rfl,wf8 w5⟩
 | 6=>exact⟨a6,rfl,wf8 w6⟩
 | 7=>exact⟨a7,rfl,wf8 w7⟩
 | j+8=>exact⟨0,rfl,by decide,by decide⟩
theorem Ig{v:SV}(hv:OkV Tryz.prog 49 v):∃ a:At,v=a.v/\shb a.cm/\(ql a=0->Valid a):=by
 obtain⟨cs,rfl,hh⟩:=hv.agg_inv (by kernel_rfl)
 clear hv
 rw[show aK Tryz.prog 40 49=[3,43,37,4,36,4,36,4,37,44,45,3,36,37,37]by kernel_rfl]at hh
 obtain⟨v0,cs,rfl,h0,hh⟩:=hh.cons_inv
 obtain⟨v1,cs,rfl,h1,hh⟩:=hh.cons_inv
 obtain⟨v2,cs,rfl,h2,hh⟩:=hh.cons_inv
 obtain⟨v3,cs,rfl,h3,hh⟩:=hh.cons_inv
 obtain⟨v4,cs,rfl,h4,hh⟩:=hh.cons_inv
 obtain⟨v5,cs,rfl,h5,hh⟩:=hh.cons_inv
 obtain⟨v6,cs,rfl,h6,hh⟩:=hh.cons_inv
 obtain⟨v7,cs,rfl,h7,hh⟩:=hh.cons_inv
 obtain⟨v8,cs,rfl,h8,hh⟩:=hh.cons_inv
 obtain⟨v9,cs,rfl,h9,hh⟩:=hh.cons_inv
 obtain⟨v10,cs,rfl,h10,hh⟩:=hh.cons_inv
 obtain⟨v11,cs,rfl,h11,hh⟩:=hh.cons_inv
 obtain⟨v12,cs,rfl,h12,hh⟩:=hh.cons_inv
 obtain⟨v13,cs,rfl,h13,hh⟩:=hh.cons_inv
 obtain⟨v14,cs,rfl,h14,hh⟩:=hh.cons_inv
 obtain rfl:=hh.nil_inv
 obtain⟨ori,rfl,w0⟩:=h0.int_inv Tryz.underlying3
 obtain⟨path,rfl,l1,g1⟩:=h1.sl_inv Tryz.underlying43
 obtain⟨nx,rfl,w2⟩:=h2.int_inv Tryz.underlying37
 obtain⟨hm,rfl⟩:=h3.bool_inv Tryz.underlying4
 obtain⟨med,rfl,w4⟩:=h4.int_inv Tryz.underlying36
 obtain⟨hp,rfl⟩:=h5.bool_inv Tryz.underlying4
 obtain⟨prf,rfl,w6⟩:=h6.int_inv Tryz.underlying36
 obtain⟨ho,rfl⟩:=h7.bool_inv Tryz.underlying4
 obtain⟨orr,rfl,w8⟩:=h8.int_inv Tryz.underlying37
 obtain⟨cl,rfl,l9,g9⟩:=h9.sl_inv Tryz.underlying44
 obtain⟨cm,rfl,l10,g10⟩:=h10.sl_inv Tryz.underlying45
 obtain⟨tk,rfl,w11⟩:=h11.int_inv Tryz.underlying3
 obtain⟨tl,rfl,w12⟩:=h12.int_inv Tryz.underlying36
 obtain⟨tr,rfl,w13⟩:=h13.int_inv Tryz.underlying37
 obtain⟨tg,rfl,w14⟩:=h14.int_inv Tryz.underlying37
 refine⟨⟨ori,path,nx,hm,med,hp,prf,ho,orr,cl,cm,tk,tl,tr,tg⟩,rfl,If g10,fun hc=> ?_⟩
 have b12:=eu w12
 unfold ql at hc
 cases c1:ck1 ⟨ori,path,nx,hm,med,hp,prf,ho,orr,cl,cm,tk,tl,tr,tg⟩with
 | true=>rw[c1]at hc;cases hc
 | false=>
 rw[c1,cF]at hc
 cases c2:ck2 ⟨ori,path,nx,hm,med,hp,prf,ho,orr,cl,cm,tk,tl,tr,tg⟩with
 | true=>rw[c2]at hc;cases hc
 | false=>
 rw[c2,cF]at hc
 cases c3:ck3 ⟨ori,path,nx,hm,med,hp,prf,ho,orr,cl,cm,tk,tl,tr,tg⟩with
 | true=>rw[c3]at hc;cases hc
 | false=>
 rw[c3,cF]at hc
 cases c4:ck4 ⟨ori,path,nx,hm,med,hp,prf,ho,orr,cl,cm,tk,tl,tr,tg⟩with
 | true=>rw[c4]at hc;cases hc
 | false=>
 rw[c4,cF]at hc
 cases c5:ck5 ⟨ori,path,nx,hm,med,hp,prf,ho,orr,cl,cm,tk,tl,tr,tg⟩with
 | true=>rw[c5]at hc;cases hc
 | false=>
 rw[c5,cF]at hc
 cases c6:ck6 ⟨ori,path,nx,hm,med,hp,prf,ho,orr,cl,cm,tk,tl,tr,tg⟩with
 | true=>rw[c6]at hc;cases hc
 | false=>
 rw[c6,cF]at hc
 cases c7:ck7 ⟨ori,path,nx,hm,med,hp,prf,ho,orr,cl,cm,tk,tl,tr,tg⟩with
 | true=>rw[c7]at hc;cases hc
 | false=>
 have hb:∀ x y:Bool,(bif x then y else false)=(x&&y):=by decide
 have ho2:∀ x y:Bool,(bif x then true else y)=(x||y):=by decide
 simp only[ck1,ho2,Bool.or_eq_false_iff,decide_eq_false_iff_not]at c1
 simp only[ck2,ho2,Bool.or_eq_false_iff,decide_eq_false_iff_not]at c2
 simp only[ck3,ho2,hb,Bool.or_eq_false_iff,Bool.and_eq_false_imp,Bool.not_eq_true',bne_eq_false_iff_eq]at c3
 simp only[ck4,hb,Bool.and_eq_false_imp,bA,bne_iff_ne,bne_eq_false_iff_eq,and_imp]at c4
 simp only[ck5,decide_eq_false_iff_not]at c5
 simp only[ck6,hb,Bool.and_eq_false_imp,Bool.not_eq_false',bA,beq_iff_eq]at c6
 simp only[ck7,hb,Bool.and_eq_false_imp,bne_eq_false_iff_eq,beq_iff_eq]at c7
 obtain⟨c11,c12⟩:=c1
 obtain⟨⟨c21,c22⟩,c23⟩:=c2
 obtain⟨⟨c31,c32⟩,c33⟩:=c3
 have hk:tk=0\/tk=3\/tk=6:=by
  by_cases k0:tk=0
  . exact .inl k0
  by_cases k3:tk=3
  . exact .inr (.inl k3)
  exact .inr (.inr (c4 k0 k3))
 exact⟨⟨by simp only[];omega,by simp only[];omega,Bd Tryz.underlying36 g1,eu w2,eu w4,eu w6,eu w8,by simp only[];omega,Bd Tryz.underlying37 g9,by simp only[];omega,by simp only[];omega,⟨b12.1,by simp only[];omega⟩,eu w13,eu w14⟩,
  by simp only[];omega,by simp only[];omega,by simp only[];omega,by simp only[];omega,c31,c32,c33,hk,fun h=>by
   have:=c6 h
   exact this.2,c7,xU Tryz.underlying36 g1,xU Tryz.underlying37 g9,Ie g10⟩
structure In (a:At) (r u:List SV):Prop where
 mb:shb a.cm
 va:ql a=0->Valid a
 gr:gG r
 gu:gG u
 kr:r.length<=1000->tw r=0->okR r=true
 ku:u.length<=1000->tw u=0->okR u=true
structure Vd (a:At) (r u:List SV):Prop where
 mb:shb a.cm
 va:Valid a
 gr:gG r
 gu:gG u
 kr:okR r=true
 ku:okR u=true
 z:r.length=0->cC a=true
theorem In.vd{a:At}{r u:List SV}(h:In a r u)(hr:r.length<=1000)(hu:u.length<=1000)(hc:bg a r u=0):Vd a r u:=by
 unfold bg at hc
 cases ha:ql a !=0 with
 | true=>
  rw[ha,cT]at hc
  rw[hc]at ha;cases ha
 | false=>
  rw[ha,cF]at hc
  cases hz:(bif(r.length:Int)==0 then !cC a else false)with
  | true=>rw[hz]at hc;cases hc
  | false=>
   rw[hz,cF]at hc
   cases hx:tw r !=0 with
   | true=>
    rw[hx,cT]at hc
    rw[hc]at hx;cases hx
   | false=>
    rw[hx,cF]at hc
    have hx0:tw r=0:=by simpa using hx
    refine⟨h.mb,h.va (by simpa using ha),h.gr,h.gu,h.kr hr hx0,h.ku hu hc,fun h0=> ?_⟩
    rw[h0]at hz
    cases hq:cC a with
    | true=>rfl
    | false=>rw[hq]at hz;cases hz
theorem In.fit{a:At}{r u:List SV}(h:In a r u)(hr:r.length<=40)(hu:u.length<=40):Fit a r u:=
 ⟨hr,hu,fun hc=>by
  have v:=h.vd (by omega) (by omega) hc
  exact⟨v.va.ok,v.kr,v.ku⟩⟩
theorem ry{a:At}(h:cC a=true)(u:List SV):uU a [] u={dI0 with unr:=u}:=by
 have hb:∀ x y:Bool,(bif x then y else false)=(x&&y):=by decide
 simp only[cC,hb,bA,beq_iff_eq,Bool.not_eq_true']at h
 obtain⟨⟨⟨⟨⟨⟨⟨⟨⟨⟨⟨e1,e2⟩,e3⟩,e4⟩,e5⟩,e6⟩,e7⟩,e8⟩,e9⟩,e10⟩,e11⟩,e12,e13,e14,e15⟩:=h
 have l1:a.path=[]:=List.length_eq_zero_iff.1 (by omega)
 have l2:a.cl=[]:=List.length_eq_zero_iff.1 (by omega)
 have l3:a.cm=[]:=List.length_eq_zero_iff.1 (by omega)
 unfold uU
 rw[e1,e3,e4,e5,e6,e7,e8,e9,e12,e13,e14,e15,l1,l2,l3];rfl
theorem Be{a:At}(h:cC a=true):a.hm=false/\a.hp=false/\a.ho=false/\a.cl.length=0:=by
 have hb:∀ x y:Bool,(bif x then y else false)=(x&&y):=by decide
 simp only[cC,hb,bA,beq_iff_eq,Bool.not_eq_true']at h
 obtain⟨⟨⟨⟨⟨⟨⟨⟨⟨⟨⟨e1,e2⟩,e3⟩,e4⟩,e5⟩,e6⟩,e7⟩,e8⟩,e9⟩,e10⟩,e11⟩,e12,e13,e14,e15⟩:=h
 exact⟨e4,e6,e8,by omega⟩
theorem Vd.read{a:At}{r u:List SV}(h:Vd a r u)(lr:r.length<=40)(lu:u.length<=40):rdQ (fT a (nbs r) (nbs u)) (fT a (nbs r) (nbs u)).length=(0,0,uU a r u):=by
 rw[Jj h.va h.gr h.gu h.kr h.ku lr lu (fun h0=>Be (h.z h0))]
 by_cases hp:0 < r.length
 . rw[if_pos hp]
 . have h0:r=[]:=List.length_eq_zero_iff.1 (by omega)
   subst h0
   rw[if_neg hp,ry (h.z rfl)]
theorem dV:byl []:=fun v hv=>by cases hv
theorem jb{n:Int}{l:List SV}(h0:0<=n)(h1:n<=255)(h:byl l):byl (.int .u8 n :: l):=fun v hv=>by
 rcases List.mem_cons.1 hv with rfl | hv
 . exact⟨n,rfl,h0,h1⟩
 . exact h v hv
theorem sB(l:List SV):∀ (k:Nat) (i:Int),byl (wds k l i)
 | 0,_=>dV
 | k+1,i=>bd (byl.be _ _) (sB l k (i+1))
theorem tR{l:List SV}(h:shb l):∀ (k:Nat) (i:Int),0<=i->i+k<=l.length->byl (gp k l i)
 | 0,_,_,_=>dV
 | k+1,i,h0,h1=>by
  have hm:=h _ (getD_mem (show i.toNat < l.length by omega))
  refine bd ?_ (tR h k (i+1) (by omega) (by omega))
  intro v hv
  simp only[cmB,List.mem_cons,List.not_mem_nil,or_false]at hv
  rcases hv with rfl | rfl | rfl | rfl | rfl | rfl | rfl | rfl
  all_goals (obtain⟨n,h1,h2⟩:=hm _;exact⟨_,rfl,by rw[h1];exact h2⟩)
theorem sC(n:Int):0<=IntKind.u8.wrap n/\IntKind.u8.wrap n<=255:=by
 simp[IntKind.wrap,IntKind.bits,IntKind.signed];omega
theorem EG{f c:Int}{v:List SV}(hf:0<=f/\f<=255)(hc:0<=c/\c<=255)(h:byl v):byl (atB f c v):=by
 unfold atB
 cases decide ((v.length:Int) > 255)with
 | true=>exact bd (bd (jb (sC _).1 (sC _).2 (jb hc.1 hc.2 dV)) (byl.be _ _)) h
 | false=>exact bd (jb hf.1 hf.2 (jb hc.1 hc.2 (jb (sC _).1 (sC _).2 dV))) h
theorem xV:∀ r,r<=9->(0<=cp r/\cp r<=255)/\0<=aV r/\aV r<=255:=by decide
theorem Bf{a:At}(hm:shb a.cm){R U:List SV}(hR:byl R)(hU:byl U):∀ r,byl (bn r a R U)
 | 0=>byl.be _ _
 | 1=>by
  show byl (cL a)
  unfold cL
  cases decide ((a.path.length:Int) > 0)with
  | true=>exact bd (bd (byl.be _ _) (byl.be _ _)) (sB _ _ _)
  | false=>exact dV
 | 2=>byl.be _ _
 | 3=>byl.be _ _
 | 4=>byl.be _ _
 | 5=>sB _ _ _
 | 6=>bd (bd (bd (bd (bd dV (byl.be _ _)) (byl.be _ _)) (byl.be _ _)) (byl.be _ _)) hR
 | 7=>bd (bd dV (byl.be _ _)) hU
 | 8=>tR hm _ _ (by omega) (by omega)
 | r+9=>by
  show byl (mP a)
  have ht:byl (gR a):=bd (bd (bd (bd dV (byl.be _ _)) (byl.be _ _)) (byl.be _ _)) (byl.be _ _)
  unfold mP
  cases a.tk==3 with
  | true=>exact bd ht (byl.be _ _)
  | false=>exact ht
theorem Bg{a:At}(hm:shb a.cm){R U:List SV}(hR:byl R)(hU:byl U){r:Nat}(hr:r<=9):byl (cX r a R U):=by
 unfold cX
 cases wrB r a R U with
 | true=>exact EG (xV r hr).1 (xV r hr).2 (Bf hm hR hU r)
 | false=>exact dV
theorem xW{l:List SV}(hg:gG l):byl (nbs l):=nq hg l.length 0 (by omega) (by omega)
theorem Vd.byl{a:At}{r u:List SV}(h:Vd a r u):byl (fT a (nbs r) (nbs u)):=by
 have hp:∀ k,k<=9->Go.Proofs.YtnlmhpancboddaaGreat.byl (cX k a (nbs r) (nbs u)):=fun k hk=>Bg h.mb (xW h.gr) (xW h.gu) hk
 unfold fT
 exact bd (bd (bd (bd (bd (bd (bd (bd (bd (bd dV (hp 0 (by omega))) (hp 1 (by omega))) (hp 2 (by omega))) (hp 3 (by omega))) (hp 4 (by omega))) (hp 5 (by omega))) (hp 6 (by omega))) (hp 7 (by omega))) (hp 8 (by omega))) (hp 9 (by omega))
abbrev ky(n:Int):Int:=IntKind.u64.wrap n
def oWA(n:Int)(k:Nat)(lim:Int)(K:Nat->List SV->CTree):CTree:=bif decide (0<=n/\n < 256 ^ k/\(k:Int)<=lim/\lim<=65536)then K k (be n k)else .fail
def oWB(m:Nat)(es:List SV)(n:Int)(k:Nat)(lim:Int)(K:Nat->List SV->CTree):CTree:=bif decide (m=es.length/\0<=n/\n < 256 ^ k/\((es.length+k:Nat):Int)<=lim/\lim<=65536)then K (es.length+k) (es++be n k)else .fail
def oWO(m:Nat)(es:List SV)(K:Nat->List SV->CTree):CTree:=bif decide (m=es.length/\es.length<=65536)then K es.length es else .fail
noncomputable abbrev κcw:=tbl [(26,dA 2),(41,dA 4),(27,dA 1),(24,gy),(28,kz)]
theorem Lc:KOk Tryz.prog κcw:=ac ya (ac Bp (ac EL (ac oC (ac rA ok0))))
def orI(k:IntKind)(a b:Int):Int:=k.wrap (BitVec.ofInt k.bits a||| BitVec.ofInt k.bits b).toNat
def rsN(s:Cs):Int:=bif s.rsd then orI .u64 (ky s.rst) 32768 else ky s.rst
def Hc(s:Cs)(m:Nat)(es:List SV):CTree:=oWB m es 16644 2 255 fun m es=>oWB m es (ky s.asn) 4 255 fun m es=>oWO m es fun n xs=>.ret (.qs 0 1 0 n) [(0,some (.seq 5 xs))]
def Hd(s:Cs)(n:Int)(m:Nat)(es:List SV):CTree:=oWB m es 16390 2 255 fun m es=>oWB m es n 2 255 fun m es=>oWB m es 1656448 4 255 fun m es=>Hc s m es
theorem Ld(s:Cs):opn κcw Tryz.f40 [.agg (oV s)] []=
 oWA 260 2 255 fun m es=>oWB m es 1638470 4 255 fun m es=>oWB m es 512 2 255 fun m es=>
  bif(bif s.rst !=0 then true else s.rsd)then(bif s.rsd then Hd s (orI .u64 (ky s.rst) 32768) m es else Hd s (ky s.rst) m es)else Hc s m es:=by kernel_rfl
end Go.Proofs.YtnlmhpancboddaaGreat
