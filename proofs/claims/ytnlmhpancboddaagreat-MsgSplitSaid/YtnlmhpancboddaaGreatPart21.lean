/- Messages are the same. -/
import Derived.Test.YtnlmhpancboddaaGreatPart20
import Derived.Test.YtnlmhpancboddaaGreatPart18
import Derived.Test.YtnlmhpancboddaaGreatPart17
import Derived.Test.YtnlmhpancboddaaGreatPart16
set_option linter.unusedVariables false
set_option linter.unusedSimpArgs false
namespace Go.Proofs.YtnlmhpancboddaaGreat
open Go.Am
set_option maxRecDepth 100000
def ci(x:SV)(j:Nat):Int:=asI(cellAt x j)
def cb(x:SV)(j:Nat):Bool:=asB(cellAt x j)
def cl(x:SV)(j:Nat):List SV:=asL(cellAt x j)
def mgOf(x:SV):Mg:=⟨ci x 0,⟨false,false,false,ci x 1,ci x 2,ci x 3,ci x 4,cb x 5⟩,ci x 6,ci x 7,⟨ci x 8,ci x 10,ci x 12,ci x 14,ci x 16,ci x 19,ci x 20,ci x 21,ci x 22,cb x 11,cb x 13,cb x 15,cl x 9,cl x 17,cl x 18,cl x 23,cl x 24⟩⟩
noncomputable abbrev κsm:=tbl [(36,sameA_s),(37,same12_s)]
theorem smOk:KOk Tryz.prog κsm:=tbl_cons sameA_k(tbl_cons same12_k ok0)
noncomputable def smT(m:Mg):CTree:=
 bif m.k==m.k then bif(m.s.asn==m.s.asn&&(m.s.hold==m.s.hold&&(m.s.id==m.s.id&&(m.s.rst==m.s.rst&&m.s.rsd==m.s.rsd))))then bif m.code==m.code then bif m.sub==m.sub then
  bif dec(aD m.d=aD m.d/\aD m.d=aD{m.d with rch:=[],unr:=[]}/\m.d.path.length<=100000/\m.d.cl.length<=100000/\m.d.cm.length<=100000)then bif dec(m.d.rch=m.d.rch/\m.d.rch.length<=100000)then bif dec(m.d.unr=m.d.unr/\m.d.unr.length<=100000)then .ret(.bool true) []else .fail else .fail else .fail
 else zsF else zsF else zsF else zsF
theorem smm_t(m:Mg):opn κsm Tryz.f20 [mgV m,mgV m] []=smT m:=by kernel_rfl
def mgP:SV->Option Mg
 | .agg [.int .i64 k,.int .u32 asn,.int .i64 hold,.int .u32 id,.int .i64 rst,.bool rsd,.int .i64 code,.int .i64 sub,.int .i64 ori,.psl 36 p,.int .u32 nx,.bool hm,.int .u32 med,.bool hp,.int .u32 prf,.bool ho,.int .u32 orr,.psl 37 c,.psl 136 m,.int .i64 tk,.int .u32 tl,.int .u32 tr,.int .u32 tg,.psl 88 r,.psl 88 u]=>
  some⟨k,⟨false,false,false,asn,hold,id,rst,rsd⟩,code,sub,⟨ori,nx,med,prf,orr,tk,tl,tr,tg,hm,hp,ho,p,c,m,r,u⟩⟩
 | _=>none
def smallG(d:Ds):Prop:=d.path.length<=100000/\d.cl.length<=100000/\d.cm.length<=100000/\d.rch.length<=100000/\d.unr.length<=100000
noncomputable def sameM_s:CSumm:=fun args H=>match args,H with
 | [x,y],[]=>match mgP x with
  | some m=>.ite(dec(x=mgV m/\y=mgV m/\smallG m.d))(.ret(.bool true) []) .fail
  | none=>.fail
 | _,_=>.fail
theorem sameM_k:Known Tryz.prog 20 sameM_s:=(openKnown smOk Tryz.func20 rfl).weak(by
 intro args H v ups h
 unfold sameM_s at h
 split at h
 . rename_i x y
   split at h
   . rename_i m hm
     rw[crun_ite]at h
     cases hc:dec(x=mgV m/\y=mgV m/\smallG m.d)with
     | false=>rw[hc]at h;cases h
     | true=>
      rw[hc,cT]at h
      obtain⟨rfl,rfl,h1,h2,h3,h4,h5⟩:=dec_iff.1 hc
      refine(congrArg crun(smm_t m)).trans ?_
      unfold smT
      rw[dec_iff.2⟨rfl,rfl,h1,h2,h3⟩,dec_iff.2⟨rfl,h4⟩,dec_iff.2⟨rfl,h5⟩]
      simp only[beq_self_eq_true,Bool.and_self,cT]
      exact h
   . cases h
 . cases h)
noncomputable def body11:Code:=Tryz.f11.body.getD .skip
noncomputable def c11:Code:=(loopAt 4 body11).getD .skip
def smOkL(n:Nat)(xs:List SV)(i:Int):Prop:=n=xs.length/\n<=2000000/\0<=i/\∀ x ∈ xs,smallG(mgOf x).d
noncomputable def sml_s:CSumm:=fun args H=>match args,H with
 | [.qs 0 25 0 n,.psl 52 ys,.int .i64 i],[(0,.seq 52 xs)]=>.ite(dec(ys=xs/\smOkL n xs i))(.ret(.tup [.int .i64 2,.junk]) []) .fail
 | [.psl 52 ys,.qs 0 25 0 n,.int .i64 i],[(0,.seq 52 xs)]=>.ite(dec(ys=xs/\smOkL n xs i))(.ret(.tup [.int .i64 2,.junk]) []) .fail
 | [.psl 52 xs,.psl 52 ys,.int .i64 i],[]=>.ite(dec(ys=xs/\smOkL xs.length xs i))(.ret(.tup [.int .i64 2,.junk]) []) .fail
 | _,_=>.fail
def smlM:List SV->HpL->Nat
 | [.qs _ _ _ n,_,.int _ i],_=>n - i.toNat
 | [.psl _ xs,_,.int _ i],_=>xs.length - i.toNat
 | _,_=>0
noncomputable def e11:LEnt:={ins:=[0,1,5],outs:=[4],keep:=[],size:=27,code:=c11,s:=sml_s}
noncomputable abbrev κml:=openT Tryz.prog(tbl [(20,sameM_s)])300 5
noncomputable abbrev ιml:Nat->Bool:=fun g=>inl(tbl [(20,sameM_s)])g&&hasBody Tryz.prog g
theorem mlOk:KOk Tryz.prog κml:=openT_ok noNumTry mixTry(tbl_cons sameM_k ok0)300 5
noncomputable def smlN(N n:Nat)(xs ys:List SV)(i:Int):CTree:=bif Nat.blt(n - i.toNat)N then bif dec(ys=xs/\smOkL n xs i)then .ret(.tup [.int .i64 2,.junk]) []else .fail else .fail
noncomputable def smlC(x:SV)(K:CTree):CTree:=bif dec(mgV(mgOf x)=mgV(mgOf x)/\mgV(mgOf x)=mgV(mgOf x)/\smallG(mgOf x).d)then K else .fail
theorem sml_a(N n:Nat)(xs:List SV)(i:Int):loopOnce Tryz.prog κml ιml(ltab [])true 300 e11{e11 with s:=boundT smlM sml_s N}c11 [.qs 0 25 0 n,.psl 52 xs,.int .i64 i] [(0,.seq 52 xs)]=
 bif decide(i < n)then bif inB i n then bif decide(0+i.toNat < xs.length)then bif inB i xs.length then bif dec(mgV(mgOf(xs.getD(0+i.toNat) .junk))=mgV(mgOf(xs.getD(0+i.toNat) .junk))/\mgV(mgOf(xs.getD i.toNat .junk))=mgV(mgOf(xs.getD(0+i.toNat) .junk))/\smallG(mgOf(xs.getD(0+i.toNat) .junk)).d)then smlN N n xs xs(w64(i+1))else .fail else .fail else .fail else .fail
 else .ret(.tup [.int .i64 2,.junk]) []:=by kernel_rfl
theorem sml_b(N n:Nat)(xs:List SV)(i:Int):loopOnce Tryz.prog κml ιml(ltab [])true 300 e11{e11 with s:=boundT smlM sml_s N}c11 [.psl 52 xs,.qs 0 25 0 n,.int .i64 i] [(0,.seq 52 xs)]=
 bif decide(i < xs.length)then bif inB i xs.length then bif inB i n then bif decide(0+i.toNat < xs.length)then bif dec(mgV(mgOf(xs.getD i.toNat .junk))=mgV(mgOf(xs.getD i.toNat .junk))/\mgV(mgOf(xs.getD(0+i.toNat) .junk))=mgV(mgOf(xs.getD i.toNat .junk))/\smallG(mgOf(xs.getD i.toNat .junk)).d)then
  (bif Nat.blt(xs.length - (w64(i+1)).toNat)N then bif dec(xs=xs/\smOkL n xs(w64(i+1)))then .ret(.tup [.int .i64 2,.junk]) []else .fail else .fail)else .fail else .fail else .fail else .fail
 else .ret(.tup [.int .i64 2,.junk]) []:=by kernel_rfl
theorem sml_c(N:Nat)(xs:List SV)(i:Int):loopOnce Tryz.prog κml ιml(ltab [])true 300 e11{e11 with s:=boundT smlM sml_s N}c11 [.psl 52 xs,.psl 52 xs,.int .i64 i] []=
 bif decide(i < xs.length)then bif inB i xs.length then bif inB i xs.length then smlC(xs.getD i.toNat .junk)(smlN N xs.length xs xs(w64(i+1)))else .fail else .fail
 else .ret(.tup [.int .i64 2,.junk]) []:=by kernel_rfl
theorem mem_getD{l:List SV}{j:Nat}(h:j < l.length):l.getD j .junk ∈ l:=by
 rw[gD0,List.getElem?_eq_getElem h];exact List.getElem_mem h
theorem sml_valid:ValidL Tryz.prog e11:=loop_valid2(κ:=κml)(ι:=ιml)(T:=ltab [])(sp:=true)(fuel:=300)(c:=c11)(μ:=smlM)mlOk mixTry ltab_nil(show fillC(ltab [])c11=c11 by kernel_rfl)(by
 intro N args H v' ups' hbt h
 unfold e11 sml_s at h
 simp only[]at h
 split at h
 . rename_i n ys i xs
   rw[crun_ite]at h
   cases hc:dec(ys=xs/\smOkL n xs i)with
   | false=>rw[hc]at h;cases h
   | true=>
    rw[hc,cT]at h
    obtain⟨rfl,rfl,h1,h0,hs⟩:=dec_iff.1 hc
    have ht:=sml_a N ys.length ys i
    have hN:Nat.blt(ys.length - i.toNat)(N+1)=true:=hbt
    rw[bL]at hN
    by_cases hi:i < ys.length
    . unfold smlN at ht
      rw[dT0 hi,cT,inB_ok h0 hi,Nat.zero_add,dT0(show i.toNat < ys.length by omega),dec_iff.2⟨rfl,rfl,hs _(mem_getD(show i.toNat < ys.length by omega))⟩,show w64(i+1)=i+1 from w64_id(by omega)(by omega),show Nat.blt(ys.length - (i+1).toNat)N=true by rw[bL];omega,dec_iff.2⟨rfl,rfl,h1,by omega,hs⟩]at ht
      exact .inl⟨_,(congrArg crun ht).trans h,fun x=>rfl⟩
    . rw[dF hi,cF]at ht
      exact .inl⟨_,(congrArg crun ht).trans h,fun x=>rfl⟩
 . rename_i ys n i xs
   rw[crun_ite]at h
   cases hc:dec(ys=xs/\smOkL n xs i)with
   | false=>rw[hc]at h;cases h
   | true=>
    rw[hc,cT]at h
    obtain⟨rfl,rfl,h1,h0,hs⟩:=dec_iff.1 hc
    have ht:=sml_b N ys.length ys i
    have hN:Nat.blt(ys.length - i.toNat)(N+1)=true:=hbt
    rw[bL]at hN
    by_cases hi:i < ys.length
    . rw[dT0 hi,cT,inB_ok h0 hi,Nat.zero_add,dT0(show i.toNat < ys.length by omega),dec_iff.2⟨rfl,rfl,hs _(mem_getD(show i.toNat < ys.length by omega))⟩,show w64(i+1)=i+1 from w64_id(by omega)(by omega),show Nat.blt(ys.length - (i+1).toNat)N=true by rw[bL];omega,dec_iff.2⟨rfl,rfl,h1,by omega,hs⟩]at ht
      exact .inl⟨_,(congrArg crun ht).trans h,fun x=>rfl⟩
    . rw[dF hi,cF]at ht
      exact .inl⟨_,(congrArg crun ht).trans h,fun x=>rfl⟩
 . rename_i xs ys i
   rw[crun_ite]at h
   cases hc:dec(ys=xs/\smOkL xs.length xs i)with
   | false=>rw[hc]at h;cases h
   | true=>
    rw[hc,cT]at h
    obtain⟨rfl,-,h1,h0,hs⟩:=dec_iff.1 hc
    have ht:=sml_c N ys i
    have hN:Nat.blt(ys.length - i.toNat)(N+1)=true:=hbt
    rw[bL]at hN
    by_cases hi:i < ys.length
    . unfold smlC smlN at ht
      rw[dT0 hi,cT,inB_ok h0 hi,dec_iff.2⟨rfl,rfl,hs _(mem_getD(show i.toNat < ys.length by omega))⟩,show w64(i+1)=i+1 from w64_id(by omega)(by omega),show Nat.blt(ys.length - (i+1).toNat)N=true by rw[bL];omega,dec_iff.2⟨rfl,rfl,h1,by omega,hs⟩]at ht
      exact .inl⟨_,(congrArg crun ht).trans h,fun x=>rfl⟩
    . rw[dF hi,cF]at ht
      exact .inl⟨_,(congrArg crun ht).trans h,fun x=>rfl⟩
 . cases h)
noncomputable def sames_b:CSumm:=bodyCL Tryz.prog κml ιml(ltab [("s",e11)])true 300 Tryz.f11(markC [(4, "s")]body11)
theorem sames_k0:Known Tryz.prog 11 sames_b:=⟨⟨Tryz.f11,Tryz.func11,noNum_at noNumTry Tryz.func11,rfl⟩,bodyL_valid mlOk mixTry(ltab_cons sml_valid ltab_nil)Tryz.func11(show Tryz.f11.body=some(fillC(ltab [("s",e11)])(markC [(4, "s")]body11))by kernel_rfl)⟩
noncomputable def smlT(b:Bool)(n:Nat)(xs:List SV):CTree:=bif b then .ret(.bool false) []else bif dec(xs=xs/\smOkL n xs 0)then .ret(.bool true) []else .fail
theorem sames_ta(n:Nat)(xs:List SV):sames_b [.qs 0 25 0 n,.psl 52 xs] [(0,.seq 52 xs)]=smlT((n:Int)!=(xs.length:Int))n xs:=by kernel_rfl
theorem sames_tb(n:Nat)(xs:List SV):sames_b [.psl 52 xs,.qs 0 25 0 n] [(0,.seq 52 xs)]=smlT((xs.length:Int)!=(n:Int))n xs:=by kernel_rfl
theorem sames_tc(xs:List SV):sames_b [.psl 52 xs,.psl 52 xs] []=smlT((xs.length:Int)!=(xs.length:Int))xs.length xs:=by kernel_rfl
def smOkA(xs:List SV):Prop:=xs.length<=2000000/\∀ x ∈ xs,smallG(mgOf x).d
noncomputable def sames_s:CSumm:=fun args H=>match args,H with
 | [.qs 0 25 0 n,.psl 52 ys],[(0,.seq 52 xs)]=>.ite(dec(ys=xs/\n=xs.length/\smOkA xs))(.ret(.bool true) []) .fail
 | [.psl 52 ys,.qs 0 25 0 n],[(0,.seq 52 xs)]=>.ite(dec(ys=xs/\n=xs.length/\smOkA xs))(.ret(.bool true) []) .fail
 | [.psl 52 xs,.psl 52 ys],[]=>.ite(dec(ys=xs/\smOkA xs))(.ret(.bool true) []) .fail
 | _,_=>.fail
theorem sames_k:Known Tryz.prog 11 sames_s:=sames_k0.weak(by
 intro args H v ups h
 have ne:∀ k:Nat,((k:Int)!=(k:Int))=false:=fun k=>by simp
 unfold sames_s at h
 split at h
 . rename_i n ys xs
   rw[crun_ite]at h
   cases hc:dec(ys=xs/\n=xs.length/\smOkA xs)with
   | false=>rw[hc]at h;cases h
   | true=>
    rw[hc,cT]at h
    obtain⟨rfl,rfl,h1,h2⟩:=dec_iff.1 hc
    refine(congrArg crun(sames_ta ys.length ys)).trans ?_
    unfold smlT
    rw[ne,dec_iff.2⟨rfl,rfl,h1,by omega,h2⟩]
    exact h
 . rename_i ys n xs
   rw[crun_ite]at h
   cases hc:dec(ys=xs/\n=xs.length/\smOkA xs)with
   | false=>rw[hc]at h;cases h
   | true=>
    rw[hc,cT]at h
    obtain⟨rfl,rfl,h1,h2⟩:=dec_iff.1 hc
    refine(congrArg crun(sames_tb ys.length ys)).trans ?_
    unfold smlT
    rw[ne,dec_iff.2⟨rfl,rfl,h1,by omega,h2⟩]
    exact h
 . rename_i xs ys
   rw[crun_ite]at h
   cases hc:dec(ys=xs/\smOkA xs)with
   | false=>rw[hc]at h;cases h
   | true=>
    rw[hc,cT]at h
    obtain⟨rfl,h1,h2⟩:=dec_iff.1 hc
    refine(congrArg crun(sames_tc ys)).trans ?_
    unfold smlT
    rw[ne,dec_iff.2⟨rfl,rfl,h1,by omega,h2⟩]
    exact h
 . cases h)
theorem pcs_most:∀ (f:Nat)(p:List SV)(a:Int)(rs:List SV),rs.length<=4096->(pcs f p a rs).2.2.length<=4096
 | 0,_,_,_,h=>h
 | f+1,p,a,rs,h=>by
  unfold pcs
  split
  . exact h
  . split
    . exact h
    . split
      . exact h
      . exact pcs_most f _ _ _(by rw[lA0,lS];omega)
theorem rdL_most(p:List SV):(rdL p).length<=4096:=by
 unfold rdL
 split
 . exact pcs_most _ _ _ _(by simp)
 . simp
def smallD(d:Ds):Prop:=d.path.length<=100000/\d.cl.length<=100000/\d.cm.length<=100000/\d.rch.length<=100000/\d.unr.length<=100000
theorem gD_small{g:Int}(hk:knC g=true){v:List SV}(hv:v.length<=100000){d:Ds}(h:smallD d):smallD(gD g v d):=by
 obtain⟨h1,h2,h3,h4,h5⟩:=h
 rcases knC_of hk with rfl | rfl | rfl | rfl | rfl | rfl | rfl | rfl | rfl | rfl
 . exact⟨h1,h2,h3,h4,h5⟩
 . refine⟨?_,h2,h3,h4,h5⟩
   show(bif v.length==0 then([]:List SV)else wd v 2(elQ((v.length - 2:Nat):Int)4).toNat).length<=100000
   cases v.length==0 with
   | true=>simp
   | false=>
    have hq:elQ((v.length - 2:Nat):Int)4=(((v.length - 2) / 4:Nat):Int):=elQ_n _(by omega)4(by omega)
    rw[cF,wd_len,hq];omega
 . exact⟨h1,h2,h3,h4,h5⟩
 . exact⟨h1,h2,h3,h4,h5⟩
 . exact⟨h1,h2,h3,h4,h5⟩
 . refine⟨h1,?_,h3,h4,h5⟩
   show(wd v 0(v.length / 4)).length<=100000
   rw[wd_len];omega
 . exact⟨h1,h2,h3,Nat.le_trans(rdL_most _)(by omega),h5⟩
 . exact⟨h1,h2,h3,h4,Nat.le_trans(rdL_most _)(by omega)⟩
 . refine⟨h1,h2,?_,h4,h5⟩
   show(cw v 0(v.length / 8)).length<=100000
   rw[cw_len];omega
 . exact⟨h1,h2,h3,h4,h5⟩
theorem attL_small{σ:Type}{lk:σ->Int->Bool}{st:σ->Int->σ}{es:List SV}{n:Nat}(he:es.length<=100000):∀ (m a:Nat)(x:Int)(s:σ)(z:Dz),n - a<=m->smallD z.d->smallD(attL lk st es n a x s z).2.2.2.d
 | m,a,x,s,z,hm,hs=>by
  by_cases hlt:a < n
  . by_cases ho:okN es a n
    . have hE3:a+3<=vE es a:=by have:=hdN_ge(es:=es)(a:=a);unfold vE;omega
      obtain⟨m',rfl⟩:∃ m',m=m'+1:=⟨m - 1,by omega⟩
      cases hk:knC(cdOf es a)with
      | false=>
       cases hf:andI .u8(dg es a)128==0 with
       | true=>rw[attL_u17 hlt ho hk hf];exact hs
       | false=>rw[attL_unk hlt ho hk hf];exact attL_small he m' _ _ _ _(by omega)hs
      | true=>
       cases hf:fitC(cdOf es a)(dg es a)with
       | false=>rw[attL_fit hlt ho hk hf];exact hs
       | true=>
        cases hlk:lk s(cdOf es a)with
        | true=>rw[attL_dbl hlt ho hk hf hlk];exact hs
        | false=>
         cases hv:okC(cdOf es a)(vl es(vS es a)(vE es a))with
         | false=>rw[attL_bad hlt ho hk hf hlk hv];exact hs
         | true=>
          rw[attL_go hlt ho hk hf hlk hv]
          exact attL_small he m' _ _ _ _(by omega)(gD_small hk(by unfold vl sl;rw[List.length_take,List.length_drop];omega)hs)
    . rw[attL_cut hlt ho];exact hs
  . rw[attL_end hlt];exact hs
termination_by m=>m
theorem small0:smallD dI0:=⟨by decide,by decide,by decide,by decide,by decide⟩
theorem rdO_small{es:List SV}(he:es.length<=100000):smallD(rdQ es es.length).2.2:=by
 have h:=attL_small(lk:=lookB)(st:=stK)(n:=es.length)he es.length 0 0 []zI(by omega)small0
 unfold rdQ rdO
 change smallD(attK es es.length 0 0 []zI).2.2.2.d at h
 generalize attK es es.length 0 0 []zI=o at *
 cases o.1==0 with
 | false=>exact small0
 | true=>
  cases lookB o.2.2.1 14 with
  | false=>exact⟨Nat.zero_le _,Nat.zero_le _,Nat.zero_le _,Nat.zero_le _,h.2.2.2.2⟩
  | true=>cases(bif lookB o.2.2.1 1 then lookB o.2.2.1 2 else false)with
   | true=>exact h
   | false=>exact small0
def vsp(d:Nat)(es:List SV):List SV:=[.psl 5 es,.junk,.ptr 1 0,.ptr(2+d)0,.ptr(3+d)0,.ptr(4+d)0,.junk,.junk,.psl 5 es,.fn(.func 31) [] [.ptr(5+d)0,.ptr(6+d)0]]++List.replicate 17 .junk
noncomputable def lrp(d:Nat)(st:LS)(es:List SV):Chunk:=.loopr st(vsp d es)rng9.1 rng9.2.1 rng9.2.2
noncomputable def HP0(es:List SV)(a:Int):HpL:=[(0,lrp 0 .ready es),(1,.cells 25 [.nils]),(2,.cells 22 [.nils]),(3,.cells 28 [.int .i64 0,.int .i64 0]),(4,.cells 3 [.int .i64 a]),(5,.cells 22 [.psl 5 es]),(6,.cells 62 [.ptr 4 0])]
noncomputable def HP1(es:List SV)(a:Int)(m:Nat)(rs:List SV):HpL:=[(0,lrp 1 .ready es),(1,.cells 25 [.qs 2 25 0 m]),(2,.seq 52 rs),(3,.cells 22 [.nils]),(4,.cells 28 [.int .i64 0,.int .i64 0]),(5,.cells 3 [.int .i64 a]),(6,.cells 22 [.psl 5 es]),(7,.cells 62 [.ptr 5 0])]
def spOp(es:List SV)(a:Int)(rs:List SV):Prop:=byl es/\es.length<=1000000/\0<=a/\a<=es.length/\rs.length+(es.length - a.toNat)<=2000000
noncomputable def sp0p(es:List SV)(r:Int × Nat × List SV):CTree:=
 .ite(decide(r.2.2.length=0))
  (.ite(r.1==0)(.ret(.tup [.int .i64 1]) [])(.ret(.tup [.int .i64 1]) [(3,some(.cells 28 [.int .i64 r.1,.int .i64 r.2.1])),(0,some(lrp 0(.done .ret)es))]))
  (.ite(r.1==0)(.ret(.tup [.int .i64 1]) [(1,some(.cells 25 [.qs 7 25 0 r.2.2.length])),(4,some(.cells 3 [.int .i64 r.2.1])),(7,some(.seq 52 r.2.2))])
   (.ret(.tup [.int .i64 1]) [(1,some(.cells 25 [.qs 7 25 0 r.2.2.length])),(4,some(.cells 3 [.int .i64 r.2.1])),(3,some(.cells 28 [.int .i64 r.1,.int .i64 r.2.1])),(0,some(lrp 0(.done .ret)es)),(7,some(.seq 52 r.2.2))]))
noncomputable def sp1p(es:List SV)(r:Int × Nat × List SV):CTree:=
 .ite(r.1==0)(.ret(.tup [.int .i64 1]) [(1,some(.cells 25 [.qs 8 25 0 r.2.2.length])),(2,none),(5,some(.cells 3 [.int .i64 r.2.1])),(8,some(.seq 52 r.2.2))])
  (.ret(.tup [.int .i64 1]) [(1,some(.cells 25 [.qs 8 25 0 r.2.2.length])),(2,none),(5,some(.cells 3 [.int .i64 r.2.1])),(4,some(.cells 28 [.int .i64 r.1,.int .i64 r.2.1])),(0,some(lrp 1(.done .ret)es)),(8,some(.seq 52 r.2.2))])
def sOfp:HpL->Option(List SV × Int × Option(Nat × List SV))
 | [(0,_),(1,.cells 25 [.nils]),(2,_),(3,_),(4,.cells 3 [.int .i64 a]),(5,.cells 22 [.psl 5 es]),(6,_)]=>some(es,a,none)
 | [(0,_),(1,.cells 25 [.qs 2 25 0 m]),(2,.seq 52 rs),(3,_),(4,_),(5,.cells 3 [.int .i64 a]),(6,.cells 22 [.psl 5 es]),(7,_)]=>some(es,a,some(m,rs))
 | _=>none
noncomputable def spp_s:CSumm:=fun args H=>match args with
 | [.yl 0,.ptr b 0,.ptr c 0]=>match sOfp H with
  | some(es,a,none)=>.ite(dec(b=5/\c=6/\H=HP0 es a/\spOp es a []))(sp0p es(spL es a.toNat [])) .fail
  | some(es,a,some(m,rs))=>.ite(dec(b=6/\c=7/\H=HP1 es a m rs/\m=rs.length/\spOp es a rs))(sp1p es(spL es a.toNat rs)) .fail
  | none=>.fail
 | _=>.fail
def sppM:List SV->HpL->Nat
 | _,H=>match sOfp H with
  | some(es,a,_)=>es.length - a.toNat
  | none=>0
noncomputable def e31p:LEnt:={ins:=[0,1,2],outs:=[],keep:=[],size:=58,code:=c31,s:=spp_s}
/- A round. -/
noncomputable def hdCp(es:List SV)(a:Int)(K:List SV->Int × Int->CTree):CTree:=slI es a es.length fun p=>bylC p(K p(hdP p))
noncomputable def rdCp(p:List SV)(sz:Int)(K:Mg × Int->CTree):CTree:=bif inB 18 p.length then slI p 19 sz fun q=>bylC q(K(rdP(w64(dg p 18))q))else .fail
noncomputable def badRp(d:Nat)(es:List SV)(e a:Int)(L:SV)(K:CTree):CTree:=bif e!=0 then .ret(.tup [.int .i64 1]) [(3+d,some(.cells 28 [.int .i64 e,.int .i64 a])),(2+d,some(.cells 22 [.nils])),(1,some(.cells 25 [L])),(0,some(lrp d(.done .ret)es))]else K
noncomputable def odd0p(es:List SV):CTree:=.ret(.tup [.int .i64 1]) [(1,some(.cells 25 [.qs 7 25 0 1])),(0,some(lrp 0 .ready es)),(7,some(.seq 52 [mgV mg0]))]
noncomputable def spT0p(N:Nat)(es:List SV)(a:Int)(rs:List SV):CTree:=
 bif Nat.blt(es.length - a.toNat)N then bif dec(6=6/\7=7/\HP1 es a 1 rs=HP1 es a 1 rs/\1=rs.length/\spOp es a rs)then
  (fun r:Int × Nat × List SV=>bif r.1==0 then .ret(.tup [.int .i64 1]) [(1,some(.cells 25 [.qs 7 25 0 r.2.2.length])),(0,some(lrp 0 .ready es)),(4,some(.cells 3 [.int .i64 r.2.1])),(7,some(.seq 52 r.2.2))]
   else .ret(.tup [.int .i64 1]) [(3,some(.cells 28 [.int .i64 r.1,.int .i64 r.2.1])),(1,some(.cells 25 [.qs 7 25 0 r.2.2.length])),(0,some(lrp 0(.done .ret)es)),(4,some(.cells 3 [.int .i64 r.2.1])),(7,some(.seq 52 r.2.2))])(spL es a.toNat rs)else .fail else .fail
theorem spp_t0(N:Nat)(es:List SV)(a:Int):loopOnce Tryz.prog κsp ιsp(ltab [])true 300 e31p{e31p with s:=boundT sppM spp_s N}c31 [.yl 0,.ptr 5 0,.ptr 6 0] (HP0 es a)=
 hdCp es a fun p h=>bif(bif h.2==0 then h.1==0 else false)then .ret(.tup [.int .i64 1]) []else
  bif h.2==0 then rdCp p h.1 fun q=>bif q.2!=0 then badRp 0 es q.2 a .nils(odd0p es)else spT0p N es(w64(a+h.1)) [mgV q.1]
  else bif h.2!=0 then badRp 0 es h.2 a .nils(odd0p es)else spT0p N es(w64(a+h.1)) [mgV mg0]:=by kernel_rfl
noncomputable def odd1p(es:List SV)(m:Nat)(rs:List SV):CTree:=gr9 m rs(.ret(.tup [.int .i64 1]) [(1,some(.cells 25 [.qs 8 25 0(rs.length+1)])),(2,none),(0,some(lrp 1 .ready es)),(8,some(.seq 52(rs++[mgV mg0])))])
noncomputable def spT1p(N:Nat)(es:List SV)(a:Int)(m:Nat)(rs:List SV)(x:SV):CTree:=gr9 m rs(
 bif Nat.blt(es.length - a.toNat)N then bif dec(6=6/\7=7/\HP1 es a(rs.length+1)(rs++[x])=HP1 es a(rs.length+1)(rs++[x])/\rs.length+1=(rs++[x]).length/\spOp es a(rs++[x]))then
  (fun r:Int × Nat × List SV=>bif r.1==0 then .ret(.tup [.int .i64 1]) [(1,some(.cells 25 [.qs 8 25 0 r.2.2.length])),(2,none),(0,some(lrp 1 .ready es)),(5,some(.cells 3 [.int .i64 r.2.1])),(8,some(.seq 52 r.2.2))]
   else .ret(.tup [.int .i64 1]) [(4,some(.cells 28 [.int .i64 r.1,.int .i64 r.2.1])),(1,some(.cells 25 [.qs 8 25 0 r.2.2.length])),(2,none),(0,some(lrp 1(.done .ret)es)),(5,some(.cells 3 [.int .i64 r.2.1])),(8,some(.seq 52 r.2.2))])(spL es a.toNat(rs++[x]))else .fail else .fail)
theorem spp_t1(N m:Nat)(es rs:List SV)(a:Int):loopOnce Tryz.prog κsp ιsp(ltab [])true 300 e31p{e31p with s:=boundT sppM spp_s N}c31 [.yl 0,.ptr 6 0,.ptr 7 0] (HP1 es a m rs)=
 hdCp es a fun p h=>bif(bif h.2==0 then h.1==0 else false)then .ret(.tup [.int .i64 1]) []else
  bif h.2==0 then rdCp p h.1 fun q=>bif q.2!=0 then badRp 1 es q.2 a(.qs 2 25 0 m)(odd1p es m rs)else spT1p N es(w64(a+h.1))m rs(mgV q.1)
  else bif h.2!=0 then badRp 1 es h.2 a(.qs 2 25 0 m)(odd1p es m rs)else spT1p N es(w64(a+h.1))m rs(mgV mg0):=by kernel_rfl
theorem hdCp_ok{es:List SV}{a:Int}(hb:byl es)(hl:es.length<=1000000)(h0:0<=a)(h1:a<=es.length)(K:List SV->Int × Int->CTree):hdCp es a K=K(es.drop a.toNat)(hdP(es.drop a.toNat)):=by
 unfold hdCp
 rw[slI_ok(a:=a)(b:=(es.length:Int))(i:=a.toNat)(j:=es.length)(by omega)rfl(by omega)(Nat.le_refl _),sl_end,bylC_ok(byl_dr hb _)(by rw[List.length_drop];omega)]
theorem rdCp_ok{p:List SV}{sz:Int}(hb:byl p)(hl:p.length<=1000000)(s1:19<=sz)(s2:sz<=p.length)(K:Mg × Int->CTree):rdCp p sz K=K(rdP(dg p 18)(sl p 19(sz.toNat - 19))):=by
 obtain⟨r1,r2⟩:=hb.ok 18
 unfold rdCp
 rw[inB_ok(by omega)(by omega),cT,slI_ok(a:=19)(b:=sz)(i:=19)(j:=sz.toNat)rfl(by omega)(by omega)(by omega),bylC_ok(hb.sl _ _)(by rw[sl_len(by omega)];omega),show w64(dg p 18)=dg p 18 from w64_id(by omega)(by omega)]
end Go.Proofs.YtnlmhpancboddaaGreat
