/- The reference of messages: the capabilities in the parameters of an OPEN: a round. -/
import Derived.Test.YtnlmhpancboddaaGreatPart22
import Derived.Test.YtnlmhpancboddaaGreatPart21
import Derived.Test.YtnlmhpancboddaaGreatPart18
import Derived.Test.YtnlmhpancboddaaGreatPart16
set_option linter.unusedVariables false
set_option linter.unusedSimpArgs false
namespace Go.Proofs.YtnlmhpancboddaaGreat
open Go.Am
set_option maxRecDepth 100000
def cpF:Nat->List SV->Nat->List SV->Option (List SV)
 | 0,_,_,rs=>some rs
 | f+1,ps,i,rs=>bif ci (ps.getD i .junk) 0 !=2 then none else bif !(itL (cl (ps.getD i .junk) 1)).isSome then none else cpF f ps (i+1) (rs++(itL (cl (ps.getD i .junk) 1)).getD [])
noncomputable def Cx:Code:=Tryz.f53.body.getD .skip
noncomputable def c53:Code:=(bv 6 Cx).getD .skip
def FP(ps rs:List SV)(m:Nat)(i:Int):Prop:=m=rs.length/\0<=i/\i<=ps.length/\ps.length<=100000/\rs.length<=100000 * i/\∀ j,byl (cl (ps.getD j .junk) 1)/\(cl (ps.getD j .junk) 1).length<=100000
noncomputable def FQ:ag:=fun args H=>match args,H with
 | [.psl 126 ps,.qs 0 2 0 m,.int .i64 i],[(0,.seq 126 rs)]=>.ite (dec (FP ps rs m i)) (.ite (cpF (ps.length - i.toNat) ps i.toNat rs).isSome
   (.ret (.tup [.int .i64 2,.junk,.junk,.qs 1 2 0 ((cpF (ps.length - i.toNat) ps i.toNat rs).getD []).length]) [(0,none),(1,some (.seq 126 ((cpF (ps.length - i.toNat) ps i.toNat rs).getD [])))])
   (.ret (.tup [.int .i64 1,.nils,.bool false,.junk]) [(0,none)])) .fail
 | _,_=>.fail
noncomputable def e53:LEnt:={ins:=[4,6,7],outs:=[2,3,6],keep:=[],size:=46,code:=c53,s:=FQ}
noncomputable abbrev κcp:=bn Tryz.prog (tbl [(77,oc)]) 300 5
noncomputable abbrev ιcp:Nat->Bool:=fun g=>inl (tbl [(77,oc)]) g&&bB Tryz.prog g
theorem HE:KOk Tryz.prog κcp:=aL ak aq (af FL ok0) 300 5
noncomputable def cpN(N:Nat)(ps rs:List SV)(m:Nat)(i:Int):CTree:=
 bif Nat.blt (ps.length - i.toNat) N then bif dec (FP ps rs m i)then bif(cpF (ps.length - i.toNat) ps i.toNat rs).isSome then
  .ret (.tup [.int .i64 2,.junk,.junk,.qs 1 2 0 ((cpF (ps.length - i.toNat) ps i.toNat rs).getD []).length]) [(0,none),(1,some (.seq 126 ((cpF (ps.length - i.toNat) ps i.toNat rs).getD [])))]
  else .ret (.tup [.int .i64 1,.nils,.bool false,.junk]) [(0,none)]else .fail else .fail
theorem Ob(N:Nat)(ps rs:List SV)(m:Nat)(i:Int):av Tryz.prog κcp ιcp (aF []) true 300 e53 {e53 with s:=ay itM FQ N} c53 [.psl 126 ps,.qs 0 2 0 m,.int .i64 i] [(0,.seq 126 rs)]=
 bif decide (i < ps.length)then bif inB i ps.length then bif dec (byl (cl (ps.getD i.toNat .junk) 1)/\(cl (ps.getD i.toNat .junk) 1).length<=100000)then bif inB i ps.length then
  bif ci (ps.getD i.toNat .junk) 0 !=2 then .ret (.tup [.int .i64 1,.nils,.bool false,.qs 0 2 0 m]) []else bif !(itL (cl (ps.getD i.toNat .junk) 1)).isSome then .ret (.tup [.int .i64 1,.nils,.bool false,.qs 0 2 0 m]) []else
   bif decide (m=rs.length)then bif Fu (rs.length+((itL (cl (ps.getD i.toNat .junk) 1)).getD []).length)then cpN N ps (rs++(itL (cl (ps.getD i.toNat .junk) 1)).getD []) (rs.length+((itL (cl (ps.getD i.toNat .junk) 1)).getD []).length) (w64 (i+1))else .fail else .fail else .fail else .fail else .fail
 else .ret (.tup [.int .i64 2,.junk,.junk,.qs 0 2 0 m]) []:=by kernel_rfl
theorem FC{v:List SV}(hb:byl v)(hl:v.length<=100000):((itL v).getD []).length<=100000:=by
 cases h:itL v with
 | none=>simp
 | some xs=>have:=(pf hb h).2;rw[Option.getD_some];omega
theorem Cc      :aO     Tryz.prog e53:=fk          (T:=aF   []) (sp:=true) (fuel:=300) (c:=c53) (μ:=itM) aq     aE       (show aN    (aF   []) c53=c53 by kernel_rfl) (by
 intro N args H v' ups' hbt hr
 unfold e53 FQ at hr
 simp only[]at hr
 split at hr
 . rename_i ps m i rs
   rw[aa]at hr
   cases hc:dec (FP ps rs m i)with
   | false=>rw[hc]at hr;cases hr
   | true=>
    rw[hc,cT,aa]at hr
    obtain⟨rfl,i0,i1,hl,hrl,hv⟩:=dec_iff.1 hc
    have hN:Nat.blt (ps.length - i.toNat) (N+1)=true:=hbt
    rw[bL]at hN
    refine⟨κcp,ιcp,HE,?_⟩
    have ht:=Ob N ps rs rs.length i
    by_cases hi:i < ps.length
    . obtain⟨f,hf⟩:∃ f,ps.length - i.toNat=f+1:=⟨ps.length - i.toNat - 1,by omega⟩
      rw[hf]at hr
      unfold cpF at hr
      obtain⟨h1,h2⟩:=hv i.toNat
      have hq:=FC h1 h2
      rw[dT0 hi,cT,bJ i0 hi,cT,cT,dec_iff.2 ⟨h1,h2⟩,cT]at ht
      generalize cl (ps.getD i.toNat .junk) 1=w at *
      cases c1:ci (ps.getD i.toNat .junk) 0 !=2 with
      | true=>
       rw[c1,cT]at ht hr
       cases hr
       exact⟨_,_,congrArg ac ht,oJ⟩
      | false=>
       rw[c1,cF]at ht hr
       cases c2: !(itL w).isSome with
       | true=>
        rw[c2,cT]at ht hr
        cases hr
        exact⟨_,_,congrArg ac ht,oJ⟩
       | false=>
        rw[c2,cF]at ht hr
        generalize(itL w).getD []=l at *
        have hw:w64 (i+1)=i+1:=ai (by omega) (by omega)
        have t1:(i+1).toNat=i.toNat+1:=by omega
        rw[dT0 rfl,cT,EK (by omega),cT]at ht
        unfold cpN at ht
        rw[hw,t1,show Nat.blt (ps.length - (i.toNat+1)) N=true by rw[bL];omega,cT,dec_iff.2 ⟨by rw[lA0],by omega,by omega,hl,by rw[lA0];omega,hv⟩,cT,show ps.length - (i.toNat+1)=f by omega]at ht
        refine⟨v',ups',(congrArg ac ht).trans ?_,.same fun _=>rfl⟩
        rw[bt]
        exact hr
    . rw[dF hi,cF]at ht
      rw[show ps.length - i.toNat=0 by omega]at hr
      cases hr
      exact⟨_,_,congrArg ac ht,zG⟩
 . cases hr)
noncomputable def LG:LEnt:={e53 with s:=inS FJ FQ}
theorem LH:aO Tryz.prog LG:=oA Cc (fs:=FJ) ⟨fun h=>absurd h (by decide),trivial⟩
noncomputable abbrev T53:cu:=aF [("c",LG)]
noncomputable abbrev m53:Code:=bx [(6, "c")] Cx
noncomputable def xX:ag:=bE Tryz.prog κcp ιcp T53 true 300 Tryz.f53 m53
theorem Cd:Known Tryz.prog 53 xX:=⟨⟨Tryz.f53,Tryz.func53,bf ak Tryz.func53,rfl⟩,aS HE aq (ba LH aE) Tryz.func53 (show Tryz.f53.body=some (aN T53 m53)by kernel_rfl)⟩
def cpP(ps:List SV):Option (List SV):=cpF (ps.length - (0:Int).toNat) ps (0:Int).toNat []
def cpL(p:List SV):Option (List SV):=bif !(itL p).isSome then none else cpP ((itL p).getD [])
theorem FD(p:List SV):xX [.psl 5 p] []=bif dec (byl p/\p.length<=100000)then bif !(itL p).isSome then .ret (.tup [.nils,.bool false]) []else
 bif dec (FP ((itL p).getD []) [] 0 0)then bif(cpP ((itL p).getD [])).isSome then .ret (.tup [.qs 0 2 0 ((cpP ((itL p).getD [])).getD []).length,.bool true]) [(0,some (.seq 126 ((cpP ((itL p).getD [])).getD [])))]else .ret (.tup [.nils,.bool false]) []else .fail else .fail:=by kernel_rfl
noncomputable def ob:ag:=fun args H=>match args,H with
 | [.psl 5 p],[]=>.ite (dec (byl p/\p.length<=100000)) (.ret (.tup [.psl 126 ((cpL p).getD []),.bool (cpL p).isSome]) []) .fail
 | _,_=>.fail
theorem LI{c:Int}{v:List SV}:ci (itV c v) 0=c:=rfl
theorem LJ{c:Int}{v:List SV}:cl (itV c v) 1=v:=rfl
theorem mB{n:Nat}{xs:List SV}(h:∀ x ∈ xs,ItOk n x)(j:Nat):byl (cl (xs.getD j .junk) 1)/\(cl (xs.getD j .junk) 1).length<=n:=by
 by_cases hj:j < xs.length
 . have hm:xs.getD j .junk ∈ xs:=by rw[gD0,List.getElem?_eq_getElem hj,Option.getD_some];exact List.getElem_mem hj
   obtain⟨c,v,hx,h1,h2,_⟩:=(h _ hm).v
   rw[hx]
   exact⟨h1,h2⟩
 . rw[gD0,List.getElem?_eq_none (by omega),Option.getD_none]
   exact⟨fun v hv=>(by cases hv),Nat.zero_le _⟩
theorem FE     :Known Tryz.prog 53 ob     :=bd         Cd       (by
 intro args H v' ups' h
 unfold ob at h
 split at h
 . rename_i p
   rw[aa]at h
   cases hc:dec (byl p/\p.length<=100000)with
   | false=>rw[hc]at h;cases h
   | true=>
    rw[hc,cT]at h
    obtain⟨hb,hl⟩:=dec_iff.1 hc
    have ht:=FD p
    rw[hc,cT]at ht
    unfold cpL at h
    cases hi:itL p with
    | none=>
     rw[hi]at ht h
     cases h
     exact⟨_,_,congrArg ac ht,.inr ⟨.tup (.cons .nils .rfl'),fun x c' hx=>⟨c',hx,.rfl'⟩⟩⟩
    | some ps=>
     obtain⟨g1,g2⟩:=pf hb hi
     rw[hi,Option.isSome_some,Option.getD_some]at ht h
     simp only[Bool.not_true,cF]at ht h
     rw[dec_iff.2 ⟨rfl,Int.le_refl _,by omega,by omega,by simp,fun j=>⟨(mB g1 j).1,by have:=(mB g1 j).2;omega⟩⟩,cT]at ht
     cases hq:cpP ps with
     | none=>
      rw[hq]at ht h
      cases h
      exact⟨_,_,congrArg ac ht,.inr ⟨.tup (.cons .nils .rfl'),fun x c' hx=>⟨c',hx,.rfl'⟩⟩⟩
     | some rs=>
      rw[hq]at ht h
      cases h
      refine⟨_,_,congrArg ac ht,.inl ⟨0,126,rs,rfl,.tup (.cons (.qs rfl) .rfl'),fun x c' hx=> ?_⟩⟩
      simp[ad,HpL.get]at hx
 . cases h)
def zM:List SV:=.int .i64 0 :: oV cs0++(.int .i64 0 :: .int .i64 0 :: atZ)++[.nils,.nils]
def foF:Nat->List SV->Nat->Cs->Option Cs
 | 0,_,_,s=>some s
 | f+1,l,i,s=>bif(cQ (ci (l.getD i .junk) 0) (cl (l.getD i .junk) 1) s).1 then foF f l (i+1) (cQ (ci (l.getD i .junk) 0) (cl (l.getD i .junk) 1) s).2 else none
noncomputable def Cv:Code:=Tryz.f34.body.getD .skip
noncomputable def c34:Code:=(bv 11 Cv).getD .skip
def Cw(l:List SV)(i:Int):Prop:=0<=i/\i<=l.length/\l.length<=100000000000/\∀ j,byl (cl (l.getD j .junk) 1)/\(cl (l.getD j .junk) 1).length<=100000
def O3(ev nu rs:Bool):List SV->Cs
 | [.int .u32 asn,.int .i64 hold,.int .u32 id,.int .i64 rst,.bool rsd]=>⟨ev,nu,rs,asn,hold,id,rst,rsd⟩
 | _=>cs0
noncomputable def FO:ag:=fun args H=>match args,H with
 | [.ptr 0 0,.ptr 1 0,.psl 126 l,.bool ev,.bool nu,.bool rs,.int .i64 i],[(0,.cells 52 z),(1,.cells 39 [.int .u32 asn,.int .i64 hold,.int .u32 id,.int .i64 rst,.bool rsd])]=>.ite (dec (z=zM/\Cw l i)) (.ite (foF (l.length - i.toNat) l i.toNat ⟨ev,nu,rs,asn,hold,id,rst,rsd⟩).isSome
   (.ret (.tup [.int .i64 2,.ptr 0 0,.junk,.ptr 1 0,.bool ((foF (l.length - i.toNat) l i.toNat ⟨ev,nu,rs,asn,hold,id,rst,rsd⟩).getD cs0).ev,.bool ((foF (l.length - i.toNat) l i.toNat ⟨ev,nu,rs,asn,hold,id,rst,rsd⟩).getD cs0).nu]) [(1,some (.cells 39 (oV ((foF (l.length - i.toNat) l i.toNat ⟨ev,nu,rs,asn,hold,id,rst,rsd⟩).getD cs0))))])
   (.ret (.tup [.int .i64 1,.ptr 0 0,.int .i64 3,.junk,.junk,.junk]) [(1,none)])) .fail
 | _,_=>.fail
def foM:List SV->HpL->Nat
 | [_,_,.psl _ l,_,_,_,.int _ i],_=>l.length - i.toNat
 | _,_=>0
noncomputable def e34:LEnt:={ins:=[2,4,5,7,8,9,10],outs:=[2,3,4,7,8],keep:=[],size:=132,code:=c34,s:=FO}
noncomputable abbrev κfo:=bn Tryz.prog (tbl [(18,sH)]) 300 5
noncomputable abbrev ιfo:Nat->Bool:=fun g=>inl (tbl [(18,sH)]) g&&bB Tryz.prog g
theorem L3:KOk Tryz.prog κfo:=aL ak aq (af Fq ok0) 300 5
noncomputable def j5(p:List SV)(a k:Int)(K:Int->CTree):CTree:=bif dec (byl p/\p.length<=1000000/\0<=a/\a+k<=p.length/\(k=1\/k=2\/k=3\/k=4))then K (tkN p a.toNat k.toNat)else .fail
def foA(l:List SV)(s:Cs)(i:Int):List SV:=[.ptr 0 0,.ptr 1 0,.psl 126 l,.bool s.ev,.bool s.nu,.bool s.rs,.int .i64 i]
def foH(s:Cs):HpL:=[(0,.cells 52 zM),(1,.cells 39 (oV s))]
noncomputable def foN(N:Nat)(l:List SV)(s:Cs)(i:Int):CTree:=
 bif Nat.blt (l.length - i.toNat) N then bif dec (zM=zM/\Cw l i)then bif(foF (l.length - i.toNat) l i.toNat s).isSome then
  .ret (.tup [.int .i64 2,.ptr 0 0,.junk,.ptr 1 0,.bool ((foF (l.length - i.toNat) l i.toNat s).getD cs0).ev,.bool ((foF (l.length - i.toNat) l i.toNat s).getD cs0).nu]) [(1,some (.cells 39 (oV ((foF (l.length - i.toNat) l i.toNat s).getD cs0))))]
  else .ret (.tup [.int .i64 1,.ptr 0 0,.int .i64 3,.junk,.junk,.junk]) [(1,none)]else .fail else .fail
noncomputable def foR(N:Nat)(l:List SV)(s:Cs)(i:Int):CTree:=
  bif(bif(bif ci (l.getD i.toNat .junk) 0==65 then((cl (l.getD i.toNat .junk) 1).length:Int)==4 else false)then !s.nu else false)then j5 (cl (l.getD i.toNat .junk) 1) 0 4 fun n=>foN N l {s with nu:=true,asn:=w3 n} (w64 (i+1))else
  bif(bif ci (l.getD i.toNat .junk) 0==64 then !s.rs else false)then bif decide (((cl (l.getD i.toNat .junk) 1).length:Int) < 2)then .ret (.tup [.int .i64 1,.ptr 0 0,.int .i64 3,.ptr 1 0,.bool s.ev,.bool s.nu]) [(0,some (.cells 52 zM))]else
   j5 (cl (l.getD i.toNat .junk) 1) 0 2 fun n=>foN N l {s with rs:=true,rst:=w64 (cz .u64 n 4095),rsd:=n.fdiv (2 ^ (min (15:Int).toNat IntKind.u64.bits))==1} (w64 (i+1))else
  foN N l s (w64 (i+1))
theorem Oa(N:Nat)(l:List SV)(s:Cs)(i:Int):av Tryz.prog κfo ιfo (aF []) true 300 e34 {e34 with s:=ay foM FO N} c34 (foA l s i) (foH s)=
 bif decide (i < l.length)then bif inB i l.length then
  bif ci (l.getD i.toNat .junk) 0==1 then(bif oZ (cl (l.getD i.toNat .junk) 1)==[0,25,0,70]then foN N l {s with ev:=true} (w64 (i+1))else foR N l s i)else foR N l s i else .fail
 else .ret (.tup [.int .i64 2,.ptr 0 0,.junk,.ptr 1 0,.bool s.ev,.bool s.nu]) []:=by kernel_rfl
theorem yX{a b:Nat}(ha:a < 18446744073709551616)(hb:b < 18446744073709551616):(BitVec.ofInt 64 (a:Int)&&& BitVec.ofInt 64 (b:Int)).toNat=a&&& b:=by
 rw[BitVec.toNat_and,BitVec.toNat_ofInt,BitVec.toNat_ofInt]
 have h1:((a:Int) % ((2 ^ 64:Nat):Int)).toNat=a:=by omega
 have h2:((b:Int) % ((2 ^ 64:Nat):Int)).toNat=b:=by omega
 rw[h1,h2]
theorem M2(m:Nat):(m&&& 32768=0)↔m.testBit 15=false:=by
 rw[show(32768:Nat)=2 ^ 15 from rfl]
 constructor
 . intro h
   have h2:(m&&& 2 ^ 15).testBit 15=Nat.testBit 0 15:=by rw[h]
   rw[Nat.testBit_and,Nat.testBit_two_pow,dT0 rfl,Bool.and_true,Nat.zero_testBit]at h2
   exact h2
 . intro h
   apply Nat.eq_of_testBit_eq
   intro j
   rw[Nat.testBit_and,Nat.testBit_two_pow]
   by_cases hj:15=j
   . subst hj;simp[h]
   . simp[hj]
theorem AZ{n:Int}(h0:0<=n)(h1:n < 65536):w64 (cz .u64 n 4095)=cz .i64 n 4095/\(n.fdiv (2 ^ (min (15:Int).toNat IntKind.u64.bits))==1)=(cz .i64 n 32768 !=0):=by
 obtain⟨m,rfl⟩:=Int.eq_ofNat_of_zero_le h0
 have a1:m&&& 4095<=4095:=Nat.and_le_right
 have a2:m&&& 32768<=32768:=Nat.and_le_right
 have e1:cz .u64 (m:Int) 4095=((m&&& 4095:Nat):Int):=by
  show IntKind.u64.wrap ((BitVec.ofInt 64 (m:Int)&&& BitVec.ofInt 64 ((4095:Nat):Int)).toNat:Int)=_
  rw[yX (by omega) (by decide)]
  exact(show IntKind.u64.wrap _=_ by simp[IntKind.wrap,IntKind.bits,IntKind.signed];omega)
 have e2:∀ b:Nat,b < 65536->cz .i64 (m:Int) (b:Int)=((m&&& b:Nat):Int):=fun b hb=>by
  show IntKind.i64.wrap ((BitVec.ofInt 64 (m:Int)&&& BitVec.ofInt 64 (b:Int)).toNat:Int)=_
  have:m&&& b<=b:=Nat.and_le_right
  rw[yX (by omega) (by omega)]
  exact ai (by omega) (by omega)
 have e3:=e2 4095 (by decide)
 have e4:=e2 32768 (by decide)
 rw[e1]
 refine⟨?_,?_⟩
 . exact(ai (by omega) (by omega)).trans e3.symm
 . have e5:cz .i64 (m:Int) 32768=((m&&& 32768:Nat):Int):=e4
   rw[e5,show(2:Int) ^ (min (15:Int).toNat IntKind.u64.bits)=32768 from by decide,Int.fdiv_eq_ediv_of_nonneg _ (by decide)]
   have h3:m.testBit 15=decide (m / 2 ^ 15 % 2=1):=Nat.testBit_eq_decide_div_mod_eq
   have h4:=M2 m
   rw[h3]at h4
   rw[Bool.eq_iff_iff,beq_iff_eq,bne_iff_ne]
   by_cases h:m / 2 ^ 15 % 2=1
   . rw[dT0 h]at h4;simp at h4;omega
   . rw[dF h]at h4;simp at h4;omega
theorem yY{a:Int}{b:Nat}(h0:0<=a)(h1:a<=255)(hb:b < 256):UInt8.ofNat a.toNat=UInt8.ofNat b↔a=b:=by
 rw[<- UInt8.toNat_inj,UInt8.toNat_ofNat',UInt8.toNat_ofNat']
 omega
theorem J5{v:List SV}(hb:byl v):(oZ v==[0,25,0,70])=(bif decide (v.length=4)then tkN v 0 4==1638470 else false):=by
 by_cases h4:v.length=4
 . rw[dT0 h4,cT]
   match v,h4 with
   | [x0,x1,x2,x3],_=>
    obtain⟨a,rfl,a0,a1⟩:=hb x0 (by simp)
    obtain⟨b,rfl,b0,b1⟩:=hb x1 (by simp)
    obtain⟨c,rfl,c0,c1⟩:=hb x2 (by simp)
    obtain⟨d,rfl,d0,d1⟩:=hb x3 (by simp)
    have e1:oZ [.int .u8 a,.int .u8 b,.int .u8 c,.int .u8 d]=[UInt8.ofNat a.toNat,UInt8.ofNat b.toNat,UInt8.ofNat c.toNat,UInt8.ofNat d.toNat]:=rfl
    have e2:tkN [.int .u8 a,.int .u8 b,.int .u8 c,.int .u8 d] 0 4=(((0 * 256+a) * 256+b) * 256+c) * 256+d:=rfl
    rw[e1,e2,Bool.eq_iff_iff,beq_iff_eq,beq_iff_eq]
    simp only[List.cons.injEq,and_true]
    rw[show(0:UInt8)=UInt8.ofNat 0 from rfl,show(25:UInt8)=UInt8.ofNat 25 from rfl,show(70:UInt8)=UInt8.ofNat 70 from rfl,yY a0 a1 (by decide),yY b0 b1 (by decide),yY c0 c1 (by decide),yY d0 d1 (by decide)]
    omega
 . rw[dF h4,cF,beq_eq_false_iff_ne]
   intro h
   apply h4
   have:=congrArg List.length h
   simpa [oZ]using this
theorem yZ{v:List SV}{k:Int}{j:Nat}(hb:byl v)(hl:v.length<=100000)(hk:k=j)(h:j<=v.length)(hj:k=1\/k=2\/k=3\/k=4)(K:Int->CTree):j5 v 0 k K=K (tkN v 0 j):=by
 subst hk
 unfold j5
 rw[dec_iff.2 ⟨hb,by omega,Int.le_refl _,by omega,hj⟩];rfl
noncomputable def foE(N:Nat)(l:List SV)(s:Cs)(i:Int)(r:Bool × Cs):CTree:=bif r.1 then foN N l r.2 (w64 (i+1))else .ret (.tup [.int .i64 1,.ptr 0 0,.int .i64 3,.ptr 1 0,.bool s.ev,.bool s.nu]) [(0,some (.cells 52 zM))]
theorem J6    {N:Nat}{l:List SV}{s:Cs}{i:Int}(hb:byl (cl (l.getD i.toNat .junk) 1))(hl:(cl (l.getD i.toNat .junk) 1).length<=100000)(h1:ci (l.getD i.toNat .junk) 0≠1):
  foR N l s i=foE N l s i (cQ (ci (l.getD i.toNat .junk) 0) (cl (l.getD i.toNat .junk) 1) s):=by
 unfold foR foE cQ
 generalize ci (l.getD i.toNat .junk) 0=c at *
 generalize cl (l.getD i.toNat .junk) 1=v at *
 have e4:((v.length:Int)==4)=decide (v.length=4):=by rw[Bool.eq_iff_iff,beq_iff_eq,decide_eq_true_eq];omega
 rw[e4,show(c==1)=false by simpa using h1,cF]
 cases c1:(bif(bif c==65 then decide (v.length=4)else false)then !s.nu else false)with
 | true=>
  have hv:v.length=4:=by
   cases h:c==65 with
   | false=>rw[h]at c1;cases c1
   | true=>
    rw[h,cT]at c1
    cases h':decide (v.length=4)with
    | false=>rw[h']at c1;cases c1
    | true=>exact of_decide_eq_true h'
  obtain⟨t0,t1⟩:=aX hb.ok 0 4
  rw[cT,cT,yZ hb hl (k:=4) (j:=4) rfl (by omega) (by decide),bc t0 (by omega)]
  rfl
 | false=>
  rw[cF,cF]
  cases c2:(bif c==64 then !s.rs else false)with
  | true=>
   rw[cT,cT]
   by_cases h2:v.length < 2
   . rw[dT0 (show(v.length:Int) < 2 by omega),cT]
     simp only[]
     rw[dF (by omega)]
     rfl
   . obtain⟨t0,t1⟩:=aX hb.ok 0 2
     obtain⟨b1,b2⟩:=AZ t0 (by omega)
     rw[dF (show ¬ (v.length:Int) < 2 by omega),cF,yZ hb hl (k:=2) (j:=2) rfl (by omega) (by decide)]
     simp only[]
     rw[dT0 (by omega),cT,cT,b1,b2]
  | false=>rfl
theorem M3{N:Nat}{l:List SV}{s:Cs}{i:Int}(hb:byl (cl (l.getD i.toNat .junk) 1))(hl:(cl (l.getD i.toNat .junk) 1).length<=100000):
  (bif ci (l.getD i.toNat .junk) 0==1 then(bif oZ (cl (l.getD i.toNat .junk) 1)==[0,25,0,70]then foN N l {s with ev:=true} (w64 (i+1))else foR N l s i)else foR N l s i)=foE N l s i (cQ (ci (l.getD i.toNat .junk) 0) (cl (l.getD i.toNat .junk) 1) s):=by
 by_cases h1:ci (l.getD i.toNat .junk) 0=1
 . rw[show(ci (l.getD i.toNat .junk) 0==1)=true by simpa using h1,cT,J5 hb]
   have hR:foR N l s i=foN N l s (w64 (i+1)):=by
    unfold foR
    rw[h1]
    rfl
   rw[hR,h1]
   unfold foE cQ
   rw[show((1:Int)==1)=true from rfl,cT,cT]
   simp only[]
   cases(bif decide ((cl (l.getD i.toNat .junk) 1).length=4)then tkN (cl (l.getD i.toNat .junk) 1) 0 4==1638470 else false)with
   | true=>cases hs:s.ev <;> simp
   | false=>
    obtain⟨ev,nu,rs,asn,hold,id,rst,rsd⟩:=s
    cases ev <;> rfl
 . rw[show(ci (l.getD i.toNat .junk) 0==1)=false by simpa using h1,cF]
   exact J6 hb hl h1
theorem J7{s:Cs}{a b c:SV}:ChainL Tryz.prog (foH s) (.tup [.int .i64 1,.ptr 0 0,.int .i64 3,a,b,c]) [(0,some (.cells 52 zM))] (.tup [.int .i64 1,.ptr 0 0,.int .i64 3,.junk,.junk,.junk]) [(1,none)]:=by
 refine .told ⟨1,[.ptr 0 0,.int .i64 3,a,b,c],[.ptr 0 0,.int .i64 3,.junk,.junk,.junk],rfl,rfl,.cons .rfl' (.cons .rfl' (CoL.junk Tryz.prog [a,b,c])),fun y c' hy=> ?_⟩
 match y with
 | 0=>exact⟨_,rfl,by cases hy;exact .rfl'⟩
 | 1=>cases hy
 | y+2=>
  simp only[ad,foH,HpL.get,show ¬ (y+2=1)by omega,if_false,show Nat.beq 0 (y+2)=false from bK (by omega),show Nat.beq 1 (y+2)=false from bK (by omega),cF]at hy
  cases hy
theorem J8{s:Cs}:∀ x,ad [(1,some (.cells 39 (oV s)))] (foH s).get x=ad [] (foH s).get x
 | 0=>rfl | 1=>rfl
 | x+2=>by simp only[ad,show ¬ (x+2=1)by omega,if_false]
theorem DI      :aO     Tryz.prog e34:=fk          (T:=aF   []) (sp:=true) (fuel:=300) (c:=c34) (μ:=foM) aq     aE       (show aN    (aF   []) c34=c34 by kernel_rfl) (by
 intro N args H v' ups' hbt hr
 unfold e34 FO at hr
 simp only[]at hr
 split at hr
 . rename_i l ev nu rs i z asn hold id rst rsd
   rw[aa]at hr
   cases hc:dec (z=zM/\Cw l i)with
   | false=>rw[hc]at hr;cases hr
   | true=>
    rw[hc,cT,aa]at hr
    obtain⟨rfl,i0,i1,hl,hv⟩:=dec_iff.1 hc
    have hN:Nat.blt (l.length - i.toNat) (N+1)=true:=hbt
    rw[bL]at hN
    refine⟨κfo,ιfo,L3,?_⟩
    have ht:=Oa N l ⟨ev,nu,rs,asn,hold,id,rst,rsd⟩ i
    change ∃ v ups,ac (av Tryz.prog κfo ιfo (aF []) true 300 e34 {e34 with s:=ay foM FO N} c34 (foA l ⟨ev,nu,rs,asn,hold,id,rst,rsd⟩ i) (foH ⟨ev,nu,rs,asn,hold,id,rst,rsd⟩))=some (v,ups)/\ChainL Tryz.prog (foH ⟨ev,nu,rs,asn,hold,id,rst,rsd⟩) v ups v' ups'
    generalize(⟨ev,nu,rs,asn,hold,id,rst,rsd⟩:Cs)=s at *
    by_cases hi:i < l.length
    . obtain⟨f,hf⟩:∃ f,l.length - i.toNat=f+1:=⟨l.length - i.toNat - 1,by omega⟩
      rw[hf]at hr
      unfold foF at hr
      obtain⟨h1,h2⟩:=hv i.toNat
      rw[dT0 hi,cT,bJ i0 hi,cT,M3 h1 h2]at ht
      generalize cQ (ci (l.getD i.toNat .junk) 0) (cl (l.getD i.toNat .junk) 1) s=q at *
      unfold foE at ht
      cases c1:q.1 with
      | false=>
       rw[c1,cF]at ht hr
       cases hr
       exact⟨_,_,congrArg ac ht,J7⟩
      | true=>
       rw[c1,cT]at ht hr
       have hw:w64 (i+1)=i+1:=ai (by omega) (by omega)
       have t1:(i+1).toNat=i.toNat+1:=by omega
       unfold foN at ht
       rw[hw,t1,show Nat.blt (l.length - (i.toNat+1)) N=true by rw[bL];omega,cT,dec_iff.2 ⟨rfl,by omega,by omega,hl,hv⟩,cT,show l.length - (i.toNat+1)=f by omega]at ht
       refine⟨v',ups',(congrArg ac ht).trans ?_,.same fun _=>rfl⟩
       rw[bt]
       exact hr
    . rw[dF hi,cF]at ht
      rw[show l.length - i.toNat=0 by omega]at hr
      cases hr
      exact⟨_,_,congrArg ac ht,.same J8⟩
 . cases hr)
noncomputable abbrev κrr:=bn Tryz.prog (tbl [(18,sH),(53,ob)]) 300 5
noncomputable abbrev ιrr:Nat->Bool:=fun g=>inl (tbl [(18,sH),(53,ob)]) g&&bB Tryz.prog g
theorem Ot:KOk Tryz.prog κrr:=aL ak aq (af Fq (af FE ok0)) 300 5
noncomputable abbrev T34:cu:=aF [("o",e34)]
noncomputable abbrev m34:Code:=bx [(11, "o")] Cv
noncomputable def vp:ag:=bE Tryz.prog κrr ιrr T34 true 300 Tryz.f34 m34
theorem ropen6_k0:Known Tryz.prog 34 vp:=⟨⟨Tryz.f34,Tryz.func34,bf ak Tryz.func34,rfl⟩,aS Ot aq (ba DI aE) Tryz.func34 (show Tryz.f34.body=some (aN T34 m34)by kernel_rfl)⟩
def r6E(e:Int):CTree:=.ret (.tup [mgZ 0 cs0 0 0,.int .i64 e]) []
noncomputable def r6L(l:List SV)(s:Cs):CTree:=bif dec (zM=zM/\Cw l 0)then bif(foF (l.length - (0:Int).toNat) l (0:Int).toNat s).isSome then
  (fun t:Cs=>bif(bif !t.ev then true else !t.nu)then r6E 3 else .ret (.tup [mgZ 1 t 0 0,.int .i64 0]) []) ((foF (l.length - (0:Int).toNat) l (0:Int).toNat s).getD cs0)else r6E 3 else .fail
theorem Di(p:List SV):vp [.psl 5 p] []=bif decide ((p.length:Int) < 10)then r6E 3 else bif inB 0 p.length then bif dg p 0 !=4 then r6E 15 else
 j5 p 3 2 fun hold=>j5 p 5 4 fun id=>slI p 10 p.length fun q=>bif dec (byl q/\q.length<=100000)then
  bif w64 hold==1 then r6E 3 else bif w64 hold==2 then r6E 3 else bif inB 9 p.length then bif w64 (dg p 9)!=w64 ((p.length:Int) - 10)then r6E 3 else bif !(cpL q).isSome then r6E 3 else
  r6L ((cpL q).getD []) {cs0 with hold:=w64 hold,id:=w3 id}else .fail else .fail else .fail:=by kernel_rfl
def mtL(f:Nat->Bool):Nat->Nat->List SV
 | 0,_=>[]
 | n+1,i=>.bool (f i) :: mtL f n (i+1)
def rS(pb cb mb:Bool)(d:Ds)(f:Nat->Bool):Chunk:=.cells 129 (dL pb cb mb d++mtL f 256 0)
noncomputable abbrev κva:=bn Tryz.prog (tbl [(55,sE),(100,sG),(132,n7)]) 300 5
noncomputable abbrev ιva:Nat->Bool:=fun g=>inl (tbl [(55,sE),(100,sG),(132,n7)]) g&&bB Tryz.prog g
theorem IS:KOk Tryz.prog κva:=aL ak aq (af IX (af I0 (af EQ ok0))) 300 5
noncomputable abbrev vB(T:cu)(c:Code):ag:=bE Tryz.prog κva ιva T true 300 Tryz.f79 c
noncomputable def cD:Code:=Tryz.f79.body.getD .skip
def vF:CTree:=.ret (.bool false) []
def vT(pb cb mb:Bool)(f:Nat->Bool)(d:Ds):CTree:=.ret (.bool true) [(0,some (rS pb cb mb d f))]
def vAr(g:Int)(v:List SV):List SV:=[.ptr 0 0,.int .u8 g,.psl 5 v]
noncomputable def ytC(v:List SV)(a k:Int)(K:CTree):CTree:=bif dec (byl v/\v.length<=1000000/\0<=a/\a+k<=v.length/\(k=1\/k=2\/k=3\/k=4))then K else .fail
theorem v_1(v:List SV)(pb cb mb:Bool)(d:Ds)(f:Nat->Bool):vB (aF []) cD (vAr 1 v) [(0,rS pb cb mb d f)]=
 bif(v.length:Int)!=1 then vF else bif inB 0 v.length then bif decide (dg v 0 > 2)then vF else bif inB 0 v.length then vT pb cb mb f (d1 d (dg v 0))else .fail else .fail:=by cases pb <;> cases cb <;> cases mb <;> kernel_rfl
theorem v_4(v:List SV)(pb cb mb:Bool)(d:Ds)(f:Nat->Bool):vB (aF []) cD (vAr 4 v) [(0,rS pb cb mb d f)]=
 bif(v.length:Int)!=4 then vF else ytC v 0 4 (vT pb cb mb f (d4 d (tkN v 0 4))):=by cases pb <;> cases cb <;> cases mb <;> kernel_rfl
theorem v_5(v:List SV)(pb cb mb:Bool)(d:Ds)(f:Nat->Bool):vB (aF []) cD (vAr 5 v) [(0,rS pb cb mb d f)]=
 bif(v.length:Int)!=4 then vF else ytC v 0 4 (vT pb cb mb f (d5 d (tkN v 0 4))):=by cases pb <;> cases cb <;> cases mb <;> kernel_rfl
theorem v_9(v:List SV)(pb cb mb:Bool)(d:Ds)(f:Nat->Bool):vB (aF []) cD (vAr 9 v) [(0,rS pb cb mb d f)]=
 bif(v.length:Int)!=4 then vF else ytC v 0 4 (vT pb cb mb f (d9 d (tkN v 0 4))):=by cases pb <;> cases cb <;> cases mb <;> kernel_rfl
def frm(v:List SV)(k:Int):List SV:=(v.drop k.toNat).take ((v.length:Int).toNat - k.toNat)
noncomputable def frC(v:List SV)(k:Int)(K:List SV->CTree):CTree:=bif decide (0<=k)&&decide (k<=(v.length:Int))&&decide ((v.length:Int)<=(v.length:Int))then K (frm v k)else .fail
noncomputable def liC(p:List SV)(k:Int)(K:List SV->Bool->CTree):CTree:=bif dec (byl p/\p.length<=40000/\0<=k/\k<=1000)then K (bif liB p.length k then []else wd p 0 (p.length / 4)) (!(liB p.length k))else .fail
theorem v_2(v:List SV)(pb cb mb:Bool)(d:Ds)(f:Nat->Bool):vB (aF []) cD (vAr 2 v) [(0,rS pb cb mb d f)]=
 bif(v.length:Int)==0 then .ret (.bool true) []else bif decide ((v.length:Int) < 2)then vF else bif inB 0 v.length then bif dg v 0 !=2 then vF else bif inB 1 v.length then
  bif w64 (4 * w64 (dg v 1))!=w64 ((v.length:Int) - 2)then vF else frC v 2 (fun p=>liC p 32 (fun l b=>.ret (.bool b) [(0,some (rS false cb mb {d with path:=l} f))]))
  else .fail else .fail:=by cases pb <;> cases cb <;> cases mb <;> kernel_rfl
def tuA(v:List SV)(L k:Int)(K:Bool->CTree):CTree:=bif(v.length:Int)==L then bif inB 1 v.length then K (dg v 1==k)else .fail else K false
def tuY(v:List SV)(K:Bool->CTree):CTree:=bif inB 0 v.length then K (dg v 0 !=0)else .fail
def tuR(v:List SV)(a b:Bool)(K:Bool->CTree):CTree:=bif !a then(bif !b then K true else tuY v K)else tuY v K
theorem NR(v:List SV)(pb cb mb:Bool)(d:Ds)(f:Nat->Bool):vB (aF []) cD (vAr 22 v) [(0,rS pb cb mb d f)]=
 tuA v 13 3 (fun a=>tuA v 9 6 (fun b=>tuR v a b (fun x=>bif x then vF else bif inB 1 v.length then ytC v 2 3 (ytC v 5 4 (
  bif a then ytC v 9 4 (vT pb cb mb f (dT d (w64 (dg v 1)) (w3 (tkN v 2 3)) (w3 (tkN v 5 4)) (w3 (tkN v 9 4))))else vT pb cb mb f (dT d (w64 (dg v 1)) (w3 (tkN v 2 3)) (w3 (tkN v 5 4)) 0)))else .fail))):=by cases pb <;> cases cb <;> cases mb <;> kernel_rfl
def Cf:List UInt8:=[0,25,70]
def hd3(v:List SV):List UInt8:=((v.drop (0:Int).toNat).take ((3:Int).toNat - (0:Int).toNat)).map Am.byteOf
noncomputable def rrC(p:List SV)(K:CTree):CTree:=bif dec (byl p/\p.length<=1000000)then K else .fail
theorem N0(v:List SV)(pb cb mb:Bool)(d:Ds)(f:Nat->Bool):vB (aF []) cD (vAr 15 v) [(0,rS pb cb mb d f)]=
 bif decide ((v.length:Int) < 3)then vF else bif decide ((0:Int)<=0)&&decide ((0:Int)<=3)&&decide ((3:Int)<=v.length)then bif !(hd3 v==Cf)then vF else
  frC v 3 (fun p=>rrC p (bif(bif rdE p !=0 then true else(bif(15:Int)==14 then(rdL p).length==0 else false))then vF else vT pb cb mb f {d with unr:=rdL p}))
 else .fail:=by cases pb <;> cases cb <;> cases mb <;> kernel_rfl
theorem N3(v:List SV)(pb cb mb:Bool)(d:Ds)(f:Nat->Bool):vB (aF []) cD (vAr 14 v) [(0,rS pb cb mb d f)]=
 bif decide ((v.length:Int) < 3)then vF else bif decide ((0:Int)<=0)&&decide ((0:Int)<=3)&&decide ((3:Int)<=v.length)then bif !(hd3 v==Cf)then vF else
  frC v 3 (fun p=>bif decide ((p.length:Int) < 6)then vF else bif inB 0 p.length then bif dg p 0 !=4 then vF else bif inB 5 p.length then bif dg p 5 !=0 then vF else
   ytC p 1 4 (frC p 6 (fun q=>rrC q (bif(bif rdE q !=0 then true else(bif(14:Int)==14 then((rdL q).length:Int)==0 else false))then .ret (.bool false) [(0,some (rS pb cb mb (dNx d (tkN p 1 4)) f))]else vT pb cb mb f {dNx d (tkN p 1 4)with rch:=rdL q})))
   else .fail else .fail)
 else .fail:=by cases pb <;> cases cb <;> cases mb <;> kernel_rfl
end Go.Proofs.YtnlmhpancboddaaGreat
