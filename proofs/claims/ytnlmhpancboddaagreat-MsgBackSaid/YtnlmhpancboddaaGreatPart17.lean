/- Lists are the same. -/
import Derived.Test.YtnlmhpancboddaaGreatPart13
import Derived.Test.YtnlmhpancboddaaGreatMachine6
set_option linter.unusedVariables false
set_option linter.unusedSimpArgs false
namespace Go.Proofs.YtnlmhpancboddaaGreat
open Go.Am
set_option maxRecDepth 100000
noncomputable def sZ:Code:=Tryz.f58.body.getD .skip
noncomputable def c29:Code:=(bx 4 sZ).getD .skip
noncomputable def xe:ag:=fun args H=>match args,H with
 | [.psl 36 a,.psl 36 b,.int .i64 i],[]=>.ite (dec (a=b/\a.length<=100000/\0<=i)) (.ret (.tup [.int .i64 2]) []) .fail
 | _,_=>.fail
def HE:List SV->HpL->Nat
 | [.psl _ a,_,.int _ i],_=>a.length - i.toNat
 | _,_=>0
noncomputable def e29:LEnt:={ins:=[0,1,5],outs:=[],keep:=[],size:=26,code:=c29,s:=xe}
theorem JB(N:Nat)(a:List SV)(i:Int):ay Tryz.prog (bt Tryz.prog (tbl []) 300 5) (fun _=>false) (aL []) true 300 e29 {e29 with s:=az HE xe N} c29 [.psl 36 a,.psl 36 a,.int .i64 i] []=
 bif decide (i < a.length)then bif inB i a.length then bif inB i a.length then bif(asI (a.getD i.toNat .junk)!=asI (a.getD i.toNat .junk))then .ret (.tup [.int .i64 1]) []else
  (bif Nat.blt (a.length - (w64 (i+1)).toNat) N then bif dec (a=a/\a.length<=100000/\0<=w64 (i+1))then .ret (.tup [.int .i64 2]) []else .fail else .fail)else .fail else .fail
 else .ret (.tup [.int .i64 2]) []:=by kernel_rfl
theorem JC    :aR     Tryz.prog e29:=ct         (κ:=bt    Tryz.prog (tbl []) 300 5) (ι:=fun _=>false) (T:=aL   []) (sp:=true) (fuel:=300) (c:=c29) (μ:=HE   ) (aG       ap       ax     ok0 300 5) ax     aE       (show aM    (aL   []) c29=c29 by kernel_rfl) (by
 intro N args H r hb h
 unfold e29 xe at h
 simp only[]at h
 split at h
 . rename_i a b i
   rw[aa]at h
   cases hc:dec _ with
   | false=>rw[hc]at h;cases h
   | true=>
    rw[hc,cT]at h
    obtain⟨rfl,h1,h2⟩:=dec_iff.1 hc
    refine(congrArg ae (JB N a i)).trans ?_
    by_cases hi:i < a.length
    . have hN:Nat.blt (a.length - i.toNat) (N+1)=true:=hb
      rw[bL]at hN
      rw[dT0 hi,show inB i a.length=true by unfold inB;simp;omega,show w64 (i+1)=i+1 from am (by omega) (by omega),show Nat.blt (a.length - (i+1).toNat) N=true by rw[bL];omega,dec_iff.2 ⟨rfl,h1,by omega⟩]
      simp only[bne_self_eq_false,cF,cT]
      exact h
    . rw[dF0 hi];exact h
 . cases h)
noncomputable def pG:ag:=fun args H=>match args,H with
 | [.psl 36 a,.psl 36 b],[]=>.ite (dec (a=b/\a.length<=100000)) (.ret (.bool true) []) .fail
 | _,_=>.fail
theorem CD(a:List SV):bV Tryz.prog (bt Tryz.prog (tbl []) 300 5) (fun _=>false) (aL [("s",e29)]) true 300 Tryz.f58 (bF [(4, "s")] sZ) [.psl 36 a,.psl 36 a] []=
 bif(a.length:Int)!=(a.length:Int)then .ret (.bool false) []else bif dec (a=a/\a.length<=100000/\(0:Int)<=0)then .ret (.bool true) []else .fail:=by kernel_rfl
theorem CE:Known Tryz.prog 58 pG:=by
 have h0:Known Tryz.prog 58 (bV Tryz.prog (bt Tryz.prog (tbl []) 300 5) (fun _=>false) (aL [("s",e29)]) true 300 Tryz.f58 (bF [(4, "s")] sZ)):=⟨⟨Tryz.f58,Tryz.func58,bc ap Tryz.func58,rfl⟩,aZ (aG ap ax ok0 300 5) ax (bf JC aE) Tryz.func58 (show Tryz.f58.body=some (aM (aL [("s",e29)]) (bF [(4, "s")] sZ))by kernel_rfl)⟩
 refine h0.weak (fun args H v ups h=> ?_)
 unfold pG at h
 split at h
 . rename_i a b
   rw[aa]at h
   cases hc:dec _ with
   | false=>rw[hc]at h;cases h
   | true=>
    rw[hc,cT]at h
    obtain⟨rfl,h1⟩:=dec_iff.1 hc
    refine(congrArg ae (CD a)).trans ?_
    rw[dec_iff.2 ⟨rfl,h1,by omega⟩,show((a.length:Int)!=(a.length:Int))=false by simp]
    exact h
 . cases h
noncomputable def s5:Code:=Tryz.f59.body.getD .skip
noncomputable def c30:Code:=(bx 4 s5).getD .skip
noncomputable def xf:ag:=fun args H=>match args,H with
 | [.psl 37 a,.psl 37 b,.int .i64 i],[]=>.ite (dec (a=b/\a.length<=100000/\0<=i)) (.ret (.tup [.int .i64 2]) []) .fail
 | _,_=>.fail
def HF:List SV->HpL->Nat
 | [.psl _ a,_,.int _ i],_=>a.length - i.toNat
 | _,_=>0
noncomputable def e30:LEnt:={ins:=[0,1,5],outs:=[],keep:=[],size:=26,code:=c30,s:=xf}
theorem JD(N:Nat)(a:List SV)(i:Int):ay Tryz.prog (bt Tryz.prog (tbl []) 300 5) (fun _=>false) (aL []) true 300 e30 {e30 with s:=az HF xf N} c30 [.psl 37 a,.psl 37 a,.int .i64 i] []=
 bif decide (i < a.length)then bif inB i a.length then bif inB i a.length then bif(asI (a.getD i.toNat .junk)!=asI (a.getD i.toNat .junk))then .ret (.tup [.int .i64 1]) []else
  (bif Nat.blt (a.length - (w64 (i+1)).toNat) N then bif dec (a=a/\a.length<=100000/\0<=w64 (i+1))then .ret (.tup [.int .i64 2]) []else .fail else .fail)else .fail else .fail
 else .ret (.tup [.int .i64 2]) []:=by kernel_rfl
theorem JE    :aR     Tryz.prog e30:=ct         (κ:=bt    Tryz.prog (tbl []) 300 5) (ι:=fun _=>false) (T:=aL   []) (sp:=true) (fuel:=300) (c:=c30) (μ:=HF   ) (aG       ap       ax     ok0 300 5) ax     aE       (show aM    (aL   []) c30=c30 by kernel_rfl) (by
 intro N args H r hb h
 unfold e30 xf at h
 simp only[]at h
 split at h
 . rename_i a b i
   rw[aa]at h
   cases hc:dec _ with
   | false=>rw[hc]at h;cases h
   | true=>
    rw[hc,cT]at h
    obtain⟨rfl,h1,h2⟩:=dec_iff.1 hc
    refine(congrArg ae (JD N a i)).trans ?_
    by_cases hi:i < a.length
    . have hN:Nat.blt (a.length - i.toNat) (N+1)=true:=hb
      rw[bL]at hN
      rw[dT0 hi,show inB i a.length=true by unfold inB;simp;omega,show w64 (i+1)=i+1 from am (by omega) (by omega),show Nat.blt (a.length - (i+1).toNat) N=true by rw[bL];omega,dec_iff.2 ⟨rfl,h1,by omega⟩]
      simp only[bne_self_eq_false,cF,cT]
      exact h
    . rw[dF0 hi];exact h
 . cases h)
noncomputable def pI:ag:=fun args H=>match args,H with
 | [.psl 37 a,.psl 37 b],[]=>.ite (dec (a=b/\a.length<=100000)) (.ret (.bool true) []) .fail
 | _,_=>.fail
theorem CF(a:List SV):bV Tryz.prog (bt Tryz.prog (tbl []) 300 5) (fun _=>false) (aL [("s",e30)]) true 300 Tryz.f59 (bF [(4, "s")] s5) [.psl 37 a,.psl 37 a] []=
 bif(a.length:Int)!=(a.length:Int)then .ret (.bool false) []else bif dec (a=a/\a.length<=100000/\(0:Int)<=0)then .ret (.bool true) []else .fail:=by kernel_rfl
theorem CG:Known Tryz.prog 59 pI:=by
 have h0:Known Tryz.prog 59 (bV Tryz.prog (bt Tryz.prog (tbl []) 300 5) (fun _=>false) (aL [("s",e30)]) true 300 Tryz.f59 (bF [(4, "s")] s5)):=⟨⟨Tryz.f59,Tryz.func59,bc ap Tryz.func59,rfl⟩,aZ (aG ap ax ok0 300 5) ax (bf JE aE) Tryz.func59 (show Tryz.f59.body=some (aM (aL [("s",e30)]) (bF [(4, "s")] s5))by kernel_rfl)⟩
 refine h0.weak (fun args H v ups h=> ?_)
 unfold pI at h
 split at h
 . rename_i a b
   rw[aa]at h
   cases hc:dec _ with
   | false=>rw[hc]at h;cases h
   | true=>
    rw[hc,cT]at h
    obtain⟨rfl,h1⟩:=dec_iff.1 hc
    refine(congrArg ae (CF a)).trans ?_
    rw[dec_iff.2 ⟨rfl,h1,by omega⟩,show((a.length:Int)!=(a.length:Int))=false by simp]
    exact h
 . cases h
noncomputable def oI:Code:=Tryz.f60.body.getD .skip
noncomputable def CH:Code:=(bx 4 oI).getD .skip
noncomputable def xg:ag:=fun args H=>match args,H with
 | [.psl 136 a,.psl 136 b,.int .i64 i],[]=>.ite (dec (a=b/\a.length<=100000/\0<=i)) (.ret (.tup [.int .i64 2]) []) .fail
 | _,_=>.fail
def HG:List SV->HpL->Nat
 | [.psl _ a,_,.int _ i],_=>a.length - i.toNat
 | _,_=>0
noncomputable def xh:LEnt:={ins:=[0,1,5],outs:=[],keep:=[],size:=26,code:=CH,s:=xg}
theorem JF(N:Nat)(a:List SV)(i:Int):ay Tryz.prog (bt Tryz.prog (tbl []) 300 5) (fun _=>false) (aL []) true 300 xh {xh with s:=az HG xg N} CH [.psl 136 a,.psl 136 a,.int .i64 i] []=
 bif decide (i < a.length)then bif inB i a.length then bif inB i a.length then bif !((asI (ar (a.getD i.toNat .junk) 0)==asI (ar (a.getD i.toNat .junk) 0))&&((asI (ar (a.getD i.toNat .junk) 1)==asI (ar (a.getD i.toNat .junk) 1))&&((asI (ar (a.getD i.toNat .junk) 2)==asI (ar (a.getD i.toNat .junk) 2))&&((asI (ar (a.getD i.toNat .junk) 3)==asI (ar (a.getD i.toNat .junk) 3))&&((asI (ar (a.getD i.toNat .junk) 4)==asI (ar (a.getD i.toNat .junk) 4))&&((asI (ar (a.getD i.toNat .junk) 5)==asI (ar (a.getD i.toNat .junk) 5))&&((asI (ar (a.getD i.toNat .junk) 6)==asI (ar (a.getD i.toNat .junk) 6))&&(asI (ar (a.getD i.toNat .junk) 7)==asI (ar (a.getD i.toNat .junk) 7)))))))))then .ret (.tup [.int .i64 1]) []else
  (bif Nat.blt (a.length - (w64 (i+1)).toNat) N then bif dec (a=a/\a.length<=100000/\0<=w64 (i+1))then .ret (.tup [.int .i64 2]) []else .fail else .fail)else .fail else .fail
 else .ret (.tup [.int .i64 2]) []:=by kernel_rfl
theorem JG    :aR     Tryz.prog xh  :=ct         (κ:=bt    Tryz.prog (tbl []) 300 5) (ι:=fun _=>false) (T:=aL   []) (sp:=true) (fuel:=300) (c:=CH  ) (μ:=HG   ) (aG       ap       ax     ok0 300 5) ax     aE       (show aM    (aL   []) CH  =CH   by kernel_rfl) (by
 intro N args H r hb h
 unfold xh xg at h
 simp only[]at h
 split at h
 . rename_i a b i
   rw[aa]at h
   cases hc:dec _ with
   | false=>rw[hc]at h;cases h
   | true=>
    rw[hc,cT]at h
    obtain⟨rfl,h1,h2⟩:=dec_iff.1 hc
    refine(congrArg ae (JF N a i)).trans ?_
    by_cases hi:i < a.length
    . have hN:Nat.blt (a.length - i.toNat) (N+1)=true:=hb
      rw[bL]at hN
      rw[dT0 hi,show inB i a.length=true by unfold inB;simp;omega,show w64 (i+1)=i+1 from am (by omega) (by omega),show Nat.blt (a.length - (i+1).toNat) N=true by rw[bL];omega,dec_iff.2 ⟨rfl,h1,by omega⟩]
      simp only[beq_self_eq_true,Bool.and_self,Bool.not_true,cF,cT]
      exact h
    . rw[dF0 hi];exact h
 . cases h)
noncomputable def pK:ag:=fun args H=>match args,H with
 | [.psl 136 a,.psl 136 b],[]=>.ite (dec (a=b/\a.length<=100000)) (.ret (.bool true) []) .fail
 | _,_=>.fail
theorem CI(a:List SV):bV Tryz.prog (bt Tryz.prog (tbl []) 300 5) (fun _=>false) (aL [("s",xh)]) true 300 Tryz.f60 (bF [(4, "s")] oI) [.psl 136 a,.psl 136 a] []=
 bif(a.length:Int)!=(a.length:Int)then .ret (.bool false) []else bif dec (a=a/\a.length<=100000/\(0:Int)<=0)then .ret (.bool true) []else .fail:=by kernel_rfl
theorem CJ:Known Tryz.prog 60 pK:=by
 have h0:Known Tryz.prog 60 (bV Tryz.prog (bt Tryz.prog (tbl []) 300 5) (fun _=>false) (aL [("s",xh)]) true 300 Tryz.f60 (bF [(4, "s")] oI)):=⟨⟨Tryz.f60,Tryz.func60,bc ap Tryz.func60,rfl⟩,aZ (aG ap ax ok0 300 5) ax (bf JG aE) Tryz.func60 (show Tryz.f60.body=some (aM (aL [("s",xh)]) (bF [(4, "s")] oI))by kernel_rfl)⟩
 refine h0.weak (fun args H v ups h=> ?_)
 unfold pK at h
 split at h
 . rename_i a b
   rw[aa]at h
   cases hc:dec _ with
   | false=>rw[hc]at h;cases h
   | true=>
    rw[hc,cT]at h
    obtain⟨rfl,h1⟩:=dec_iff.1 hc
    refine(congrArg ae (CI a)).trans ?_
    rw[dec_iff.2 ⟨rfl,h1,by omega⟩,show((a.length:Int)!=(a.length:Int))=false by simp]
    exact h
 . cases h
noncomputable def s6:Code:=Tryz.f37.body.getD .skip
noncomputable def c12:Code:=(bx 4 s6).getD .skip
noncomputable def xi:ag:=fun args H=>match args,H with
 | [.psl 88 a,.psl 88 b,.int .i64 i],[]=>.ite (dec (a=b/\a.length<=100000/\0<=i)) (.ret (.tup [.int .i64 2]) []) .fail
 | _,_=>.fail
def HH:List SV->HpL->Nat
 | [.psl _ a,_,.int _ i],_=>a.length - i.toNat
 | _,_=>0
noncomputable def e12:LEnt:={ins:=[0,1,5],outs:=[],keep:=[],size:=26,code:=c12,s:=xi}
theorem JH(N:Nat)(a:List SV)(i:Int):ay Tryz.prog (bt Tryz.prog (tbl []) 300 5) (fun _=>false) (aL []) true 300 e12 {e12 with s:=az HH xi N} c12 [.psl 88 a,.psl 88 a,.int .i64 i] []=
 bif decide (i < a.length)then bif inB i a.length then bif inB i a.length then bif !((asI (ar (a.getD i.toNat .junk) 0)==asI (ar (a.getD i.toNat .junk) 0))&&((asI (ar (a.getD i.toNat .junk) 1)==asI (ar (a.getD i.toNat .junk) 1))&&((asI (ar (a.getD i.toNat .junk) 2)==asI (ar (a.getD i.toNat .junk) 2))&&((asI (ar (a.getD i.toNat .junk) 3)==asI (ar (a.getD i.toNat .junk) 3))&&((asI (ar (a.getD i.toNat .junk) 4)==asI (ar (a.getD i.toNat .junk) 4))&&((asI (ar (a.getD i.toNat .junk) 5)==asI (ar (a.getD i.toNat .junk) 5))&&((asI (ar (a.getD i.toNat .junk) 6)==asI (ar (a.getD i.toNat .junk) 6))&&((asI (ar (a.getD i.toNat .junk) 7)==asI (ar (a.getD i.toNat .junk) 7))&&((asI (ar (a.getD i.toNat .junk) 8)==asI (ar (a.getD i.toNat .junk) 8))&&((asI (ar (a.getD i.toNat .junk) 9)==asI (ar (a.getD i.toNat .junk) 9))&&((asI (ar (a.getD i.toNat .junk) 10)==asI (ar (a.getD i.toNat .junk) 10))&&((asI (ar (a.getD i.toNat .junk) 11)==asI (ar (a.getD i.toNat .junk) 11))&&((asI (ar (a.getD i.toNat .junk) 12)==asI (ar (a.getD i.toNat .junk) 12))&&((asI (ar (a.getD i.toNat .junk) 13)==asI (ar (a.getD i.toNat .junk) 13))&&((asI (ar (a.getD i.toNat .junk) 14)==asI (ar (a.getD i.toNat .junk) 14))&&((asB (ar (a.getD i.toNat .junk) 15)==asB (ar (a.getD i.toNat .junk) 15))&&((asI (ar (a.getD i.toNat .junk) 16)==asI (ar (a.getD i.toNat .junk) 16))&&((asI (ar (a.getD i.toNat .junk) 17)==asI (ar (a.getD i.toNat .junk) 17))&&((asI (ar (a.getD i.toNat .junk) 18)==asI (ar (a.getD i.toNat .junk) 18))&&((asI (ar (a.getD i.toNat .junk) 19)==asI (ar (a.getD i.toNat .junk) 19))&&(asI (ar (a.getD i.toNat .junk) 20)==asI (ar (a.getD i.toNat .junk) 20))))))))))))))))))))))then .ret (.tup [.int .i64 1]) []else
  (bif Nat.blt (a.length - (w64 (i+1)).toNat) N then bif dec (a=a/\a.length<=100000/\0<=w64 (i+1))then .ret (.tup [.int .i64 2]) []else .fail else .fail)else .fail else .fail
 else .ret (.tup [.int .i64 2]) []:=by kernel_rfl
theorem JI    :aR     Tryz.prog e12:=ct         (κ:=bt    Tryz.prog (tbl []) 300 5) (ι:=fun _=>false) (T:=aL   []) (sp:=true) (fuel:=300) (c:=c12) (μ:=HH   ) (aG       ap       ax     ok0 300 5) ax     aE       (show aM    (aL   []) c12=c12 by kernel_rfl) (by
 intro N args H r hb h
 unfold e12 xi at h
 simp only[]at h
 split at h
 . rename_i a b i
   rw[aa]at h
   cases hc:dec _ with
   | false=>rw[hc]at h;cases h
   | true=>
    rw[hc,cT]at h
    obtain⟨rfl,h1,h2⟩:=dec_iff.1 hc
    refine(congrArg ae (JH N a i)).trans ?_
    by_cases hi:i < a.length
    . have hN:Nat.blt (a.length - i.toNat) (N+1)=true:=hb
      rw[bL]at hN
      rw[dT0 hi,show inB i a.length=true by unfold inB;simp;omega,show w64 (i+1)=i+1 from am (by omega) (by omega),show Nat.blt (a.length - (i+1).toNat) N=true by rw[bL];omega,dec_iff.2 ⟨rfl,h1,by omega⟩]
      simp only[beq_self_eq_true,Bool.and_self,Bool.not_true,cF,cT]
      exact h
    . rw[dF0 hi];exact h
 . cases h)
noncomputable def pL:ag:=fun args H=>match args,H with
 | [.psl 88 a,.psl 88 b],[]=>.ite (dec (a=b/\a.length<=100000)) (.ret (.bool true) []) .fail
 | _,_=>.fail
theorem CK(a:List SV):bV Tryz.prog (bt Tryz.prog (tbl []) 300 5) (fun _=>false) (aL [("s",e12)]) true 300 Tryz.f37 (bF [(4, "s")] s6) [.psl 88 a,.psl 88 a] []=
 bif(a.length:Int)!=(a.length:Int)then .ret (.bool false) []else bif dec (a=a/\a.length<=100000/\(0:Int)<=0)then .ret (.bool true) []else .fail:=by kernel_rfl
theorem CL:Known Tryz.prog 37 pL:=by
 have h0:Known Tryz.prog 37 (bV Tryz.prog (bt Tryz.prog (tbl []) 300 5) (fun _=>false) (aL [("s",e12)]) true 300 Tryz.f37 (bF [(4, "s")] s6)):=⟨⟨Tryz.f37,Tryz.func37,bc ap Tryz.func37,rfl⟩,aZ (aG ap ax ok0 300 5) ax (bf JI aE) Tryz.func37 (show Tryz.f37.body=some (aM (aL [("s",e12)]) (bF [(4, "s")] s6))by kernel_rfl)⟩
 refine h0.weak (fun args H v ups h=> ?_)
 unfold pL at h
 split at h
 . rename_i a b
   rw[aa]at h
   cases hc:dec _ with
   | false=>rw[hc]at h;cases h
   | true=>
    rw[hc,cT]at h
    obtain⟨rfl,h1⟩:=dec_iff.1 hc
    refine(congrArg ae (CK a)).trans ?_
    rw[dec_iff.2 ⟨rfl,h1,by omega⟩,show((a.length:Int)!=(a.length:Int))=false by simp]
    exact h
 . cases h
noncomputable abbrev κs:=tbl [(58,pG),(59,pI),(60,pK)]
theorem sOk:KOk Tryz.prog κs:=ac CE (ac CG (ac CJ ok0))
noncomputable def smC(a:List SV)(K:CTree):CTree:=bif dec (a=a/\a.length<=100000)then K else .fail
def zsF:CTree:=.ret (.bool false) []
theorem Lv(d:Ds):opn κs Tryz.f36 [aD d,aD d] []=
 bif d.ori==d.ori then smC d.path (bif d.nx==d.nx then bif d.hm==d.hm then bif d.med==d.med then bif d.hp==d.hp then bif d.prf==d.prf then bif d.ho==d.ho then bif d.orr==d.orr then
  smC d.cl (smC d.cm (.ret (.bool (d.tk==d.tk&&(d.tl==d.tl&&(d.tr==d.tr&&d.tg==d.tg)))) []))else zsF else zsF else zsF else zsF else zsF else zsF else zsF)else zsF:=by kernel_rfl
def aP:SV->Option Ds
 | .agg [.int .i64 ori,.psl 36 p,.int .u32 nx,.bool hm,.int .u32 med,.bool hp,.int .u32 prf,.bool ho,.int .u32 orr,.psl 37 c,.psl 136 m,.int .i64 tk,.int .u32 tl,.int .u32 tr,.int .u32 tg]=>some ⟨ori,nx,med,prf,orr,tk,tl,tr,tg,hm,hp,ho,p,c,m,[],[]⟩
 | _=>none
noncomputable def sG:ag:=fun args H=>match args,H with
 | [x,y],[]=>match aP x with
  | some d=>.ite (dec (x=aD d/\y=aD d/\d.path.length<=100000/\d.cl.length<=100000/\d.cm.length<=100000)) (.ret (.bool true) []) .fail
  | none=>.fail
 | _,_=>.fail
theorem EK     :Known Tryz.prog 36 sG     :=(aj        sOk Tryz.func36 rfl).weak (by
 intro args H v ups h
 unfold sG at h
 split at h
 . rename_i x y
   split at h
   . rename_i d hd
     rw[aa]at h
     cases hc:dec _ with
     | false=>rw[hc]at h;cases h
     | true=>
      rw[hc,cT]at h
      obtain⟨rfl,rfl,h1,h2,h3⟩:=dec_iff.1 hc
      refine(congrArg ae (Lv d)).trans ?_
      unfold smC
      rw[dec_iff.2 ⟨rfl,h1⟩,dec_iff.2 ⟨rfl,h2⟩,dec_iff.2 ⟨rfl,h3⟩]
      simp only[beq_self_eq_true,Bool.and_self,cT]
      exact h
   . cases h
 . cases h)
theorem rS:Known Tryz.prog 48 (fx 2):=yT Tryz.func48 rfl (by decide) (fun r n es=>by kernel_rfl)
theorem Mz(es:List SV):opn (tbl []) Tryz.f47 [.psl 5 es] []=bif ri (([]:List SV).length+es.length)then .ret (.ptr 0 0) [(0,some (.cells 157 [.int .i64 0,.int .i64 es.length,.qs 1 1 0 (([]:List SV).length+es.length),.int .i64 0,.int .i64 0,.bool true])),(1,some (.seq 5 ([]++es)))]else .fail:=by kernel_rfl
def lT:ag:=fun args H=>match args,H with
 | [.psl 5 es],[]=>.ite (decide (es.length<=1000000)) (.ret (.ptr 0 0) [(0,some (.cells 157 [.int .i64 0,.int .i64 es.length,.qs 1 1 0 es.length,.int .i64 0,.int .i64 0,.bool true])),(1,some (.seq 5 es))]) .fail
 | _,_=>.fail
theorem rT:Known Tryz.prog 47 lT:=(aj ok0 Tryz.func47 rfl).weak (by
 intro args H v ups h
 unfold lT at h
 split at h
 . rename_i es
   rw[aa]at h
   cases hc:decide (es.length<=1000000)with
   | false=>rw[hc]at h;cases h
   | true=>
    rw[hc]at h
    have h1:=of_decide_eq_true hc
    rw[Mz,List.length_nil,Nat.zero_add,ju h1,cT]
    exact h
 . cases h)
theorem cR{i:Int}{n:Nat}(h0:0<=i)(h1:i < n):inB i n=true:=by unfold inB;rw[dT0 h0,dT0 h1];rfl
/- Markers. -/
def mkd:List SV->Bool
 | []=>true
 | x :: xs=>bif asI x !=255 then false else mkd xs
noncomputable def CS:Code:=Tryz.f50.body.getD .skip
noncomputable def c50:Code:=(bx 2 CS).getD .skip
noncomputable def JN:ag:=fun args H=>match args,H with
 | [.psl 5 p,.int .i64 n,.int .i64 i],[]=>.ite (dec (n=p.length/\0<=i/\i<=n/\n<=1000000)) (.ite (mkd (p.drop i.toNat)) (.ret (.tup [.int .i64 2,.junk]) []) (.ret (.tup [.int .i64 1,.bool false]) [])) .fail
 | _,_=>.fail
def mkM:List SV->HpL->Nat
 | [_,.int _ n,.int _ i],_=>(n - i).toNat
 | _,_=>0
noncomputable def e50:LEnt:={ins:=[5,6,7],outs:=[2],keep:=[],size:=14,code:=c50,s:=JN}
theorem N5(N:Nat)(p:List SV)(n i:Int):ay Tryz.prog (bt Tryz.prog (tbl []) 300 5) (fun _=>false) (aL []) true 300 e50 {e50 with s:=az mkM JN N} c50 [.psl 5 p,.int .i64 n,.int .i64 i] []=
 bif decide (i < n)then bif inB i p.length then bif asI (p.getD i.toNat .junk)!=255 then .ret (.tup [.int .i64 1,.bool false]) []else
  bif Nat.blt (n - w64 (i+1)).toNat N then bif dec (n=p.length/\0<=w64 (i+1)/\w64 (i+1)<=n/\n<=1000000)then bif mkd (p.drop (w64 (i+1)).toNat)then .ret (.tup [.int .i64 2,.junk]) []else .ret (.tup [.int .i64 1,.bool false]) []else .fail else .fail
 else .fail else .ret (.tup [.int .i64 2,.junk]) []:=by kernel_rfl
theorem CT      :aR     Tryz.prog e50:=cH          (κ:=bt    Tryz.prog (tbl []) 300 5) (ι:=fun _=>false) (T:=aL   []) (sp:=true) (fuel:=300) (c:=c50) (μ:=mkM) (aG       ap       ax     ok0 300 5) ax     aE       (show aM    (aL   []) c50=c50 by kernel_rfl) (by
 intro N args H v' ups' hbt h
 unfold e50 JN at h
 simp only[]at h
 split at h
 . rename_i p n i
   rw[aa]at h
   cases hc:dec (n=p.length/\0<=i/\i<=n/\n<=1000000)with
   | false=>rw[hc]at h;cases h
   | true=>
    rw[hc,cT]at h
    obtain⟨rfl,h0,h1,h2⟩:=dec_iff.1 hc
    have ht:=N5 N p p.length i
    have hN:Nat.blt ((p.length:Int) - i).toNat (N+1)=true:=hbt
    rw[bL]at hN
    by_cases hi:i < p.length
    . rw[dT0 hi,cT,cR h0 hi,cT,show w64 (i+1)=i+1 from am (by omega) (by omega),show Nat.blt ((p.length:Int) - (i+1)).toNat N=true by rw[bL];omega,dec_iff.2 ⟨rfl,by omega,by omega,h2⟩,cT,cT]at ht
      have hd:mkd (p.drop i.toNat)=bif asI (p.getD i.toNat .junk)!=255 then false else mkd (p.drop (i+1).toNat):=by
       rw[show(i+1).toNat=i.toNat+1 by omega,List.drop_eq_getElem_cons (show i.toNat < p.length by omega),mkd,gD0,List.getElem?_eq_getElem (show i.toNat < p.length by omega)];rfl
      rw[hd]at h
      cases hx:asI (p.getD i.toNat .junk)!=255 with
      | true=>rw[hx]at ht h;cases h;exact .inl ⟨_,congrArg ae ht,fun x=>rfl⟩
      | false=>
       rw[hx]at ht h
       rw[cF]at ht h
       refine .inl ⟨ups',?_,fun x=>rfl⟩
       refine(congrArg ae ht).trans (Eq.trans ?_ h)
       rw[bu,aa]
    . rw[dF0 hi,cF]at ht
      rw[List.drop_of_length_le (by omega)]at h
      cases h
      exact .inl ⟨_,congrArg ae ht,fun x=>rfl⟩
 . cases h)
noncomputable abbrev T50:cQ:=aL [("k",e50)]
noncomputable abbrev m50:Code:=bF [(2, "k")] CS
noncomputable def vj:ag:=bV Tryz.prog (bt Tryz.prog (tbl []) 300 5) (fun _=>false) T50 true 300 Tryz.f50 m50
theorem marked_k0:Known Tryz.prog 50 vj:=⟨⟨Tryz.f50,Tryz.func50,bc ap Tryz.func50,rfl⟩,aZ (aG ap ax ok0 300 5) ax (bf CT aE) Tryz.func50 (show Tryz.f50.body=some (aM T50 m50)by kernel_rfl)⟩
theorem CU(p:List SV):vj [.psl 5 p] []=bif dec ((p.length:Int)=p.length/\(0:Int)<=0/\(0:Int)<=p.length/\(p.length:Int)<=1000000)then bif mkd (p.drop (0:Int).toNat)then .ret (.bool true) []else .ret (.bool false) []else .fail:=by kernel_rfl
noncomputable def pQ:ag:=fun args H=>match args,H with
 | [.psl 5 p],[]=>.ite (dec (p.length<=1000000)) (.ret (.bool (mkd p)) []) .fail
 | _,_=>.fail
theorem CV:Known Tryz.prog 50 pQ:=marked_k0.weak (by
 intro args H v ups h
 unfold pQ at h
 split at h
 . rename_i p
   rw[aa]at h
   cases hc:dec (p.length<=1000000)with
   | false=>rw[hc]at h;cases h
   | true=>
    rw[hc,cT]at h
    have h1:=dec_iff.1 hc
    refine(congrArg ae (CU p)).trans ?_
    rw[dec_iff.2 ⟨rfl,by omega,by omega,by omega⟩,cT,show p.drop (0:Int).toNat=p from rfl]
    cases hm:mkd p <;> rw[hm]at h <;> exact h
 . cases h)
theorem p2:(256:Int) ^ 2=65536:=by decide
noncomputable abbrev κhd:=tbl [(47,lT),(48,fx 2),(49,fx 1),(50,pQ)]
theorem NP:KOk Tryz.prog κhd:=ac rT (ac rS (ac AF (ac CV ok0)))
noncomputable def wQ(q:List SV)(K:Rd->CTree):CTree:=bif decide (q.length<=1000000)then K ⟨0,q.length,0,0⟩else .fail
noncomputable def unC(r:Rd)(q:List SV)(k:Nat)(K:Int->Rd->CTree):CTree:=bif dec (OkRd r q/\q.length=q.length)then K (r.num q k) (r.adv k)else .fail
noncomputable def slI(p:List SV)(a b:Int)(K:List SV->CTree):CTree:=bif decide (0<=a)&&decide (a<=b)&&decide (b<=(p.length:Int))then K ((p.drop a.toNat).take (b.toNat - a.toNat))else .fail
noncomputable def slC(p:List SV)(a b:Nat)(K:List SV->CTree):CTree:=slI p a b K
def hr(n e:Int):CTree:=.ret (.tup [.int .i64 n,.int .i64 e]) []
theorem I4(p:List SV):opn κhd Tryz.f32 [.psl 5 p] []=
 bif decide ((p.length:Int) < 19)then hr 0 0 else slC p 16 19 fun q=>wQ q fun r=>unC r q 2 fun sz r=>unC r q 1 fun kd _=>slC p 0 16 fun m=>bif dec (m.length<=1000000)then
  bif !mkd m then hr 0 16 else bif(bif decide (w64 sz < 19)then true else decide (w64 sz > 4096))then hr 0 5 else bif(bif decide (w64 kd < 1)then true else decide (w64 kd > 5))then hr 0 6 else
  bif decide ((p.length:Int) < w64 sz)then hr 0 0 else hr (w64 sz) 0 else .fail:=by kernel_rfl
def hdP(p:List SV):Int × Int:=
 bif decide (p.length < 19)then(0,0)else bif !mkd (p.take 16)then(0,16)else bif(bif decide (tkN p 16 2 < 19)then true else decide (tkN p 16 2 > 4096))then(0,5)else
 bif(bif decide (dg p 18 < 1)then true else decide (dg p 18 > 5))then(0,6)else bif decide ((p.length:Int) < tkN p 16 2)then(0,0)else(tkN p 16 2,0)
theorem lB{q:List SV}(h:q.length<=1000000)(K:Rd->CTree):wQ q K=K (RD 0 q.length):=by
 unfold wQ;rw[dT0 h];rfl
theorem t9{q:List SV}(hb:byl q)(hl:q.length<=1000000){s:Nat}(hs:s<=q.length):OkRd (RD s q.length) q:=
 ⟨by show(0:Int)<=s;omega,by show(s:Int)<=q.length;omega,by show(q.length:Int)<=q.length;omega,hl,hb.ok⟩
theorem dX{r:Rd}{q:List SV}(h:OkRd r q)(k:Nat)(K:Int->Rd->CTree):unC r q k K=K (r.num q k) (r.adv k):=by
 unfold unC;rw[dec_iff.2 ⟨h,rfl⟩,cT]
theorem wR{p:List SV}{a b:Nat}(h:a<=b)(hb:b<=p.length)(K:List SV->CTree):slC p a b K=K (sl p a (b - a)):=by
 unfold slC slI
 rw[dT0 (show(0:Int)<=a by omega),dT0 (show(a:Int)<=b by omega),dT0 (show(b:Int)<=p.length by omega)]
 rfl
noncomputable def Bv:ag:=fun args H=>match args,H with
 | [.psl 5 p],[]=>.ite (dec (byl p/\p.length<=1000000)) (hr (hdP p).1 (hdP p).2) .fail
 | _,_=>.fail
theorem Bw    :Known Tryz.prog 32 Bv    :=(aj        NP   Tryz.func32 rfl).weak (by
 intro args H v ups h
 unfold Bv at h
 split at h
 . rename_i p
   rw[aa]at h
   cases hc:dec (byl p/\p.length<=1000000)with
   | false=>rw[hc]at h;cases h
   | true=>
    rw[hc,cT]at h
    obtain⟨hb,hl⟩:=dec_iff.1 hc
    refine(congrArg ae (I4 p)).trans ?_
    by_cases h19:p.length < 19
    . rw[dT0 (show(p.length:Int) < 19 by omega),cT]
      unfold hdP at h
      rw[dT0 h19]at h
      exact h
    . have hq:(sl p 16 3).length=3:=eR     (by omega)
      have hbq:byl (sl p 16 3):=hb.sl _ _
      have hm:sl p 0 16=p.take 16:=rfl
      have t2:tkN (sl p 16 3) 0 2=tkN p 16 2:=by have:=lY (es:=p) (s:=16) (m:=3) (j:=0) 2 (by omega);simpa using this.symm
      have t3:tkN (sl p 16 3) 2 1=dg p 18:=by
       have:=lY (es:=p) (s:=16) (m:=3) (j:=2) 1 (by omega)
       rw[<- this,tk1]
      obtain⟨a0,a1⟩:=bT hb.ok 16 2
      obtain⟨b0,b1⟩:=hb.ok 18
      rw[p2]at a1
      rw[dF0 (show ¬ (p.length:Int) < 19 by omega),cF,wR (by omega) (by omega),show 19 - 16=3 from rfl,lB (by omega),dX (t9 hbq (by omega) (by omega)),aY (by omega),aO (by omega),dX (t9 hbq (by omega) (by omega)),aY (by omega),wR (by omega) (by omega),Nat.sub_zero,dec_iff.2 (show(sl p 0 16).length<=1000000 by unfold sl;rw[List.length_take];omega),cT,hm,t2,t3,
       show w64 (tkN p 16 2)=tkN p 16 2 from am (by omega) (by omega),show w64 (dg p 18)=dg p 18 from am (by omega) (by omega)]
      unfold hdP at h
      rw[dF0 h19,cF]at h
      cases c1: !mkd (p.take 16)with
      | true=>rw[c1]at h;exact h
      | false=>
       rw[c1,cF]at h
       rw[cF]
       cases c2:(bif decide (tkN p 16 2 < 19)then true else decide (tkN p 16 2 > 4096))with
       | true=>rw[c2]at h;exact h
       | false=>
        rw[c2,cF]at h
        rw[cF]
        cases c3:(bif decide (dg p 18 < 1)then true else decide (dg p 18 > 5))with
        | true=>rw[c3]at h;exact h
        | false=>
         rw[c3,cF]at h
         rw[cF]
         cases c4:decide ((p.length:Int) < tkN p 16 2) <;> rw[c4]at h <;> exact h
 . cases h)
theorem cells5:Tryz.prog.cellsOf 5=1:=by kernel_rfl
noncomputable def oE:ag:=fun args H=>match args,H with
 | [.psl 5 p],[]=>.ite (dec (byl p/\p.length<=1000000)) (hr (hdP p).1 (hdP p).2) .fail
 | [.qs 0 1 l n],[(0,.seq 5 es)]=>.ite (dec (byl es/\l+n<=es.length/\es.length<=1000000)) (hr (hdP (sl es l n)).1 (hdP (sl es l n)).2) .fail
 | _,_=>.fail
theorem jf{f:FuncId}{s1 s2 s':ag}(h1:Known Tryz.prog f s1)(h2:Known Tryz.prog f s2)(hs:∀ args H v ups,ae (s' args H)=some (v,ups)->ae (s1 args H)=some (v,ups)\/ae (s2 args H)=some (v,ups)):Known Tryz.prog f s':=
 ⟨h1.fn,fun args H v ups h=>by
  rcases hs args H v ups h with h | h
  . exact h1.ok args H v ups h
  . exact h2.ok args H v ups h⟩
noncomputable def yf:ag:=fun args H=>match args,H with
 | [.qs 0 1 l n],[(0,.seq 5 es)]=>.ite (dec (byl es/\l+n<=es.length/\es.length<=1000000)) (hr (hdP (sl es l n)).1 (hdP (sl es l n)).2) .fail
 | _,_=>.fail
theorem Fb:Known Tryz.prog 32 yf:=qV Bw (by
 intro args H v ups h
 unfold yf at h
 split at h
 . rename_i l n es
   rw[aa]at h
   cases hc:dec (byl es/\l+n<=es.length/\es.length<=1000000)with
   | false=>rw[hc]at h;cases h
   | true=>
    rw[hc,cT]at h
    obtain⟨hb,hl,hm⟩:=dec_iff.1 hc
    cases h
    refine⟨[],5,es,l,n,1,rfl,rfl,cells5.symm,hl,rfl,rfl,fun _=>rfl,?_⟩
    show ae (.ite (dec (byl (sl es l n)/\(sl es l n).length<=1000000)) (hr (hdP (sl es l n)).1 (hdP (sl es l n)).2) .fail)=_
    rw[aa,dec_iff.2 ⟨hb.sl _ _,by rw[eR hl];omega⟩];rfl
 . cases h)
theorem Fc:Known Tryz.prog 32 oE:=jf Bw Fb (by
 intro args H v ups h
 unfold oE at h
 split at h
 . exact .inl h
 . exact .inr h
 . cases h)
end Go.Proofs.YtnlmhpancboddaaGreat
