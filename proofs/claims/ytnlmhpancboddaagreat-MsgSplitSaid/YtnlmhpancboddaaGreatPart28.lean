/- The reference of messages: Split's loop, known. -/
import Derived.Test.YtnlmhpancboddaaGreatPart27
import Derived.Test.YtnlmhpancboddaaGreatPart21
import Derived.Test.YtnlmhpancboddaaGreatMachine6
import Derived.Test.YtnlmhpancboddaaGreatMachine5
import Derived.Test.YtnlmhpancboddaaGreatPart22
set_option linter.unusedVariables false
set_option linter.unusedSimpArgs false
namespace Go.Proofs.YtnlmhpancboddaaGreat
open Go.Am
set_option maxRecDepth 100000
theorem zp{b:List SV}{m:Nat}{a:Nat}(hl:b.length<=9000)(K:CTree):∀ (n i:Nat),a+i+n<=b.length->As b m a n i K=bif !mkd (sl b (a+i) n)then rsR b m a 16 else K
 | 0,i,_=>rfl
 | n+1,i,h=>by
  unfold As
  have e1:w64 ((a:Int)+(i:Int))=((a+i:Nat):Int):=(ai (by omega) (by omega)).trans (by omega)
  have e2:w64 ((i:Int)+1)=((i+1:Nat):Int):=(ai (by omega) (by omega)).trans (by omega)
  have e3:sl b (a+i) (n+1)=b.getD (a+i) .junk :: sl b (a+(i+1)) n:=by
   unfold sl
   rw[List.drop_eq_getElem_cons (show a+i < b.length by omega),List.take_succ_cons,gD0,List.getElem?_eq_getElem (show a+i < b.length by omega),Nat.add_assoc]
   rfl
  rw[e1,e2,bJ (by omega) (by omega),cT,show((a+i:Nat):Int).toNat=a+i from rfl,zp hl K n (i+1) (by omega),e3,mkd]
  unfold dg
  cases asI (b.getD (a+i) .junk)!=255 <;> rfl
theorem zq{b rs:List SV}{a:Int}:ChainL Tryz.prog (rsH rs) (.tup [.int .i64 2,.psl 5 b,.junk,.junk,.ptr 0 0,.qs 1 25 0 rs.length,.int .i64 a]) [] (.tup [.int .i64 2,.psl 5 b,.junk,.junk,.ptr 0 0,.qs 2 25 0 rs.length,.int .i64 a]) [(1,none),(2,some (.seq 52 rs))]:=by
 refine .ren ⟨1,2,by simp[rsH],by simp[aj,az],fun x c hx=> ?_,rfl,fun x=> ?_⟩
 . simp only[ad]at hx
   have:=aQ _ _ _ hx
   simp only[rsH,List.mem_cons,pJ,List.not_mem_nil,or_false]at this
   rcases this with ⟨_,rfl⟩ | ⟨_,rfl⟩ <;> simp[aJ,aj,az]
 . match x with
   | 0=>rfl | 1=>rfl | 2=>rfl
   | x+3=>simp only[rsH,ad,HpL.get,show ¬ (x+3=1)by omega,show ¬ (x+3=2)by omega,if_false,show Nat.beq 0 (x+3)=false from bK (by omega),show Nat.beq 1 (x+3)=false from bK (by omega),cF,Option.map_none]
theorem Ki    {b rs:List SV}{a e:Int}{x y:SV}:ChainL Tryz.prog (rsH rs) (.tup [.int .i64 1,.psl 5 b,.qs 1 25 0 rs.length,.nils,.ptr 0 0,x,y]) [(0,some (.cells 28 [.int .i64 e,.int .i64 a]))]
  (.tup [.int .i64 1,.psl 5 b,.qs 2 25 0 rs.length,.nils,.ptr 0 0,.junk,.junk]) [(0,some (.cells 28 [.int .i64 e,.int .i64 a])),(1,none),(2,some (.seq 52 rs))]:=by
 refine .trans (.told (v':=.tup [.int .i64 1,.psl 5 b,.qs 1 25 0 rs.length,.nils,.ptr 0 0,.junk,.junk]) (ups':=[(0,some (.cells 28 [.int .i64 e,.int .i64 a]))]) ⟨1,[.psl 5 b,.qs 1 25 0 rs.length,.nils,.ptr 0 0,x,y],[.psl 5 b,.qs 1 25 0 rs.length,.nils,.ptr 0 0,.junk,.junk],rfl,rfl,.cons .rfl' (.cons .rfl' (.cons .rfl' (.cons .rfl' (CoL.junk Tryz.prog [x,y])))),fun y c' hy=>⟨c',hy,.rfl'⟩⟩) (.ren ⟨1,2,by simp[rsH],by simp[aj,az],fun z c hx=> ?_,rfl,fun z=> ?_⟩)
 . simp only[ad]at hx
   by_cases h0:z=0
   . rw[if_pos h0]at hx;cases hx;simp[aJ,aj,az]
   . rw[if_neg h0]at hx
     have:=aQ _ _ _ hx
     simp only[rsH,List.mem_cons,pJ,List.not_mem_nil,or_false]at this
     rcases this with ⟨_,rfl⟩ | ⟨_,rfl⟩ <;> simp[aJ,aj,az]
 . match z with
   | 0=>rfl | 1=>rfl | 2=>rfl
   | x+3=>simp only[rsH,ad,HpL.get,show ¬ (x+3=0)by omega,show ¬ (x+3=1)by omega,show ¬ (x+3=2)by omega,if_false,show Nat.beq 0 (x+3)=false from bK (by omega),show Nat.beq 1 (x+3)=false from bK (by omega),cF,Option.map_none]
theorem D1      :aO     Tryz.prog sQ  :=fk          (T:=aF   []) (sp:=true) (fuel:=300) (c:=wQ  ) (μ:=rsM) aq     aE       (show aN    (aF   []) wQ  =wQ   by kernel_rfl) (by
 intro N args H v' ups' hbt h
 unfold sQ Ar at h
 simp only[]at h
 split at h
 . rename_i b m a rs
   rw[aa]at h
   cases hc:dec (FS b rs m a)with
   | false=>rw[hc]at h;cases h
   | true=>
    rw[hc,cT,aa]at h
    obtain⟨hb,hl,rfl,a0,a1,ha⟩:=dec_iff.1 hc
    have hN:Nat.blt (b.length - a.toNat) (N+1)=true:=hbt
    rw[bL]at hN
    obtain⟨k,rfl⟩:=Int.eq_ofNat_of_zero_le a0
    have hkn:((k:Nat):Int).toNat=k:=rfl
    rw[hkn]at h hN
    refine⟨κrs,ιrs,HF,?_⟩
    have ht:=Oc N b rs rs.length k
    have hs:=jn b k rs
    have hdl:(b.drop k).length=b.length - k:=List.length_drop
    have wl:w64 ((b.length:Int) - k)=((b.length:Int) - k):=ai (by omega) (by omega)
    rw[wl]at ht
    by_cases h19:(b.drop k).length < 19
    . rw[dF (show ¬ ((b.length:Int) - k>=19)by omega),cF]at ht
      rw[rR h19]at hs
      have hs':spL b k rs=(0,k,rs):=hs
      rw[hs']at h
      cases h
      exact⟨_,_,congrArg ac ht,zq⟩
    . rw[dT0            (show((b.length:Int) - k>=19)by omega),cT       ,show As   b rs.length k 16 0=As   b rs.length k 16 ((0:Nat):Int)from rfl,zp      hl _ 16 0 (by omega),Nat.add_zero]at ht
      have hm:sl b k 16=(b.drop k).take 16:=rfl
      rw[hm]at ht
      obtain⟨t0,t1⟩:=aX hb.ok (k+16) 2
      rw[p2]at t1
      obtain⟨d0,d1⟩:=hb.ok (k+18)
      have bad':∀ e:Int,e≠0->spL b k rs=(e,k,rs)->∀ t,av Tryz.prog κrs ιrs (aF []) true 300 sQ {sQ with s:=ay rsM Ar N} wQ (rsA b rs.length k) (rsH rs)=t->t=rsR b rs.length k e->∃ v ups,ac (av Tryz.prog κrs ιrs (aF []) true 300 sQ {sQ with s:=ay rsM Ar N} wQ (rsA b rs.length k) (rsH rs))=some (v,ups)/\ChainL Tryz.prog (rsH rs) v ups v' ups':=fun e he hr t h1 h2=>by
       rw[hr,show(((e,k,rs):Int × Nat × List SV).1==0)=false by simpa using he]at h
       cases h
       exact⟨_,_,(congrArg ac (h1.trans h2)),Ki⟩
      have e16:w64 ((k:Int)+16)=((k+16:Nat):Int):=(ai (by omega) (by omega)).trans (by omega)
      have e18:w64 ((k:Int)+18)=((k+18:Nat):Int):=(ai (by omega) (by omega)).trans (by omega)
      have k2:∀ K,j5 b ((k+16:Nat):Int) 2 K=K (tkN b (k+16) 2):=fun K=>by unfold j5;rw[dec_iff.2 ⟨hb,by omega,by omega,by omega,by decide⟩];rfl
      have g16:tkN (b.drop k) 16 2=tkN b (k+16) 2:=qa 2
      have g18:dg (b.drop k) 18=dg b (k+18):=lU
      have hh:hdP (b.drop k)=bif !mkd ((b.drop k).take 16)then(0,16)else bif(bif decide (tkN b (k+16) 2 < 19)then true else decide (tkN b (k+16) 2 > 4096))then(0,5)else
        bif(bif decide (dg b (k+18) < 1)then true else decide (dg b (k+18) > 5))then(0,6)else bif decide (((b.drop k).length:Int) < tkN b (k+16) 2)then(0,0)else(tkN b (k+16) 2,0):=by
       unfold hdP;rw[dF h19,cF,g16,g18]
      rw[e16,e18,k2,bJ (by omega) (by omega),cT,show((k+18:Nat):Int).toNat=k+18 from rfl,show w64 (tkN b (k+16) 2)=tkN b (k+16) 2 from ai (by omega) (by omega),show w64 (dg b (k+18))=dg b (k+18)from ai (by omega) (by omega)]at ht
      cases c1: !mkd ((b.drop k).take 16)with
      | true=>
       rw[c1,cT]at hh ht
       rw[hh]at hs
       exact bad' 16 (by decide) hs _ ht rfl
      | false=>
       rw[c1,cF]at hh ht
       unfold rsB at ht
       cases c2:(bif decide (tkN b (k+16) 2 < 19)then true else decide (tkN b (k+16) 2 > 4096))with
       | true=>
        rw[c2,cT]at hh ht
        rw[hh]at hs
        exact bad' 5 (by decide) hs _ ht rfl
       | false=>
        rw[c2,cF]at hh ht
        have hsz:19<=tkN b (k+16) 2/\tkN b (k+16) 2<=4096:=by
         by_cases q1:tkN b (k+16) 2 < 19
         . rw[dT0 q1]at c2;cases c2
         . rw[dF q1,cF]at c2
           have:=of_decide_eq_false c2
           omega
        cases c3:(bif decide (dg b (k+18) < 1)then true else decide (dg b (k+18) > 5))with
        | true=>
         rw[c3,cT]at hh ht
         rw[hh]at hs
         exact bad' 6 (by decide) hs _ ht rfl
        | false=>
         rw[c3,cF]at hh ht
         have hkd:1<=dg b (k+18)/\dg b (k+18)<=5:=by
          by_cases q1:dg b (k+18) < 1
          . rw[dT0 q1]at c3;cases c3
          . rw[dF q1,cF]at c3
            have:=of_decide_eq_false c3
            omega
         rw[wl]at ht
         by_cases hgt:((b.drop k).length:Int) < tkN b (k+16) 2
         . rw[dT0 (show tkN b (k+16) 2 > (b.length:Int) - k by omega),cT]at ht
           rw[dT0 hgt,cT]at hh
           rw[hh]at hs
           have hs':spL b k rs=(0,k,rs):=hs
           rw[hs']at h
           cases h
           exact⟨_,_,congrArg ac ht,zq⟩
         . rw[dF (show ¬ tkN b (k+16) 2 > (b.length:Int) - k by omega),cF]at ht
           rw[dF hgt,cF]at hh
           rw[hh,g18]at hs
           obtain⟨z,hz⟩:=Int.eq_ofNat_of_zero_le t0
           rw[hz]at ht hs hsz hgt
           have hz0:(((z:Int)==0))=false:=by simp;omega
           have e19:w64 ((k:Int)+19)=((k+19:Nat):Int):=(ai (by omega) (by omega)).trans (by omega)
           have ez:w64 ((k:Int)+z)=((k+z:Nat):Int):=(ai (by omega) (by omega)).trans (by omega)
           have hq:sl (b.drop k) 19 (z - 19)=sl b (k+19) (z - 19):=by unfold sl;rw[List.drop_drop]
           simp only[bne_self_eq_false,cF,hz0,show((z:Nat):Int).toNat=z from rfl,hq]at hs
           rw[e19,ez,eK (i:=k+19) (j:=k+z) rfl rfl (by omega) (by omega),show k+z - (k+19)=z - 19 by omega,dec_iff.2 ⟨hkd.1,hkd.2,hb.sl _ _,by rw[dK (by omega)];omega⟩,cT]at ht
           generalize rdP (dg b (k+18)) (sl b (k+19) (z - 19))=r at *
           cases c4:r.2 !=0 with
           | true=>
            rw[c4,cT]at hs
            simp only[c4,cT]at ht
            exact bad' r.2 (by simpa using c4) hs _ ht rfl
           | false=>
            rw[c4,cF]at hs
            simp only[c4,cF,decide_true,cT]at ht
            unfold rsN at ht
            rw[Jy (by omega),cT,show((k+z:Nat):Int).toNat=k+z from rfl,show Nat.blt (b.length - (k+z)) N=true by rw[bL];omega,cT,dec_iff.2 ⟨hb,hl,by rw[lA0];rfl,by omega,by omega,by rw[lA0,lS];omega⟩,cT]at ht
            rw[hs]at h
            refine⟨v',ups',(congrArg ac ht).trans ?_,.same fun _=>rfl⟩
            rw[bt]
            exact h
 . cases h)
abbrev LL:List (Option (Nat × Nat)):=[none,none,some (52,25),none]
noncomputable def LM:LEnt:={sQ with s:=inS LL Ar}
theorem LN:aO Tryz.prog LM:=oA D1 (fs:=LL) ⟨fun h=>absurd h (by decide),trivial⟩
noncomputable abbrev LO:cu:=aF [("r",LM)]
noncomputable abbrev LP:Code:=bx [(3, "r")] yf
noncomputable def uP:ag:=bE Tryz.prog κrs ιrs LO true 300 Tryz.f10 LP
theorem An:Known Tryz.prog 10 uP:=⟨⟨Tryz.f10,Tryz.func10,bf ak Tryz.func10,rfl⟩,aS HF aq (ba LN aE) Tryz.func10 (show Tryz.f10.body=some (aN LO LP)by kernel_rfl)⟩
noncomputable def ya(es:List SV)(r:Int × Nat × List SV):CTree:=
 bif r.1==0 then pU es r.2.1 fun k xs=>.ret (.tup [.qs 0 25 0 r.2.2.length,.qs 1 1 0 k,fl0]) [(0,some (.seq 52 r.2.2)),(1,some (.seq 5 xs))]
 else .ret (.tup [.qs 0 25 0 r.2.2.length,.nils,.agg [.int .i64 r.1,.int .i64 r.2.1]]) [(0,some (.seq 52 r.2.2))]
theorem Cl(es:List SV):uP [.psl 5 es] []=bif dec (FS es [] 0 0)then ya es (spL es (0:Int).toNat [])else .fail:=by kernel_rfl
noncomputable def ls(es:List SV)(r:Int × Nat × List SV):CTree:=
 .ite (r.1==0) (.ret (.tup [.psl 52 r.2.2,.qs 1 1 0 (es.drop r.2.1).length,fl0]) [(1,some (.seq 5 (es.drop r.2.1)))]) (.ret (.tup [.psl 52 r.2.2,.nils,.agg [.int .i64 r.1,.int .i64 r.2.1]]) [])
noncomputable def mC:ag:=fun args H=>match args,H with
 | [.psl 5 es],[]=>.ite (dec (byl es/\es.length<=9000)) (ls es (spL es 0 [])) .fail
 | _,_=>.fail
theorem Ao       :Known Tryz.prog 10 mC       :=bd         An        (by
 intro args H v' ups' h
 unfold mC at h
 split at h
 . rename_i es
   rw[aa]at h
   cases hc:dec (byl es/\es.length<=9000)with
   | false=>rw[hc]at h;cases h
   | true=>
    rw[hc,cT]at h
    obtain⟨hb,hl⟩:=dec_iff.1 hc
    have ht:=Cl es
    rw[dec_iff.2 ⟨hb,hl,rfl,Int.le_refl _,by omega,by simp⟩,cT,show(0:Int).toNat=0 from rfl]at ht
    obtain⟨a1,a2,a3⟩:=sK (es.length - 0) es 0 [] (Nat.zero_le _)
    have a2':(spL es 0 []).2.1<=es.length:=a2
    generalize spL es 0 []=r at *
    unfold ya at ht
    unfold ls at h
    rw[aa]at h
    cases he:r.1==0 with
    | true=>
     rw[he,cT,mQ (a:=r.2.1) rfl (by omega) a2']at ht
     rw[he,cT]at h
     cases h
     refine⟨_,_,congrArg ac ht,.inl ⟨0,52,r.2.2,rfl,.tup (.cons (.qs rfl) .rfl'),fun x c' hx=> ?_⟩⟩
     simp only[ad]at hx
     by_cases h2:x=1
     . subst h2;exact⟨by decide,c',hx,.rfl'⟩
     . rw[if_neg h2]at hx
       simp[HpL.get]at hx
    | false=>
     rw[he,cF]at ht
     rw[he,cF]at h
     cases h
     refine⟨_,_,congrArg ac ht,.inl ⟨0,52,r.2.2,rfl,.tup (.cons (.qs rfl) .rfl'),fun x c' hx=> ?_⟩⟩
     simp[ad,HpL.get]at hx
 . cases h)
noncomputable def pd:ag:=fun args H=>match args,H with
 | [.psl 5 es],[]=>.ite (dec (byl es/\es.length<=9000)) (lO es (spL es 0 [])) .fail
 | _,_=>.fail
theorem Cm      :Known Tryz.prog 10 pd      :=fP        Ao        (by
 intro args H v' ups' h
 unfold pd at h
 split at h
 . rename_i es
   rw[aa]at h
   cases hc:dec (byl es/\es.length<=9000)with
   | false=>rw[hc]at h;cases h
   | true=>
    rw[hc,cT]at h
    have run:∀ t,ac (ls es (spL es 0 []))=t->ac (mC [.psl 5 es] [])=t:=fun t ht=>by
     show ac (.ite (dec (byl es/\es.length<=9000)) (ls es (spL es 0 [])) .fail)=_
     rw[aa,hc];exact ht
    generalize spL es 0 []=r at *
    unfold lO at h
    unfold ls at run
    rw[aa]at h run
    cases he:r.1==0 with
    | true=>
     rw[he,cT]at h run
     cases h
     exact .inr ⟨_,_,run _ rfl,pV⟩
    | false=>
     rw[he,cF]at h run
     exact .inl ⟨_,run _ h,fun x=>rfl⟩
 . cases h)
def tu:ag:=fun args H=>match args,H with
 | [],[]=>.ret (.bool true) []
 | _,_=>.fail
theorem GW:nJ Tryz.prog (bn Tryz.prog (tbl []) 300 8) (fun g=>inl (tbl []) g&&bB Tryz.prog g) true 300 Tryz.f7 [] []= .ret (.bool true) []:=by kernel_rfl
theorem GX:Known Tryz.prog 7 tu:=jq ak aq (aL ak aq ok0 300 8) Tryz.func7 rfl (by
 intro args H v ups h
 unfold tu at h
 split at h
 . exact(congrArg ac GW).trans h
 . cases h)
theorem Tryz.own:ownKnob Tryz.prog.godebug=none:=by kernel_rfl
theorem DT:laidOutB Tryz.prog=true:=by kernel_rfl
theorem DU:mapsRowed Tryz.prog=true:=by kernel_rfl
theorem DV:((List.range Tryz.prog.types.size).all fun t=>match Tryz.prog.underlying t with | some (.slice e)=>decide (0 < Tryz.prog.cellsOf e) | _=>true)=true:=by kernel_rfl
theorem Kd{l:List SV}(h:∀ x ∈ l,OkV Tryz.prog 5 x):byl l:=by
 intro x hx
 obtain⟨n,rfl,hw⟩:=(h x hx).int_inv Tryz.underlying5
 refine⟨n,rfl,?_⟩
 simp[Lit.wf,IntKind.min,IntKind.max,IntKind.signed,IntKind.bits]at hw
 omega
noncomputable abbrev m4:Code:=bx [(10, "m")] HA
def rtB(b:Bool):CTree:=.ret (.bool b) []
noncomputable def DX:Code:=Tryz.f3.body.getD .skip
noncomputable def c3w:Code:=(bv 8 DX).getD .skip
def A4(es:List SV)(n:Nat)(i:Int):Prop:=n=es.length/\n<=9000/\0<=i/\i<=n
noncomputable def Kf:ag:=fun args H=>match args,H with
 | [.qs 0 1 0 n,.int .i64 i],[(0,.seq 5 es)]=>.ite (dec (A4 es n i)) (.ret (.tup [.int .i64 2]) [(0,none)]) .fail
 | _,_=>.fail
def owM:List SV->HpL->Nat
 | [.qs _ _ _ n,.int _ i],_=>n - i.toNat
 | _,_=>0
noncomputable def e3w:LEnt:={ins:=[3,7],outs:=[],keep:=[0,4,5,6],size:=54,code:=c3w,s:=Kf}
noncomputable abbrev κow:=bn Tryz.prog (tbl []) 300 5
theorem owK:KOk Tryz.prog κow:=aL ak aq ok0 300 5
theorem OI(N n:Nat)(es:List SV)(i:Int):av Tryz.prog κow (fun _=>false) (aF []) true 300 e3w {e3w with s:=ay owM Kf N} c3w [.qs 0 1 0 n,.int .i64 i] [(0,.seq 5 es)]=
 bif decide (i < n)then bif inB i n then bif decide (0+i.toNat < es.length)then bif Nat.blt (n - (w64 (i+1)).toNat) N then bif dec (A4 (es.set (0+i.toNat) (.int .u8 77)) n (w64 (i+1)))then .ret (.tup [.int .i64 2]) [(0,none)]else .fail else .fail else .fail else .fail else .ret (.tup [.int .i64 2]) []:=by kernel_rfl
theorem DY      :aO     Tryz.prog e3w:=fk          (T:=aF   []) (sp:=true) (fuel:=300) (c:=c3w) (μ:=owM) aq     aE       (show aN    (aF   []) c3w=c3w by kernel_rfl) (by
 intro N args H v' ups' hbt h
 unfold e3w Kf at h
 simp only[]at h
 split at h
 . rename_i n i es
   rw[aa]at h
   cases hc:dec (A4 es n i)with
   | false=>rw[hc]at h;cases h
   | true=>
    rw[hc,cT]at h
    obtain⟨rfl,h9,h0,h1⟩:=dec_iff.1 hc
    have hN:Nat.blt (es.length - i.toNat) (N+1)=true:=hbt
    rw[bL]at hN
    refine⟨κow,fun _=>false,owK,?_⟩
    have ht:=OI N es.length es i
    by_cases hi:i < es.length
    . have e1:w64 (i+1)=i+1:=ai (by omega) (by omega)
      rw[dT0 hi,cT,bJ h0 hi,cT,dT0 (show 0+i.toNat < es.length by omega),cT,e1,show Nat.blt (es.length - (i+1).toNat) N=true by rw[bL];omega,cT,dec_iff.2 ⟨by rw[List.length_set],h9,by omega,by omega⟩,cT]at ht
      exact⟨_,_,(congrArg ac ht).trans h,.same fun _=>rfl⟩
    . rw[dF hi,cF]at ht
      cases h
      refine⟨_,_,congrArg ac ht,.told ⟨2,[],[],rfl,rfl,.nil,fun y c' hy=> ?_⟩⟩
      match y with
      | 0=>cases hy
      | y+1=>exact⟨c',hy,.rfl'⟩
 . cases h)
noncomputable abbrev κms:=tbl [(7,tu),(9,pW),(10,pd),(11,tt)]
theorem OJ:KOk Tryz.prog κms:=af GX (af DG (af Cm (af GV ok0)))
noncomputable abbrev T3:cu:=aF [("w",e3w)]
noncomputable abbrev m3:Code:=bx [(8, "w")] DX
noncomputable def law3_b:ag:=bE Tryz.prog (bn Tryz.prog κms 300 5) (fun g=>inl κms g&&bB Tryz.prog g) T3 true 300 Tryz.f3 m3
theorem law3_k0:Known Tryz.prog 3 law3_b:=⟨⟨Tryz.f3,Tryz.func3,bf ak Tryz.func3,rfl⟩,aS (aL ak aq OJ 300 5) aq (ba DY aE) Tryz.func3 (show Tryz.f3.body=some (aN T3 m3)by kernel_rfl)⟩
noncomputable def msC(xs ys:List SV)(K:CTree):CTree:=bif dec (ys=xs/\ki xs)then K else .fail
noncomputable def M5(b X:List SV)(r q:Int × Nat × List SV):CTree:=
  (bif q.1==0 then msC r.2.2 q.2.2 (elC 0 (X.drop r.2.1).length (X.drop r.2.1) fun xs=>elC 0 (b.drop q.2.1).length (b.drop q.2.1) fun ys=>bif oZ xs==oZ ys then rtB true else rtB false)
  else msC r.2.2 q.2.2 (elC 0 (X.drop r.2.1).length (X.drop r.2.1) fun xs=>bif oZ xs==[]then rtB (0==q.1&&0==(q.2.1:Int))else rtB false))
noncomputable def M6(b:List SV)(r q:Int × Nat × List SV):CTree:=
  (bif q.1==0 then msC r.2.2 q.2.2 (elC 0 (b.drop q.2.1).length (b.drop q.2.1) fun ys=>bif []==oZ ys then rtB (r.1==0&&(r.2.1:Int)==0)else rtB false)
  else msC r.2.2 q.2.2 (rtB (r.1==q.1&&(r.2.1:Int)==q.2.1)))
noncomputable def msR(b X:List SV)(n:Nat):CTree:=bif dec (byl X/\n=X.length/\X.length<=1000000)then
 bif(spL X 0 []).1==0 then bif dec (A4 X n 0)then bif dec (byl b/\b.length<=9000)then M5 b X (spL X 0 []) (spL b 0 [])else .fail else .fail
 else bif dec (A4 X n 0)then bif dec (byl b/\b.length<=9000)then M6 b (spL X 0 []) (spL b 0 [])else .fail else .fail else .fail
theorem law3_t(b:List SV):law3_b [.psl 5 b] []=bif decide ((b.length:Int) > 9000)then rtB true else
 bif te (([]:List SV).length+b.length)then msR b ([]++b) (([]:List SV).length+b.length)else .fail:=by kernel_rfl
end Go.Proofs.YtnlmhpancboddaaGreat
