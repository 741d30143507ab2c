/- MsgBack: the loop that encodes the messages, known. -/
import Derived.Test.YtnlmhpancboddaaGreatPart24
import Derived.Test.YtnlmhpancboddaaGreatPart23
set_option linter.unusedVariables false
set_option linter.unusedSimpArgs false
namespace Go.Proofs.YtnlmhpancboddaaGreat
open Go.Am
set_option maxRecDepth 100000
theorem uw{l:List (Nat × Option Chunk)}{f:Nat->Option Chunk}(x:Nat):ad ((0,none) :: (1,none) :: l) f x=ad ((1,none) :: (0,none) :: l) f x:=by
 simp only[ad]
 have e:(fun y=>if y=1 then none else if y=0 then none else f y)=fun y=>if y=0 then none else if y=1 then none else f y:=by
  funext y
  by_cases h0:y=0
  . subst h0;rfl
  . by_cases h1:y=1
    . subst h1;rfl
    . rw[if_neg h1,if_neg h0,if_neg h0,if_neg h1]
 rw[e]
theorem Fg     {A W:List SV}:ChainL Tryz.prog (bkH A W) (.tup [.int .i64 2,.junk,.qs 0 1 0 A.length,.qs 1 25 0 W.length]) []
  (.tup [.int .i64 2,.junk,.qs 2 1 0 A.length,.qs 3 25 0 W.length]) [(0,none),(1,none),(2,some (.seq 5 A)),(3,some (.seq 52 W))]:=by
 refine .trans (v1:=.tup [.int .i64 2,.junk,.qs 2 1 0 A.length,.qs 1 25 0 W.length]) (ups1:=[(0,none),(2,some (.seq 5 A))]) (.ren ⟨0,2,by simp[bkH],by simp[ak,aF],fun x c hx=> ?_,rfl,fun x=> ?_⟩) (.ren ⟨1,3,by simp[bkH],by simp[ak,aF],fun x c hx=> ?_,rfl,fun x=> ?_⟩)
 . simp only[ad]at hx
   have:=aU _ _ _ hx
   simp only[bkH,List.mem_cons,pJ,List.not_mem_nil,or_false]at this
   rcases this with ⟨_,rfl⟩ | ⟨_,rfl⟩ <;> simp[aJ,aF,ak]
 . match x with
   | 0=>rfl | 1=>rfl | 2=>rfl
   | x+3=>simp only[ad,bkH,HpL.get,show ¬ (x+3=0)by omega,show ¬ (x+3=2)by omega,if_false,show Nat.beq 0 (x+3)=false from b8 (by omega),show Nat.beq 1 (x+3)=false from b8 (by omega),cF,Option.map_none]
 . simp only[ad  ]at hx
   by_cases h2:x=2
   . rw[if_pos h2]at hx;cases hx;simp[aJ]
   . rw[if_neg h2]at hx
     by_cases h0:x=0
     . rw[if_pos h0]at hx;cases hx
     . rw[if_neg h0]at hx
       have:=aU _ _ _ hx
       simp only[bkH,List.mem_cons,pJ,List.not_mem_nil,or_false]at this
       rcases this with ⟨_,rfl⟩ | ⟨_,rfl⟩ <;> simp[aJ,aF,ak]
 . match x with
   | 0=>rfl | 1=>rfl | 2=>rfl | 3=>rfl
   | x+4=>simp only[ad,bkH,HpL.get,show ¬ (x+4=0)by omega,show ¬ (x+4=1)by omega,show ¬ (x+4=2)by omega,show ¬ (x+4=3)by omega,if_false,show Nat.beq 0 (x+4)=false from b8 (by omega),show Nat.beq 1 (x+4)=false from b8 (by omega),cF,Option.map_none]
theorem Fh{A W:List SV}{x y:SV}:ChainL Tryz.prog (bkH A W) (.tup [.int .i64 1,.bool true,x,y]) [] (.tup [.int .i64 1,.bool true,.junk,.junk]) [(0,none),(1,none)]:=by
 refine .told ⟨1,[.bool true,x,y],[.bool true,.junk,.junk],rfl,rfl,.cons .rfl' (CoL.junk Tryz.prog [x,y]),fun y c' hy=> ?_⟩
 match y with
 | 0=>cases hy
 | 1=>cases hy
 | y+2=>
  simp only[ad,bkH,HpL.get,show ¬ (y+2=0)by omega,show ¬ (y+2=1)by omega,if_false,show Nat.beq 0 (y+2)=false from b8 (by omega),show Nat.beq 1 (y+2)=false from b8 (by omega),cF]at hy
  cases hy
theorem sO{m:Mg}(h:MIn m)(hl:mj m=true):MOk m:=by
 have hb:∀ x y:Bool,(bif x then y else false)=(x&&y):=by decide
 simp only[mj,hb,bA,decide_eq_true_eq]at hl
 obtain⟨⟨_,h4⟩,h5⟩:=hl
 exact⟨h.a0,h.a1,h.i0,h.i1,h.inn,by omega,by omega⟩
theorem lH{m:Mg}:(enM m).length=19+(bdM m).length:=oS _ _
theorem I9{N:Nat}{ls A W:List SV}{n k:Nat}{i:Int}{m:Mg}(h:EnOk m)(hi0:0<=i)(hi:i < ls.length):bkG N ls A W n k i (enM m) m=bkP N ls A W n k i (enM m) (mgV m):=by
 have hl:=lH (m:=m)
 have hb:=h.bl
 have hk0:=h.k0;have hk1:=h.k1
 have t:=DU (k:=m.k) (es:=bdM m) (post:=[]) h.bl
 have d:=xJ (k:=m.k) (es:=bdM m) (post:=[]) (by omega) (by omega)
 rw[List.append_nil]at t d
 have t':(0 * 256+dg (enM m) 16) * 256+dg (enM m) 17=19+(bdM m).length:=t
 have d':dg (enM m) 18=m.k:=d
 have hy:byl (enM m):=tz h.by_
 obtain⟨a0,a1⟩:=hy.ok 16
 obtain⟨b0,b1⟩:=hy.ok 17
 unfold bkG
 rw[dF0 (by omega),cF,dF0 (by omega),cF,cR (by decide) (by omega),cT,dT0 (by omega),cT,cR (by decide) (by omega),cT,dT0 (by omega),cT,
  show w64 (dg (enM m) 16)=dg (enM m) 16 from am (by omega) (by omega),show w64 (dg (enM m) 16 * 256)=dg (enM m) 16 * 256 from am (by omega) (by omega),show w64 (dg (enM m) 17)=dg (enM m) 17 from am (by omega) (by omega),
  show w64 (dg (enM m) 16 * 256+dg (enM m) 17)=dg (enM m) 16 * 256+dg (enM m) 17 from am (by omega) (by omega),show(dg (enM m) 16 * 256+dg (enM m) 17 !=((enM m).length:Int))=false by rw[bne_eq_false_iff_eq];omega,cF,
  cR (by decide) (by omega),cT,dT0 (by omega),cT,cR hi0 hi,cT,d',show w64 m.k=m.k from am (by omega) (by omega),show(m.k !=m.k)=false by simp,cF]
theorem BS      :aR     Tryz.prog e6b:=vN          (T:=aL   []) (sp:=true) (fuel:=300) (c:=c6b) (μ:=bkM) ax     aE       (show aM    (aL   []) c6b=c6b by kernel_rfl) (by
 intro N args H v' ups' hbt h
 unfold e6b AU at h
 simp only[]at h
 split at h
 . rename_i ls n k i A W
   rw[aa]at h
   cases hc:dec (BkI ls A W n k i)with
   | false=>rw[hc]at h;cases h
   | true=>
    rw[hc,cT,aa]at h
    obtain⟨rfl,rfl,l12,i0,i1,al,wl,inn⟩:=dec_iff.1 hc
    have hN:Nat.blt (ls.length - i.toNat) (N+1)=true:=hbt
    rw[bL]at hN
    refine⟨κb6,ιb6,aG ap ax Ok 300 5,?_⟩
    have ht:=Oj N ls A W A.length W.length i
    by_cases hi:i < ls.length
    . obtain⟨j,rfl⟩:=Int.eq_ofNat_of_zero_le i0
      have hj:((j:Nat):Int).toNat=j:=rfl
      rw[hj]at h hN al wl ht
      have hin:=inn j (by omega)
      have hw:w64 ((j:Int)+1)=((j+1:Nat):Int):=(am (by omega) (by omega)).trans (by omega)
      obtain⟨f,hf⟩:∃ f,ls.length - j=f+1:=⟨ls.length - j - 1,by omega⟩
      rw[hf]at h
      unfold bkF at h
      rw[dT0 hi,cT,cR (by omega) hi,cT]at ht
      generalize hm:dB (ls.getD j .junk)=m at *
      have f1:ls.length - (j+1)=f:=by omega
      have nx:∀ A' W',BkI ls A' W' A'.length W'.length ((j+1:Nat):Int)->ay Tryz.prog κb6 ιb6 (aL []) true 300 e6b {e6b with s:=az bkM AU N} c6b (bkA ls A.length W.length j) (bkH A W)=bkN N 1 0 ls A' W' A'.length W'.length ((j+1:Nat):Int)->
        (bif(bkF f ls (j+1) A' W').isSome then ae (.ret (.tup [.int .i64 2,.junk,.qs 2 1 0 ((bkF f ls (j+1) A' W').getD ([],[])).1.length,.qs 3 25 0 ((bkF f ls (j+1) A' W').getD ([],[])).2.length]) [(0,none),(1,none),(2,some (.seq 5 ((bkF f ls (j+1) A' W').getD ([],[])).1)),(3,some (.seq 52 ((bkF f ls (j+1) A' W').getD ([],[])).2))])else ae (.ret (.tup [.int .i64 1,.bool true,.junk,.junk]) [(0,none),(1,none)]))=some (v',ups')->
        ∃ v ups,ae (ay Tryz.prog κb6 ιb6 (aL []) true 300 e6b {e6b with s:=az bkM AU N} c6b (bkA ls A.length W.length j) (bkH A W))=some (v,ups)/\ChainL Tryz.prog (bkH A W) v ups v' ups':=fun A' W' hI hl hr=>by
       unfold bkN at hl
       have hj1:((j+1:Nat):Int).toNat=j+1:=rfl
       rw[hj1,f1,show Nat.blt f N=true by rw[bL];omega,cT,dec_iff.2 hI,cT]at hl
       cases hb:(bkF f ls (j+1) A' W').isSome with
       | true=>
        rw[hb,cT]at hl hr
        cases hr
        exact⟨_,_,congrArg ae hl,.same fun x=>uw x⟩
       | false=>
        rw[hb,cF]at hl hr
        cases hr
        exact⟨_,_,congrArg ae hl,.same fun x=>uw x⟩
      simp only[]at ht
      cases hlit:mj m with
      | false=>
       rw[hlit]at h
       rw[hlit,Bool.not_false,cT]at ht
       cases h
       exact⟨_,_,congrArg ae ht,Fh⟩
      | true=>
       have hok:=sO hin hlit
       rw[hlit,Bool.not_true,cF]at h ht
       rw[cT,dec_iff.2 hok,cT]at ht
       cases he:erM m !=0 with
       | true=>
        have he0:¬ erM m=0:=by simpa using he
        rw[he,cT]at h ht
        rw[show(erM m !=erM m)=false by simp,cT,cT,cF,cT]at ht
        unfold bkX at ht
        rw[show(erM m==0)=false by simpa using he0,cF,hw]at ht
        exact nx A W ⟨rfl,rfl,l12,by omega,by omega,by simp only[Int.toNat_natCast];omega,by simp only[Int.toNat_natCast];omega,inn⟩ ht h
       | false=>
        have he0:erM m=0:=by simpa using he
        have hen:=tx hok he0
        rw[he,cF]at h ht
        have hel:=lH (m:=m)
        have hbl:=hen.bl
        rw[cT,cT,show((0:Int)!=erM m)=false by rw[he0];rfl,cF,I9 hen (by omega) hi]at ht
        unfold bkP at ht
        rw[dT0 rfl,cT,yP,ju (by omega),cT,cR (by omega) hi,cT,dT0 rfl,cT,Kh (by omega),cT,hw,<- lA0]at ht
        have hwl:W.length+1=(W++[mgV m]).length:=by rw[lA0];rfl
        rw[hwl]at ht
        exact nx (A++enM m) (W++[mgV m]) ⟨rfl,rfl,l12,by omega,by omega,by rw[lA0];simp only[Int.toNat_natCast];omega,by rw[lA0];simp only[Int.toNat_natCast,lS];omega,inn⟩ ht h
    . rw[dF0 hi,cF]at ht
      rw[show ls.length - i.toNat=0 by omega]at h
      cases h
      exact⟨_,_,congrArg ae ht,Fg⟩
 . cases h)
noncomputable def qa:ag:=fun args H=>match args,H with
 | [.qs 0 1 0 n],[(0,.seq 5 es)]=>.ite (dec (byl es/\n=es.length/\es.length<=1000000/\(spL es 0 []).1=0)) (.ret (.tup [.psl 52 (spL es 0 []).2.2,.qs 1 1 0 (es.drop (spL es 0 []).2.1).length,fl0]) [(1,some (.seq 5 (es.drop (spL es 0 []).2.1)))]) .fail
 | _,_=>.fail
theorem Dn:Known Tryz.prog 9 qa:=split2_k.weak (by
 intro args H v ups h
 unfold qa at h
 split at h
 . rename_i n es
   rw[aa]at h
   cases hc:dec (byl es/\n=es.length/\es.length<=1000000/\(spL es 0 []).1=0)with
   | false=>rw[hc]at h;cases h
   | true=>
    rw[hc,cT]at h
    obtain⟨h1,h2,h3,h4⟩:=dec_iff.1 hc
    show ae (.ite (dec (byl es/\n=es.length/\es.length<=1000000)) (pm es (spL es 0 [])) .fail)=_
    rw[aa,dec_iff.2 ⟨h1,h2,h3⟩,cT]
    unfold pm
    rw[aa,h4]
    exact h
 . cases h)
noncomputable abbrev HV:ag:=rh fun m=>.ite (dec (MOk m/\erM m≠0)) (.ret (.tup [.junk,.int .i64 (erM m)]) []) .fail
noncomputable abbrev HW:ag:=rh fun m=>.ite (dec (MOk m/\erM m=0)) (.ret (.tup [.qs 0 1 0 (enM m).length,.int .i64 0]) [(0,some (.seq 5 (enM m)))]) .fail
theorem Do(m:Mg):yc [mgV m] []= .ite (dec (MOk m)) (.ite (erM m !=0) (.ret (.tup [.nils,.int .i64 (erM m)]) []) (.ret (.tup [.qs 0 1 0 (enM m).length,.int .i64 0]) [(0,some (.seq 5 (enM m)))])) .fail:=rfl
theorem MO:Known Tryz.prog 13 HV:=bw byG_k (by
 intro args H v' ups' h
 obtain⟨m,rfl,rfl,h'⟩:=eh h
 rw[aa]at h'
 cases hc:dec (MOk m/\erM m≠0)with
 | false=>rw[hc]at h';cases h'
 | true=>
  rw[hc]at h'
  obtain⟨h1,h2⟩:=dec_iff.1 hc
  cases h'
  refine⟨_,_,?_,.inr ⟨.tup (.cons (xo (v:=.nils)) .rfl'),fun x c' hx=>⟨c',hx,.rfl'⟩⟩⟩
  rw[Do,aa,dec_iff.2 h1,cT,aa,show(erM m !=0)=true by simpa using h2];rfl)
theorem MP:Known Tryz.prog 13 HW:=byG_k.weak (by
 intro args H v ups h
 obtain⟨m,rfl,rfl,h'⟩:=eh h
 rw[aa]at h'
 cases hc:dec (MOk m/\erM m=0)with
 | false=>rw[hc]at h';cases h'
 | true=>
  rw[hc]at h'
  obtain⟨h1,h2⟩:=dec_iff.1 hc
  rw[Do,aa,dec_iff.2 h1,cT,aa,show(erM m !=0)=false by rw[h2];rfl]
  exact h')
abbrev fs6:List (Option (Nat × Nat)):=[none,some (5,1),some (52,25),none]
noncomputable def e6i:LEnt:={e6b with s:=inS fs6 AU}
theorem MQ:aR Tryz.prog e6i:=Gx BS (fs:=fs6) ⟨fun _=>⟨Tryz.underlying5,by kernel_rfl⟩,fun h=>absurd h (by decide),trivial⟩
noncomputable abbrev T6:cQ:=aL [("m",e6i)]
noncomputable abbrev m6:Code:=bF [(8, "m")] HZ
noncomputable abbrev κbc(s:ag):=tbl [(7,tv),(9,qa),(11,tu),(12,wZ),(13,s),(14,DD)]
theorem Of{s:ag}(h:Known Tryz.prog 13 s):KOk Tryz.prog (κbc s):=ac GH (ac Dn (ac GF (ac Jh (ac h (ac HY ok0)))))
noncomputable def law6_b(s:ag):ag:=bV Tryz.prog (bt Tryz.prog (κbc s) 300 5) (fun g=>inl (κbc s) g&&bJ Tryz.prog g) T6 true 300 Tryz.f6 m6
theorem law6_k0{s:ag}(h:Known Tryz.prog 13 s):Known Tryz.prog 6 (law6_b s):=⟨⟨Tryz.f6,Tryz.func6,bc ap Tryz.func6,rfl⟩,aZ (aG ap ax (Of h) 300 5) ax (bf MQ aE) Tryz.func6 (show Tryz.f6.body=some (aM T6 m6)by kernel_rfl)⟩
noncomputable def bcS(A W:List SV)(K:CTree):CTree:=bif dec (byl A/\A.length=A.length/\A.length<=1000000/\(spL A 0 []).1=0)then
 bif((A.drop (spL A 0 []).2.1).length:Int)!=0 then rtB false else bif dec ((spL A 0 []).2.2=W/\W.length=W.length/\n5 W)then K else .fail else .fail
noncomputable def bcB(ls:List SV)(m:Mg)(K:List SV->List SV->CTree):CTree:=bif(bif decide ((ls.length:Int) > 12)then true else !mj m)then rtB true else
 bif dec (BkI ls [] [] 0 0 0)then bif(bkF (ls.length - (0:Int).toNat) ls (0:Int).toNat [] []).isSome then
  bcS ((bkF (ls.length - (0:Int).toNat) ls (0:Int).toNat [] []).getD ([],[])).1 ((bkF (ls.length - (0:Int).toNat) ls (0:Int).toNat [] []).getD ([],[])).2 (K ((bkF (ls.length - (0:Int).toNat) ls (0:Int).toNat [] []).getD ([],[])).1 ((bkF (ls.length - (0:Int).toNat) ls (0:Int).toNat [] []).getD ([],[])).2)
  else rtB true else .fail
theorem law6_n(ls:List SV)(m:Mg)(cut:Int):law6_b HV [.psl 52 ls,mgV m,.int .i64 cut] []=bcB ls m fun A W=>bif dec (MOk m/\erM m≠0)then bif erM m !=0 then rtB true else .fail else .fail:=by kernel_rfl
noncomputable def bcE(A W E:List SV)(c:Int):CTree:=bif decide ((0:Int)<=0)&&decide (0<=c)&&decide (c<=E.length)then apQ A.length A 0 c.toNat E fun n X=>
 bif dec (byl X/\n=X.length/\X.length<=1000000/\(spL X 0 []).1=0)then elC 0 (X.drop (spL X 0 []).2.1).length (X.drop (spL X 0 []).2.1) fun xs=>bif decide ((0:Int)<=0)&&decide (0<=c)&&decide (c<=E.length)then elC 0 c.toNat E fun ys=>
  bif Ff xs==Ff ys then bif dec ((spL X 0 []).2.2=W/\W.length=W.length/\n5 W)then rtB true else .fail else rtB false else .fail else .fail else .fail
theorem law6_z(ls:List SV)(m:Mg)(cut:Int):law6_b HW [.psl 52 ls,mgV m,.int .i64 cut] []=bcB ls m fun A W=>bif dec (MOk m/\erM m=0)then
 bif decide (0 < ((enM m).length:Int))then bcE A W (enM m) (pck cut (enM m).length)else .fail else .fail:=by kernel_rfl
end Go.Proofs.YtnlmhpancboddaaGreat
