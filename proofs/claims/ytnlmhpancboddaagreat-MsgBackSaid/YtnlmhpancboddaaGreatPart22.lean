/- Messages: Split. -/
import Derived.Test.YtnlmhpancboddaaGreatPart21
import Derived.Test.YtnlmhpancboddaaGreatPart19
import Derived.Test.YtnlmhpancboddaaGreatPart13
set_option linter.unusedVariables false
set_option linter.unusedSimpArgs false
namespace Go.Proofs.YtnlmhpancboddaaGreat
open Go.Am
set_option maxRecDepth 100000
noncomputable abbrev Tsp:cQ:=aL [("m",e31)]
noncomputable abbrev Msp:Nat->Option Code:=wC [(31,m31)]
noncomputable abbrev b9:Code:=Tryz.f9.body.getD .skip
noncomputable def yp:ag:=oZ Tryz.prog κsp ιsp Tsp Msp true 300 Tryz.f9 b9
theorem B6:Known Tryz.prog 9 yp:=
 ⟨⟨Tryz.f9,Tryz.func9,bc ap Tryz.func9,rfl⟩,i9 ye ax (bf AB aE) (mS Tryz.func31 (show Tryz.f31.body=some (aM Tsp m31)by kernel_rfl) o4) Tryz.func9 (show Tryz.f9.body=some (aM Tsp b9)by kernel_rfl)⟩
noncomputable def yq(n:Nat)(es:List SV)(e:Int)(K:Nat->List SV->CTree):CTree:=
 bif decide (0<=e)&&decide (e<=n)&&decide ((n:Int)<=n)then
  bif decide (0+e.toNat=0)&&decide ((n:Int).toNat - e.toNat=es.length)then(bif ri (([]:List SV).length+es.length)then K (([]:List SV).length+es.length) ([]++es)else .fail)
  else bif decide (0+e.toNat+((n:Int).toNat - e.toNat)<=es.length)then(bif ri (([]:List SV).length+((es.drop (0+e.toNat)).take ((n:Int).toNat - e.toNat)).length)then K (([]:List SV).length+((es.drop (0+e.toNat)).take ((n:Int).toNat - e.toNat)).length) ([]++((es.drop (0+e.toNat)).take ((n:Int).toNat - e.toNat)))else .fail)else .fail else .fail
def fl0:SV:=.agg [.int .i64 0,.int .i64 0]
noncomputable def B7(n:Nat)(es:List SV)(r:Int × Nat × List SV):CTree:=
 bif decide (r.2.2.length=0)then(bif r.1==0 then yq n es 0 fun k xs=>.ret (.tup [.nils,.qs 1 1 0 k,fl0]) [(1,some (.seq 5 xs))]else .ret (.tup [.nils,.nils,.agg [.int .i64 r.1,.int .i64 r.2.1]]) [])
 else bif r.1==0 then yq n es r.2.1 fun k xs=>.ret (.tup [.qs 1 25 0 r.2.2.length,.qs 2 1 0 k,fl0]) [(1,some (.seq 52 r.2.2)),(2,some (.seq 5 xs))]else .ret (.tup [.qs 1 25 0 r.2.2.length,.nils,.agg [.int .i64 r.1,.int .i64 r.2.1]]) [(1,some (.seq 52 r.2.2))]
theorem Fm(n:Nat)(es:List SV):yp [.qs 0 1 0 n] [(0,.seq 5 es)]=bif dec (6=6/\7=7/\HS0 n es 0=HS0 n es 0/\spO n es 0 [])then B7 n es (spL es (0:Int).toNat [])else .fail:=by kernel_rfl
theorem uI{n:Nat}{es:List SV}{a:Nat}{e:Int}(he:e=a)(hn:n=es.length)(hl:es.length<=1000000)(ha:a<=es.length)(K:Nat->List SV->CTree):yq n es e K=K (es.drop a).length (es.drop a):=by
 subst he hn
 unfold yq
 rw[dT0 (show(0:Int)<=a by omega),dT0 (show(a:Int)<=es.length by omega),dT0 (Int.le_refl _),show((a:Nat):Int).toNat=a from rfl,show((es.length:Nat):Int).toNat=es.length from rfl]
 simp only[Bool.and_self,cT,List.length_nil,Nat.zero_add,nA]
 have hs:(es.drop a).take (es.length - a)=es.drop a:=List.take_of_length_le (by rw[List.length_drop];omega)
 by_cases h0:a=0
 . subst h0
   rw[dT0 rfl,dT0 (show es.length - 0=es.length by omega),ju hl];rfl
 . rw[dF0 h0,Bool.false_and,cF,dT0 (show a+(es.length - a)<=es.length by omega),cT,hs,ju (by rw[List.length_drop];omega),cT]
theorem wW    :∀ (f:Nat) (es:List SV) (a:Nat) (rs:List SV),a<=es.length->a<=(spF f es a rs).2.1/\(spF f es a rs).2.1<=es.length/\((spF f es a rs).2.2.length=rs.length->(spF f es a rs).2.1=a)
 | 0,_,a,_,h=>⟨Nat.le_refl _,h,fun _=>rfl⟩
 | f+1,es,a,rs,h=>by
  unfold spF
  cases c1:(hdP (es.drop a)).2 !=0 with
  | true=>exact⟨Nat.le_refl _,h,fun _=>rfl⟩
  | false=>
   rw[cF]
   cases c2:(hdP (es.drop a)).1==0 with
   | true=>exact⟨Nat.le_refl _,h,fun _=>rfl⟩
   | false=>
    rw[cF]
    have hc:=ei (es.drop a) (by simpa using c1)
    have h0:(hdP (es.drop a)).1≠0:=by simpa using c2
    obtain⟨h1,h2,h3⟩:=hc.resolve_left h0
    rw[List.length_drop]at h2
    cases(rdP (dg (es.drop a) 18) (sl (es.drop a) 19 ((hdP (es.drop a)).1.toNat - 19))).2 !=0 with
    | true=>exact⟨Nat.le_refl _,h,fun _=>rfl⟩
    | false=>
     rw[cF]
     obtain⟨g1,g2,g3⟩:=wW f es (a+(hdP (es.drop a)).1.toNat) (rs++[mgV (rdP (dg (es.drop a) 18) (sl (es.drop a) 19 ((hdP (es.drop a)).1.toNat - 19))).1]) (by omega)
     refine⟨by omega,g2,fun hx=> ?_⟩
     have:=oK f es (a+(hdP (es.drop a)).1.toNat) (rs++[mgV (rdP (dg (es.drop a) 18) (sl (es.drop a) 19 ((hdP (es.drop a)).1.toNat - 19))).1])
     rw[lA0,lS]at this
     omega
noncomputable def pm(es:List SV)(r:Int × Nat × List SV):CTree:=
 .ite (r.1==0) (.ret (.tup [.psl 52 r.2.2,.qs 1 1 0 (es.drop r.2.1).length,fl0]) [(1,some (.seq 5 (es.drop r.2.1)))]) (.ret (.tup [.psl 52 r.2.2,.nils,.agg [.int .i64 r.1,.int .i64 r.2.1]]) [])
noncomputable def pn(es:List SV)(r:Int × Nat × List SV):CTree:=
 .ite (r.1==0) (.ite (decide (r.2.2.length=0)) (.ret (.tup [.psl 52 r.2.2,.qs 1 1 0 (es.drop r.2.1).length,fl0]) [(1,some (.seq 5 (es.drop r.2.1)))]) (.ret (.tup [.psl 52 r.2.2,.qs 2 1 0 (es.drop r.2.1).length,fl0]) [(2,some (.seq 5 (es.drop r.2.1)))]))
  (.ret (.tup [.psl 52 r.2.2,.nils,.agg [.int .i64 r.1,.int .i64 r.2.1]]) [])
noncomputable def po:ag:=fun args H=>match args,H with
 | [.qs 0 1 0 n],[(0,.seq 5 es)]=>.ite (dec (byl es/\n=es.length/\es.length<=1000000)) (pn es (spL es 0 [])) .fail
 | _,_=>.fail
theorem B8      :Known Tryz.prog 9 po      :=bw         B6       (by
 intro args H v' ups' h
 unfold po at h
 split at h
 . rename_i n es
   rw[aa]at h
   cases hc:dec (byl es/\n=es.length/\es.length<=1000000)with
   | false=>rw[hc]at h;cases h
   | true=>
    rw[hc,cT]at h
    obtain⟨hb,rfl,hl⟩:=dec_iff.1 hc
    have ht:=Fm es.length es
    rw[dec_iff.2 ⟨rfl,rfl,rfl,hb,rfl,hl,by omega,by omega,by simp;omega⟩,cT,show(0:Int).toNat=0 from rfl]at ht
    obtain⟨a1,a2,a3⟩:=wW (es.length - 0) es 0 [] (Nat.zero_le _)
    have a3':(spL es 0 []).2.2.length=0->(spL es 0 []).2.1=0:=a3
    have a2':(spL es 0 []).2.1<=es.length:=a2
    generalize spL es 0 []=r at *
    have hg:∀ x c',HpL.get [(0,.seq 5 es)] x=some c'->x=0:=fun x c' hx=>by
     have:=aU _ _ _ hx
     simp at this
     exact this.1
    unfold B7 at ht
    unfold pn at h
    rw[aa]at h
    by_cases hk:r.2.2.length=0
    . rw[dT0 hk,cT]at ht
      have hz:=a3' hk
      have hr:r.2.2=[]:=List.length_eq_zero_iff.1 hk
      rw[hr]at h
      cases he:r.1==0 with
      | true=>
       rw[he,cT,uI (e:=0) (a:=0) (by decide) rfl hl (Nat.zero_le _)]at ht
       rw[he,cT,aa,dT0 (show([]:List SV).length=0 from rfl),cT,hz]at h
       cases h
       exact⟨_,_,congrArg ae ht,.inr ⟨.tup (.cons .nils .rfl'),fun x c' hx=>⟨c',hx,.rfl'⟩⟩⟩
      | false=>
       rw[he,cF]at ht
       rw[he,cF]at h
       cases h
       exact⟨_,_,congrArg ae ht,.inr ⟨.tup (.cons .nils .rfl'),fun x c' hx=>⟨c',hx,.rfl'⟩⟩⟩
    . rw[dF0             hk,cF        ]at ht
      cases he:r.1==0 with
      | true=>
       rw[he,cT,uI (a:=r.2.1) rfl rfl hl a2']at ht
       rw[he,cT,aa,dF0 hk,cF]at h
       cases h
       refine⟨_,_,congrArg ae ht,.inl ⟨1,52,r.2.2,rfl,.tup (.cons (.qs rfl) .rfl'),fun x c' hx=> ?_⟩⟩
       simp only[ad]at hx
       by_cases h2:x=2
       . subst h2;exact⟨by decide,c',hx,.rfl'⟩
       . rw[if_neg h2]at hx
         have h0:=hg x c' hx
         subst h0
         exact⟨by decide,c',hx,.rfl'⟩
      | false=>
       rw[he,cF]at ht
       rw[he,cF]at h
       cases h
       refine⟨_,_,congrArg ae ht,.inl ⟨1,52,r.2.2,rfl,.tup (.cons (.qs rfl) .rfl'),fun x c' hx=> ?_⟩⟩
       have h0:=hg x c' hx
       subst h0
       exact⟨by decide,c',hx,.rfl'⟩
 . cases h)
noncomputable def yr:ag:=fun args H=>match args,H with
 | [.qs 0 1 0 n],[(0,.seq 5 es)]=>.ite (dec (byl es/\n=es.length/\es.length<=1000000)) (pm es (spL es 0 [])) .fail
 | _,_=>.fail
theorem Ac       {es xs rs:List SV}{k:Nat}:cg      [(0,.seq 5 es)] (.tup [.psl 52 rs,.qs 2 1 0 k,fl0]) [(2,some (.seq 5 xs))] (.tup [.psl 52 rs,.qs 1 1 0 k,fl0]) [(1,some (.seq 5 xs))]:=by
 refine⟨2,1,by simp,by simp[ak,aF,fl0],fun x c hx=> ?_,rfl,fun x=> ?_⟩
 . simp only[ad]at hx
   by_cases h2:x=2
   . rw[if_pos h2]at hx;cases hx;simp[aJ]
   . rw[if_neg h2]at hx
     have:=aU _ _ _ hx
     simp at this
     obtain⟨_,rfl⟩:=this
     simp[aJ]
 . match x with
   | 0=>rfl | 1=>rfl | 2=>rfl
   | x+3=>
    simp only[ad,HpL.get,show ¬ (x+3=1)by omega,show ¬ (x+3=2)by omega,if_false,show Nat.beq 0 (x+3)=false from b8 (by omega),cF,Option.map_none]
theorem Fo     :Known Tryz.prog 9 yr     :=dq        B8       (by
 intro args H v' ups' h
 unfold yr at h
 split at h
 . rename_i n es
   rw[aa]at h
   cases hc:dec (byl es/\n=es.length/\es.length<=1000000)with
   | false=>rw[hc]at h;cases h
   | true=>
    rw[hc,cT]at h
    have run:∀ t,ae (pn es (spL es 0 []))=t->ae (po [.qs 0 1 0 n] [(0,.seq 5 es)])=t:=fun t ht=>by
     show ae (.ite (dec (byl es/\n=es.length/\es.length<=1000000)) (pn es (spL es 0 [])) .fail)=_
     rw[aa,hc];exact ht
    generalize spL es 0 []=r at *
    unfold pm at h
    unfold pn at run
    rw[aa]at h run
    cases he:r.1==0 with
    | true=>
     rw[he,cT]at h run
     rw[aa]at run
     by_cases hk:r.2.2.length=0
     . rw[dT0 hk]at run
       exact .inl ⟨_,run _ h,fun x=>rfl⟩
     . rw[dF0 hk]at run
       cases h
       exact .inr ⟨_,_,run _ rfl,Ac⟩
    | false=>
     rw[he,cF]at h run
     exact .inl ⟨_,run _ h,fun x=>rfl⟩
 . cases h)
theorem zq{l:List SV}{m j:Nat}(h:j < m):dg (l.take m) j=dg l j:=by
 unfold dg
 rw[gD0,List.getElem?_take,if_pos h,gD0]
theorem wb{l:List SV}{m j:Nat}:∀ k,j+k<=m->tkN (l.take m) j k=tkN l j k
 | 0,_=>rfl
 | k+1,h=>by rw[tkN,tkN,wb k (by omega),zq (by omega)]
theorem DH      (p:List SV)(m:Nat):(hdP (p.take m)).2=0/\(hdP (p.take m)).1=0\/hdP (p.take m)=hdP p:=by
 by_cases h19:(p.take m).length < 19
 . left;rw[ni h19];exact⟨rfl,rfl⟩
 . have hl:(p.take m).length=min m p.length:=List.length_take
   have h1:¬ p.length < 19:=by omega
   have e1:(p.take m).take 16=p.take 16:=by rw[List.take_take,Nat.min_eq_left (by omega)]
   have e2:tkN (p.take m) 16 2=tkN p 16 2:=wb 2 (by omega)
   have e3:dg (p.take m) 18=dg p 18:=zq (by omega)
   unfold hdP
   rw[dF0 h19,dF0 h1,e1,e2,e3]
   rw[cF,cF]
   cases !mkd (p.take 16)with
   | true=>right;rfl
   | false=>
    rw[cF,cF]
    cases(bif decide (tkN p 16 2 < 19)then true else decide (tkN p 16 2 > 4096))with
    | true=>right;rfl
    | false=>
     rw[cF,cF]
     cases(bif decide (dg p 18 < 1)then true else decide (dg p 18 > 5))with
     | true=>right;rfl
     | false=>
      rw[cF,cF]
      by_cases hs:((p.take m).length:Int) < tkN p 16 2
      . left;rw[dT0 hs];exact⟨rfl,rfl⟩
      . right;rw[dF0 hs,dF0 (by omega)]
end Go.Proofs.YtnlmhpancboddaaGreat
namespace Go.Proofs.YtnlmhpancboddaaGreat
open Go.Am
set_option maxRecDepth 100000
end Go.Proofs.YtnlmhpancboddaaGreat
namespace Go.Proofs.YtnlmhpancboddaaGreat
open Go.Am
set_option maxRecDepth 100000
def vsp(d:Nat)(es:List SV):List SV:=[.psl 5 es,.junk,.ptr 1 0,.ptr (2+d) 0,.ptr (3+d) 0,.ptr (4+d) 0,.junk,.junk,.psl 5 es,.fn (.func 31) [] [.ptr (5+d) 0,.ptr (6+d) 0]]++List.replicate 17 .junk
noncomputable def lrp(d:Nat)(st:LS)(es:List SV):Chunk:=.loopr st (vsp d es) rng9.1 rng9.2.1 rng9.2.2
noncomputable def HP0(es:List SV)(a:Int):HpL:=[(0,lrp 0 .ready es),(1,.cells 25 [.nils]),(2,.cells 22 [.nils]),(3,.cells 28 [.int .i64 0,.int .i64 0]),(4,.cells 3 [.int .i64 a]),(5,.cells 22 [.psl 5 es]),(6,.cells 62 [.ptr 4 0])]
noncomputable def HP1(es:List SV)(a:Int)(m:Nat)(rs:List SV):HpL:=[(0,lrp 1 .ready es),(1,.cells 25 [.qs 2 25 0 m]),(2,.seq 52 rs),(3,.cells 22 [.nils]),(4,.cells 28 [.int .i64 0,.int .i64 0]),(5,.cells 3 [.int .i64 a]),(6,.cells 22 [.psl 5 es]),(7,.cells 62 [.ptr 5 0])]
def td(es:List SV)(a:Int)(rs:List SV):Prop:=byl es/\es.length<=1000000/\0<=a/\a<=es.length/\rs.length+(es.length - a.toNat)<=2000000
noncomputable def C1(es:List SV)(r:Int × Nat × List SV):CTree:=
 .ite (decide (r.2.2.length=0))
  (.ite (r.1==0) (.ret (.tup [.int .i64 1]) []) (.ret (.tup [.int .i64 1]) [(3,some (.cells 28 [.int .i64 r.1,.int .i64 r.2.1])),(0,some (lrp 0 (.done .ret) es))]))
  (.ite (r.1==0) (.ret (.tup [.int .i64 1]) [(1,some (.cells 25 [.qs 7 25 0 r.2.2.length])),(4,some (.cells 3 [.int .i64 r.2.1])),(7,some (.seq 52 r.2.2))])
   (.ret (.tup [.int .i64 1]) [(1,some (.cells 25 [.qs 7 25 0 r.2.2.length])),(4,some (.cells 3 [.int .i64 r.2.1])),(3,some (.cells 28 [.int .i64 r.1,.int .i64 r.2.1])),(0,some (lrp 0 (.done .ret) es)),(7,some (.seq 52 r.2.2))]))
noncomputable def Av(es:List SV)(r:Int × Nat × List SV):CTree:=
 .ite (r.1==0) (.ret (.tup [.int .i64 1]) [(1,some (.cells 25 [.qs 8 25 0 r.2.2.length])),(2,none),(5,some (.cells 3 [.int .i64 r.2.1])),(8,some (.seq 52 r.2.2))])
  (.ret (.tup [.int .i64 1]) [(1,some (.cells 25 [.qs 8 25 0 r.2.2.length])),(2,none),(5,some (.cells 3 [.int .i64 r.2.1])),(4,some (.cells 28 [.int .i64 r.1,.int .i64 r.2.1])),(0,some (lrp 1 (.done .ret) es)),(8,some (.seq 52 r.2.2))])
def MC:HpL->Option (List SV × Int × Option (Nat × List SV))
 | [(0,_),(1,.cells 25 [.nils]),(2,_),(3,_),(4,.cells 3 [.int .i64 a]),(5,.cells 22 [.psl 5 es]),(6,_)]=>some (es,a,none)
 | [(0,_),(1,.cells 25 [.qs 2 25 0 m]),(2,.seq 52 rs),(3,_),(4,_),(5,.cells 3 [.int .i64 a]),(6,.cells 22 [.psl 5 es]),(7,_)]=>some (es,a,some (m,rs))
 | _=>none
noncomputable def vo:ag:=fun args H=>match args with
 | [.yl 0,.ptr b 0,.ptr c 0]=>match MC H with
  | some (es,a,none)=>.ite (dec (b=5/\c=6/\H=HP0 es a/\td es a [])) (C1 es (spL es a.toNat [])) .fail
  | some (es,a,some (m,rs))=>.ite (dec (b=6/\c=7/\H=HP1 es a m rs/\m=rs.length/\td es a rs)) (Av es (spL es a.toNat rs)) .fail
  | none=>.fail
 | _=>.fail
def JP:List SV->HpL->Nat
 | _,H=>match MC H with
  | some (es,a,_)=>es.length - a.toNat
  | none=>0
noncomputable def Aw:LEnt:={ins:=[0,1,2],outs:=[],keep:=[],size:=58,code:=c31,s:=vo}
/- A round. -/
noncomputable def F8(es:List SV)(a:Int)(K:List SV->Int × Int->CTree):CTree:=slI es a es.length fun p=>l6 p (K p (hdP p))
noncomputable def F9(p:List SV)(sz:Int)(K:Mg × Int->CTree):CTree:=bif inB 18 p.length then slI p 19 sz fun q=>l6 q (K (rdP (w64 (dg p 18)) q))else .fail
noncomputable def nR(d:Nat)(es:List SV)(e a:Int)(L:SV)(K:CTree):CTree:=bif e !=0 then .ret (.tup [.int .i64 1]) [(3+d,some (.cells 28 [.int .i64 e,.int .i64 a])),(2+d,some (.cells 22 [.nils])),(1,some (.cells 25 [L])),(0,some (lrp d (.done .ret) es))]else K
noncomputable def HM(es:List SV):CTree:=.ret (.tup [.int .i64 1]) [(1,some (.cells 25 [.qs 7 25 0 1])),(0,some (lrp 0 .ready es)),(7,some (.seq 52 [mgV mg0]))]
noncomputable def C2(N:Nat)(es:List SV)(a:Int)(rs:List SV):CTree:=
 bif Nat.blt (es.length - a.toNat) N then bif dec (6=6/\7=7/\HP1 es a 1 rs=HP1 es a 1 rs/\1=rs.length/\td es a rs)then
  (fun r:Int × Nat × List SV=>bif r.1==0 then .ret (.tup [.int .i64 1]) [(1,some (.cells 25 [.qs 7 25 0 r.2.2.length])),(0,some (lrp 0 .ready es)),(4,some (.cells 3 [.int .i64 r.2.1])),(7,some (.seq 52 r.2.2))]
   else .ret (.tup [.int .i64 1]) [(3,some (.cells 28 [.int .i64 r.1,.int .i64 r.2.1])),(1,some (.cells 25 [.qs 7 25 0 r.2.2.length])),(0,some (lrp 0 (.done .ret) es)),(4,some (.cells 3 [.int .i64 r.2.1])),(7,some (.seq 52 r.2.2))]) (spL es a.toNat rs)else .fail else .fail
theorem JQ(N:Nat)(es:List SV)(a:Int):ay Tryz.prog κsp ιsp (aL []) true 300 Aw {Aw with s:=az JP vo N} c31 [.yl 0,.ptr 5 0,.ptr 6 0] (HP0 es a)=
 F8 es a fun p h=>bif(bif h.2==0 then h.1==0 else false)then .ret (.tup [.int .i64 1]) []else
  bif h.2==0 then F9 p h.1 fun q=>bif q.2 !=0 then nR 0 es q.2 a .nils (HM es)else C2 N es (w64 (a+h.1)) [mgV q.1]
  else bif h.2 !=0 then nR 0 es h.2 a .nils (HM es)else C2 N es (w64 (a+h.1)) [mgV mg0]:=by kernel_rfl
noncomputable def HN(es:List SV)(m:Nat)(rs:List SV):CTree:=gr9 m rs (.ret (.tup [.int .i64 1]) [(1,some (.cells 25 [.qs 8 25 0 (rs.length+1)])),(2,none),(0,some (lrp 1 .ready es)),(8,some (.seq 52 (rs++[mgV mg0])))])
noncomputable def C3(N:Nat)(es:List SV)(a:Int)(m:Nat)(rs:List SV)(x:SV):CTree:=gr9 m rs (
 bif Nat.blt (es.length - a.toNat) N then bif dec (6=6/\7=7/\HP1 es a (rs.length+1) (rs++[x])=HP1 es a (rs.length+1) (rs++[x])/\rs.length+1=(rs++[x]).length/\td es a (rs++[x]))then
  (fun r:Int × Nat × List SV=>bif r.1==0 then .ret (.tup [.int .i64 1]) [(1,some (.cells 25 [.qs 8 25 0 r.2.2.length])),(2,none),(0,some (lrp 1 .ready es)),(5,some (.cells 3 [.int .i64 r.2.1])),(8,some (.seq 52 r.2.2))]
   else .ret (.tup [.int .i64 1]) [(4,some (.cells 28 [.int .i64 r.1,.int .i64 r.2.1])),(1,some (.cells 25 [.qs 8 25 0 r.2.2.length])),(2,none),(0,some (lrp 1 (.done .ret) es)),(5,some (.cells 3 [.int .i64 r.2.1])),(8,some (.seq 52 r.2.2))]) (spL es a.toNat (rs++[x]))else .fail else .fail)
theorem JR(N m:Nat)(es rs:List SV)(a:Int):ay Tryz.prog κsp ιsp (aL []) true 300 Aw {Aw with s:=az JP vo N} c31 [.yl 0,.ptr 6 0,.ptr 7 0] (HP1 es a m rs)=
 F8 es a fun p h=>bif(bif h.2==0 then h.1==0 else false)then .ret (.tup [.int .i64 1]) []else
  bif h.2==0 then F9 p h.1 fun q=>bif q.2 !=0 then nR 1 es q.2 a (.qs 2 25 0 m) (HN es m rs)else C3 N es (w64 (a+h.1)) m rs (mgV q.1)
  else bif h.2 !=0 then nR 1 es h.2 a (.qs 2 25 0 m) (HN es m rs)else C3 N es (w64 (a+h.1)) m rs (mgV mg0):=by kernel_rfl
theorem yH{es:List SV}{a:Int}(hb:byl es)(hl:es.length<=1000000)(h0:0<=a)(h1:a<=es.length)(K:List SV->Int × Int->CTree):F8 es a K=K (es.drop a.toNat) (hdP (es.drop a.toNat)):=by
 unfold F8
 rw[iy (a:=a) (b:=(es.length:Int)) (i:=a.toNat) (j:=es.length) (by omega) rfl (by omega) (Nat.le_refl _),kR,eA (jt hb _) (by rw[List.length_drop];omega)]
theorem yI{p:List SV}{sz:Int}(hb:byl p)(hl:p.length<=1000000)(s1:19<=sz)(s2:sz<=p.length)(K:Mg × Int->CTree):F9 p sz K=K (rdP (dg p 18) (sl p 19 (sz.toNat - 19))):=by
 obtain⟨r1,r2⟩:=hb.ok 18
 unfold F9
 rw[cR (by omega) (by omega),cT,iy (a:=19) (b:=sz) (i:=19) (j:=sz.toNat) rfl (by omega) (by omega) (by omega),eA (hb.sl _ _) (by rw[eR (by omega)];omega),show w64 (dg p 18)=dg p 18 from am (by omega) (by omega)]
theorem zg{m:Nat}{es rs:List SV}{a:Int}{c5 c0:Chunk}(h5:br (sw 2 8) c5=c5)(h0:br (sw 2 8) c0=c0):∀ x,ad [(1,some (.cells 25 [.qs 8 25 0 m])),(2,none),(5,some (.cells 3 [.int .i64 a])),(4,some c5),(0,some c0),(8,some (.seq 52 rs))] (HP1 es a m rs).get x=
  if x=8 then(ad [(4,some c5),(0,some c0)] (HP1 es a m rs).get 2).map (br (sw 2 8))else if x=2 then none else(ad [(4,some c5),(0,some c0)] (HP1 es a m rs).get x).map (br (sw 2 8))
 | 0=>by show some c0=some (br (sw 2 8) c0);rw[h0]
 | 1=>rfl | 2=>rfl | 3=>rfl
 | 4=>by show some c5=some (br (sw 2 8) c5);rw[h5]
 | 5=>rfl | 6=>rfl | 7=>rfl | 8=>rfl
 | x+9=>by
  have h1:∀ k,k < 9->¬ (x+9=k):=fun k hk=>by omega
  have h2:∀ k,k < 9->Nat.beq k (x+9)=false:=fun k hk=>b8 (by omega)
  simp only[ad,HP1,HpL.get,h1 8 (by omega),h1 5 (by omega),h1 4 (by omega),h1 2 (by omega),h1 1 (by omega),h1 0 (by omega),if_false,h2 0 (by omega),h2 1 (by omega),h2 1 (by omega),h2 2 (by omega),h2 3 (by omega),h2 4 (by omega),h2 5 (by omega),h2 6 (by omega),h2 7 (by omega),cF,Option.map_none]
theorem zh{es:List SV}{st:LS}:br (sw 2 8) (lrp 1 st es)=lrp 1 st es:=rfl
theorem Dt{es:List SV}{st:LS}:8 ∉ aJ (lrp 1 st es):=by
 have:aJ (lrp 1 st es)=[1,3,4,5,6,7]:=rfl
 rw[this];decide
theorem Du{m:Nat}{es rs:List SV}{a:Int}:∀ x c,(HP1 es a m rs).get x=some c->8 ∉ aJ c:=by
 intro x c hx
 have:=aU _ _ _ hx
 simp only[HP1,List.mem_cons,pJ,List.not_mem_nil,or_false]at this
 rcases this with ⟨_,rfl⟩ | ⟨_,rfl⟩ | ⟨_,rfl⟩ | ⟨_,rfl⟩ | ⟨_,rfl⟩ | ⟨_,rfl⟩ | ⟨_,rfl⟩ | ⟨_,rfl⟩
 . exact Dt
 all_goals simp[aJ,aF,ak]
theorem AJ{m:Nat}{es rs:List SV}{a:Int}:cg (HP1 es a m rs) (.tup [.int .i64 1]) [] (.tup [.int .i64 1]) [(1,some (.cells 25 [.qs 8 25 0 m])),(2,none),(5,some (.cells 3 [.int .i64 a])),(8,some (.seq 52 rs))]:=by
 refine⟨2,8,by simp[HP1],by simp[ak,aF],fun x c hx=>Du x c hx,rfl,fun x=> ?_⟩
 have:=zg (m:=m) (es:=es) (rs:=rs) (a:=a) (c5:=.cells 28 [.int .i64 0,.int .i64 0]) (c0:=lrp 1 .ready es) rfl zh x
 have e:∀ x,ad [(4,some (.cells 28 [.int .i64 0,.int .i64 0])),(0,some (lrp 1 .ready es))] (HP1 es a m rs).get x=(HP1 es a m rs).get x:=by
  intro x
  match x with
  | 0=>rfl | 1=>rfl | 2=>rfl | 3=>rfl | 4=>rfl
  | x+5=>simp only[ad,show ¬ (x+5=0)by omega,show ¬ (x+5=4)by omega,if_false]
 rw[e,e]at this
 show ad [(1,some (.cells 25 [.qs 8 25 0 m])),(2,none),(5,some (.cells 3 [.int .i64 a])),(8,some (.seq 52 rs))] (HP1 es a m rs).get x=if x=8 then((HP1 es a m rs).get 2).map (br (sw 2 8))else if x=2 then none else((HP1 es a m rs).get x).map (br (sw 2 8))
 rw[<- this]
 match x with
 | 0=>rfl | 1=>rfl | 2=>rfl | 3=>rfl | 4=>rfl
 | x+5=>simp only[ad,show ¬ (x+5=0)by omega,show ¬ (x+5=4)by omega,if_false]
theorem vI      {m:Nat}{es rs:List SV}{e a:Int}:cg      (HP1 es a m rs) (.tup [.int .i64 1]) [(4,some (.cells 28 [.int .i64 e,.int .i64 a])),(3,some (.cells 22 [.nils])),(1,some (.cells 25 [.qs 2 25 0 m])),(0,some (lrp 1 (.done .ret) es))] (.tup [.int .i64 1])
  [(1,some (.cells 25 [.qs 8 25 0 m])),(2,none),(5,some (.cells 3 [.int .i64 a])),(4,some (.cells 28 [.int .i64 e,.int .i64 a])),(0,some (lrp 1 (.done .ret) es)),(8,some (.seq 52 rs))]:=by
 have e':∀ x,ad [(4,some (.cells 28 [.int .i64 e,.int .i64 a])),(3,some (.cells 22 [.nils])),(1,some (.cells 25 [.qs 2 25 0 m])),(0,some (lrp 1 (.done .ret) es))] (HP1 es a m rs).get x=ad [(4,some (.cells 28 [.int .i64 e,.int .i64 a])),(0,some (lrp 1 (.done .ret) es))] (HP1 es a m rs).get x:=by
  intro x
  match x with
  | 0=>rfl | 1=>rfl | 2=>rfl | 3=>rfl | 4=>rfl
  | x+5=>simp only[ad,show ¬ (x+5=0)by omega,show ¬ (x+5=1)by omega,show ¬ (x+5=3)by omega,show ¬ (x+5=4)by omega,if_false]
 refine⟨2,8,by simp[HP1],by simp[ak,aF],fun x c hx=> ?_,rfl,fun x=> ?_⟩
 . rw[e']at hx
   simp only[ad]at hx
   by_cases h0:x=0
   . rw[if_pos h0]at hx;cases hx;exact Dt
   . rw[if_neg h0]at hx
     by_cases h5:x=4
     . rw[if_pos h5]at hx;cases hx;simp[aJ,aF,ak]
     . rw[if_neg h5]at hx;exact Du x c hx
 . rw[e',e'];exact zg rfl zh x
theorem Dv      {args:List SV}{H:HpL}{r:SV × List (Nat × Option Chunk)}(h:ae   (vo    args H)=some r):
  (∃ es a,args=[.yl 0,.ptr 5 0,.ptr 6 0]/\H=HP0 es a/\td es a []/\ae (C1 es (spL es a.toNat []))=some r)\/
  ∃ es a rs,args=[.yl 0,.ptr 6 0,.ptr 7 0]/\H=HP1 es a rs.length rs/\td es a rs/\ae (Av es (spL es a.toNat rs))=some r:=by
 unfold vo at h
 split at h
 . rename_i b c
   split at h
   . rename_i es a hp
     rw[aa]at h
     cases hc:dec (b=5/\c=6/\H=HP0 es a/\td es a [])with
     | false=>rw[hc]at h;cases h
     | true=>
      rw[hc]at h
      obtain⟨rfl,rfl,rfl,h3⟩:=dec_iff.1 hc
      exact .inl ⟨es,a,rfl,rfl,h3,h⟩
   . rename_i es a m rs hp
     rw[aa]at h
     cases hc:dec (b=6/\c=7/\H=HP1 es a m rs/\m=rs.length/\td es a rs)with
     | false=>rw[hc]at h;cases h
     | true=>
      rw[hc]at h
      obtain⟨rfl,rfl,rfl,rfl,h3⟩:=dec_iff.1 hc
      exact .inr ⟨es,a,rs,rfl,rfl,h3,h⟩
   . cases h
 . cases h
theorem AK       :aR     Tryz.prog Aw  :=cH          (κ:=κsp) (ι:=ιsp) (T:=aL   []) (sp:=true) (fuel:=300) (c:=c31) (μ:=JP  ) ye    ax     aE       (show aM    (aL   []) c31=c31 by kernel_rfl) (by
 intro N args H v' ups' hbt hr
 rcases Dv hr with ⟨es,a,rfl,rfl,ho,hr⟩ | ⟨es,a,rs,rfl,rfl,ho,hr⟩
 . have hN:Nat.blt (es.length - a.toNat) (N+1)=true:=hbt
   rw[bL]at hN
   obtain⟨hb,hl,h0,h1,hz⟩:=ho
   have hrd:=JQ N es a
   rw[yH hb hl h0 h1]at hrd
   rw[gg]at hr
   have hcs:=ei (es.drop a.toNat)
   have hdl:(es.drop a.toNat).length=es.length - a.toNat:=List.length_drop
   generalize hh:hdP (es.drop a.toNat)=q at *
   by_cases e2:q.2=0
   . rw[show(q.2==0)=true by simpa using e2,cT       ,cT       ]at hrd
     rw[show(q.2 !=0)=false by simpa using e2,cF]at hr
     by_cases e1:q.1=0
     . rw[show(q.1==0)=true by simpa using e1,cT]at hrd hr
       cases hr
       exact .inl ⟨_,congrArg ae hrd,fun x=>rfl⟩
     . rw[show(q.1==0)=false by simpa using e1,cF        ]at hrd hr
       obtain⟨s1,s2,s3⟩:=(hcs e2).resolve_left e1
       rw[yI (jt hb _) (by omega) s1 s2]at hrd
       generalize rdP (dg (es.drop a.toNat) 18) (sl (es.drop a.toNat) 19 (q.1.toNat - 19))=w at *
       by_cases e3:w.2=0
       . rw[show(w.2 !=0)=false by simpa using e3,cF]at hrd hr
         have hw:w64 (a+q.1)=a+q.1:=am (by omega) (by omega)
         have ht:(a+q.1).toNat=a.toNat+q.1.toNat:=by omega
         unfold C2 at hrd
         rw[hw,ht,show Nat.blt (es.length - (a.toNat+q.1.toNat)) N=true by rw[bL];omega,cT,dec_iff.2 ⟨rfl,rfl,rfl,rfl,hb,hl,by omega,by omega,by simp;omega⟩,cT]at hrd
         rw[nA]at hr
         have hlen:1<=(spL es (a.toNat+q.1.toNat) [mgV w.1]).2.2.length:=oK _ _ _ [mgV w.1]
         generalize spL es (a.toNat+q.1.toNat) [mgV w.1]=r at *
         simp only[]at hrd
         unfold C1 at hr
         rw[aa,dF0 (show ¬ r.2.2.length=0 by omega),cF,aa]at hr
         cases he:r.1==0 with
         | true=>
          rw[he]at hr hrd
          cases hr
          refine .inl ⟨_,congrArg ae hrd,fI 8 rfl rfl (fun i hi=> ?_)⟩
          match i with
          | 0=>rfl | 1=>rfl | 2=>rfl | 3=>rfl | 4=>rfl | 5=>rfl | 6=>rfl | 7=>rfl
          | i+8=>omega
         | false=>
          rw[he]at hr hrd
          cases hr
          refine .inl ⟨_,congrArg ae hrd,fI 8 rfl rfl (fun i hi=> ?_)⟩
          match i with
          | 0=>rfl | 1=>rfl | 2=>rfl | 3=>rfl | 4=>rfl | 5=>rfl | 6=>rfl | 7=>rfl
          | i+8=>omega
       . rw[show(w.2 !=0)=true by simpa using e3,cT]at hrd hr
         unfold nR at hrd
         rw[show(w.2 !=0)=true by simpa using e3,cT]at hrd
         unfold C1 at hr
         rw[aa,dT0 (show(([]:List SV).length=0)from rfl),cT,aa,show(w.2==0)=false by simpa using e3]at hr
         cases hr
         refine .inl ⟨_,congrArg ae hrd,fI 8 rfl rfl (fun i hi=> ?_)⟩
         have ha:((a.toNat:Nat):Int)=a:=by omega
         match i with
         | 0=>rfl | 1=>rfl | 2=>rfl
         | 3=>show some (Chunk.cells 28 [SV.int .i64 w.2,SV.int .i64 ((a.toNat:Nat):Int)])=_;rw[ha];rfl
         | 4=>rfl | 5=>rfl | 6=>rfl | 7=>rfl
         | i+8=>omega
   . rw[show(q.2==0)=false by simpa using e2,cF,cF]at hrd
     rw[show(q.2 !=0)=true by simpa using e2,cT]at hr hrd
     unfold nR at hrd
     rw[show(q.2 !=0)=true by simpa using e2,cT]at hrd
     unfold C1 at hr
     rw[aa,dT0 (show(([]:List SV).length=0)from rfl),cT,aa,show(q.2==0)=false by simpa using e2]at hr
     cases hr
     refine .inl ⟨_,congrArg ae hrd,fI 8 rfl rfl (fun i hi=> ?_)⟩
     have ha:((a.toNat:Nat):Int)=a:=by omega
     match i with
     | 0=>rfl | 1=>rfl | 2=>rfl
     | 3=>show some (Chunk.cells 28 [SV.int .i64 q.2,SV.int .i64 ((a.toNat:Nat):Int)])=_;rw[ha];rfl
     | 4=>rfl | 5=>rfl | 6=>rfl | 7=>rfl
     | i+8=>omega
 . have hN:Nat.blt (es.length - a.toNat) (N+1)=true:=hbt
   rw[bL]at hN
   obtain⟨hb,hl,h0,h1,hz⟩:=ho
   have hrd:=JR N rs.length es rs a
   have ha:((a.toNat:Nat):Int)=a:=by omega
   rw[yH hb hl h0 h1]at hrd
   rw[gg]at hr
   have hcs:=ei (es.drop a.toNat)
   have hdl:(es.drop a.toNat).length=es.length - a.toNat:=List.length_drop
   generalize hh:hdP (es.drop a.toNat)=q at *
   by_cases e2:q.2=0
   . rw[show(q.2==0)=true by simpa using e2,cT       ,cT       ]at hrd
     rw[show(q.2 !=0)=false by simpa using e2,cF]at hr
     by_cases e1:q.1=0
     . rw[show(q.1==0)=true by simpa using e1,cT]at hrd hr
       unfold Av at hr
       rw[aa,show((0:Int)==0)=true from rfl]at hr
       simp only[ha]at hr
       cases hr
       exact .inr ⟨_,_,congrArg ae hrd,AJ⟩
     . rw[show(q.1==0)=false by simpa using e1,cF        ]at hrd hr
       obtain⟨s1,s2,s3⟩:=(hcs e2).resolve_left e1
       rw[yI (jt hb _) (by omega) s1 s2]at hrd
       generalize rdP (dg (es.drop a.toNat) 18) (sl (es.drop a.toNat) 19 (q.1.toNat - 19))=w at *
       by_cases e3:w.2=0
       . rw[show(w.2 !=0)=false by simpa using e3,cF]at hrd hr
         have hw:w64 (a+q.1)=a+q.1:=am (by omega) (by omega)
         have ht:(a+q.1).toNat=a.toNat+q.1.toNat:=by omega
         unfold C3 at hrd
         rw[Dq rfl (by omega),hw,ht,show Nat.blt (es.length - (a.toNat+q.1.toNat)) N=true by rw[bL];omega,cT,dec_iff.2 ⟨rfl,rfl,rfl,by simp,hb,hl,by omega,by omega,by simp;omega⟩,cT]at hrd
         generalize spL es (a.toNat+q.1.toNat) (rs++[mgV w.1])=r at *
         simp only[]at hrd
         unfold Av at hr
         rw[aa]at hr
         cases he:r.1==0 with
         | true=>
          rw[he]at hr hrd
          cases hr
          refine .inl ⟨_,congrArg ae hrd,fI 9 rfl rfl (fun i hi=> ?_)⟩
          match i with
          | 0=>rfl | 1=>rfl | 2=>rfl | 3=>rfl | 4=>rfl | 5=>rfl | 6=>rfl | 7=>rfl | 8=>rfl
          | i+9=>omega
         | false=>
          rw[he]at hr hrd
          cases hr
          refine .inl ⟨_,congrArg ae hrd,fI 9 rfl rfl (fun i hi=> ?_)⟩
          match i with
          | 0=>rfl | 1=>rfl | 2=>rfl | 3=>rfl | 4=>rfl | 5=>rfl | 6=>rfl | 7=>rfl | 8=>rfl
          | i+9=>omega
       . rw[show(w.2 !=0)=true by simpa using e3,cT]at hrd hr
         unfold nR at hrd
         rw[show(w.2 !=0)=true by simpa using e3,cT]at hrd
         unfold Av at hr
         rw[aa,show(w.2==0)=false by simpa using e3]at hr
         simp only[ha]at hr
         cases hr
         exact .inr ⟨_,_,congrArg ae hrd,vI⟩
   . rw[show(q.2==0)=false by simpa using e2,cF,cF]at hrd
     rw[show(q.2 !=0)=true by simpa using e2,cT]at hr hrd
     unfold nR at hrd
     rw[show(q.2 !=0)=true by simpa using e2,cT]at hrd
     unfold Av at hr
     rw[aa,show(q.2==0)=false by simpa using e2]at hr
     simp only[ha]at hr
     cases hr
     exact .inr ⟨_,_,congrArg ae hrd,vI⟩)
end Go.Proofs.YtnlmhpancboddaaGreat
