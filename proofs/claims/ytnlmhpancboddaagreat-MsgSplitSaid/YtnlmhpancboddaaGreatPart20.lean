/- Messages: Split. -/
import Derived.Test.YtnlmhpancboddaaGreatPart19
import Derived.Test.YtnlmhpancboddaaGreatPart16
import Derived.Test.YtnlmhpancboddaaGreatMachine6
set_option linter.unusedVariables false
set_option linter.unusedSimpArgs false
namespace Go.Proofs.YtnlmhpancboddaaGreat
open Go.Am
set_option maxRecDepth 100000
noncomputable abbrev Tsp:cu:=aF [("m",e31)]
noncomputable abbrev Msp:Nat->Option Code:=wi [(31,m31)]
noncomputable abbrev b9:Code:=Tryz.f9.body.getD .skip
noncomputable def xU:ag:=oK Tryz.prog κsp ιsp Tsp Msp true 300 Tryz.f9 b9
theorem B9:Known Tryz.prog 9 xU:=
 ⟨⟨Tryz.f9,Tryz.func9,bf ak Tryz.func9,rfl⟩,iN xL aq (ba AD aE) (mn Tryz.func31 (show Tryz.f31.body=some (aN Tsp m31)by kernel_rfl) oL) Tryz.func9 (show Tryz.f9.body=some (aN Tsp b9)by kernel_rfl)⟩
noncomputable def xV(n:Nat)(es:List SV)(e:Int)(K:Nat->List SV->CTree):CTree:=
 bif decide (0<=e)&&decide (e<=n)&&decide ((n:Int)<=n)then
  bif decide (0+e.toNat=0)&&decide ((n:Int).toNat - e.toNat=es.length)then(bif te (([]:List SV).length+es.length)then K (([]:List SV).length+es.length) ([]++es)else .fail)
  else bif decide (0+e.toNat+((n:Int).toNat - e.toNat)<=es.length)then(bif te (([]:List SV).length+((es.drop (0+e.toNat)).take ((n:Int).toNat - e.toNat)).length)then K (([]:List SV).length+((es.drop (0+e.toNat)).take ((n:Int).toNat - e.toNat)).length) ([]++((es.drop (0+e.toNat)).take ((n:Int).toNat - e.toNat)))else .fail)else .fail else .fail
def fl0:SV:=.agg [.int .i64 0,.int .i64 0]
noncomputable def Ca(n:Nat)(es:List SV)(r:Int × Nat × List SV):CTree:=
 bif decide (r.2.2.length=0)then(bif r.1==0 then xV n es 0 fun k xs=>.ret (.tup [.nils,.qs 1 1 0 k,fl0]) [(1,some (.seq 5 xs))]else .ret (.tup [.nils,.nils,.agg [.int .i64 r.1,.int .i64 r.2.1]]) [])
 else bif r.1==0 then xV n es r.2.1 fun k xs=>.ret (.tup [.qs 1 25 0 r.2.2.length,.qs 2 1 0 k,fl0]) [(1,some (.seq 52 r.2.2)),(2,some (.seq 5 xs))]else .ret (.tup [.qs 1 25 0 r.2.2.length,.nils,.agg [.int .i64 r.1,.int .i64 r.2.1]]) [(1,some (.seq 52 r.2.2))]
theorem FA(n:Nat)(es:List SV):xU [.qs 0 1 0 n] [(0,.seq 5 es)]=bif dec (6=6/\7=7/\HS0 n es 0=HS0 n es 0/\spO n es 0 [])then Ca n es (spL es (0:Int).toNat [])else .fail:=by kernel_rfl
theorem uC{n:Nat}{es:List SV}{a:Nat}{e:Int}(he:e=a)(hn:n=es.length)(hl:es.length<=1000000)(ha:a<=es.length)(K:Nat->List SV->CTree):xV n es e K=K (es.drop a).length (es.drop a):=by
 subst he hn
 unfold xV
 rw[dT0 (show(0:Int)<=a by omega),dT0 (show(a:Int)<=es.length by omega),dT0 (Int.le_refl _),show((a:Nat):Int).toNat=a from rfl,show((es.length:Nat):Int).toNat=es.length from rfl]
 simp only[Bool.and_self,cT,List.length_nil,Nat.zero_add,nA]
 have hs:(es.drop a).take (es.length - a)=es.drop a:=List.take_of_length_le (by rw[List.length_drop];omega)
 by_cases h0:a=0
 . subst h0
   rw[dT0 rfl,dT0 (show es.length - 0=es.length by omega),kB hl];rfl
 . rw[dF h0,Bool.false_and,cF,dT0 (show a+(es.length - a)<=es.length by omega),cT,hs,kB (by rw[List.length_drop];omega),cT]
theorem sK    :∀ (f:Nat) (es:List SV) (a:Nat) (rs:List SV),a<=es.length->a<=(spF f es a rs).2.1/\(spF f es a rs).2.1<=es.length/\((spF f es a rs).2.2.length=rs.length->(spF f es a rs).2.1=a)
 | 0,_,a,_,h=>⟨Nat.le_refl _,h,fun _=>rfl⟩
 | f+1,es,a,rs,h=>by
  unfold spF
  cases c1:(hdP (es.drop a)).2 !=0 with
  | true=>exact⟨Nat.le_refl _,h,fun _=>rfl⟩
  | false=>
   rw[cF]
   cases c2:(hdP (es.drop a)).1==0 with
   | true=>exact⟨Nat.le_refl _,h,fun _=>rfl⟩
   | false=>
    rw[cF]
    have hc:=eL (es.drop a) (by simpa using c1)
    have h0:(hdP (es.drop a)).1≠0:=by simpa using c2
    obtain⟨h1,h2,h3⟩:=hc.resolve_left h0
    rw[List.length_drop]at h2
    cases(rdP (dg (es.drop a) 18) (sl (es.drop a) 19 ((hdP (es.drop a)).1.toNat - 19))).2 !=0 with
    | true=>exact⟨Nat.le_refl _,h,fun _=>rfl⟩
    | false=>
     rw[cF]
     obtain⟨g1,g2,g3⟩:=sK f es (a+(hdP (es.drop a)).1.toNat) (rs++[mgV (rdP (dg (es.drop a) 18) (sl (es.drop a) 19 ((hdP (es.drop a)).1.toNat - 19))).1]) (by omega)
     refine⟨by omega,g2,fun hx=> ?_⟩
     have:=oq f es (a+(hdP (es.drop a)).1.toNat) (rs++[mgV (rdP (dg (es.drop a) 18) (sl (es.drop a) 19 ((hdP (es.drop a)).1.toNat - 19))).1])
     rw[lA0,lS]at this
     omega
noncomputable def wH(es:List SV)(r:Int × Nat × List SV):CTree:=
 .ite (r.1==0) (.ret (.tup [.psl 52 r.2.2,.qs 1 1 0 (es.drop r.2.1).length,fl0]) [(1,some (.seq 5 (es.drop r.2.1)))]) (.ret (.tup [.psl 52 r.2.2,.nils,.agg [.int .i64 r.1,.int .i64 r.2.1]]) [])
noncomputable def o3(es:List SV)(r:Int × Nat × List SV):CTree:=
 .ite (r.1==0) (.ite (decide (r.2.2.length=0)) (.ret (.tup [.psl 52 r.2.2,.qs 1 1 0 (es.drop r.2.1).length,fl0]) [(1,some (.seq 5 (es.drop r.2.1)))]) (.ret (.tup [.psl 52 r.2.2,.qs 2 1 0 (es.drop r.2.1).length,fl0]) [(2,some (.seq 5 (es.drop r.2.1)))]))
  (.ret (.tup [.psl 52 r.2.2,.nils,.agg [.int .i64 r.1,.int .i64 r.2.1]]) [])
noncomputable def o4:ag:=fun args H=>match args,H with
 | [.qs 0 1 0 n],[(0,.seq 5 es)]=>.ite (dec (byl es/\n=es.length/\es.length<=1000000)) (o3 es (spL es 0 [])) .fail
 | _,_=>.fail
theorem Cb      :Known Tryz.prog 9 o4      :=bd         B9       (by
 intro args H v' ups' h
 unfold o4 at h
 split at h
 . rename_i n es
   rw[aa]at h
   cases hc:dec (byl es/\n=es.length/\es.length<=1000000)with
   | false=>rw[hc]at h;cases h
   | true=>
    rw[hc,cT]at h
    obtain⟨hb,rfl,hl⟩:=dec_iff.1 hc
    have ht:=FA es.length es
    rw[dec_iff.2 ⟨rfl,rfl,rfl,hb,rfl,hl,by omega,by omega,by simp;omega⟩,cT,show(0:Int).toNat=0 from rfl]at ht
    obtain⟨a1,a2,a3⟩:=sK (es.length - 0) es 0 [] (Nat.zero_le _)
    have a3':(spL es 0 []).2.2.length=0->(spL es 0 []).2.1=0:=a3
    have a2':(spL es 0 []).2.1<=es.length:=a2
    generalize spL es 0 []=r at *
    have hg:∀ x c',HpL.get [(0,.seq 5 es)] x=some c'->x=0:=fun x c' hx=>by
     have:=aQ _ _ _ hx
     simp at this
     exact this.1
    unfold Ca at ht
    unfold o3 at h
    rw[aa]at h
    by_cases hk:r.2.2.length=0
    . rw[dT0 hk,cT]at ht
      have hz:=a3' hk
      have hr:r.2.2=[]:=List.length_eq_zero_iff.1 hk
      rw[hr]at h
      cases he:r.1==0 with
      | true=>
       rw[he,cT,uC (e:=0) (a:=0) (by decide) rfl hl (Nat.zero_le _)]at ht
       rw[he,cT,aa,dT0 (show([]:List SV).length=0 from rfl),cT,hz]at h
       cases h
       exact⟨_,_,congrArg ac ht,.inr ⟨.tup (.cons .nils .rfl'),fun x c' hx=>⟨c',hx,.rfl'⟩⟩⟩
      | false=>
       rw[he,cF]at ht
       rw[he,cF]at h
       cases h
       exact⟨_,_,congrArg ac ht,.inr ⟨.tup (.cons .nils .rfl'),fun x c' hx=>⟨c',hx,.rfl'⟩⟩⟩
    . rw[dF              hk,cF        ]at ht
      cases he:r.1==0 with
      | true=>
       rw[he,cT,uC (a:=r.2.1) rfl rfl hl a2']at ht
       rw[he,cT,aa,dF hk,cF]at h
       cases h
       refine⟨_,_,congrArg ac ht,.inl ⟨1,52,r.2.2,rfl,.tup (.cons (.qs rfl) .rfl'),fun x c' hx=> ?_⟩⟩
       simp only[ad]at hx
       by_cases h2:x=2
       . subst h2;exact⟨by decide,c',hx,.rfl'⟩
       . rw[if_neg h2]at hx
         have h0:=hg x c' hx
         subst h0
         exact⟨by decide,c',hx,.rfl'⟩
      | false=>
       rw[he,cF]at ht
       rw[he,cF]at h
       cases h
       refine⟨_,_,congrArg ac ht,.inl ⟨1,52,r.2.2,rfl,.tup (.cons (.qs rfl) .rfl'),fun x c' hx=> ?_⟩⟩
       have h0:=hg x c' hx
       subst h0
       exact⟨by decide,c',hx,.rfl'⟩
 . cases h)
noncomputable def xW:ag:=fun args H=>match args,H with
 | [.qs 0 1 0 n],[(0,.seq 5 es)]=>.ite (dec (byl es/\n=es.length/\es.length<=1000000)) (wH es (spL es 0 [])) .fail
 | _,_=>.fail
theorem Af       {es xs rs:List SV}{k:Nat}:bN      [(0,.seq 5 es)] (.tup [.psl 52 rs,.qs 2 1 0 k,fl0]) [(2,some (.seq 5 xs))] (.tup [.psl 52 rs,.qs 1 1 0 k,fl0]) [(1,some (.seq 5 xs))]:=by
 refine⟨2,1,by simp,by simp[aj,az,fl0],fun x c hx=> ?_,rfl,fun x=> ?_⟩
 . simp only[ad]at hx
   by_cases h2:x=2
   . rw[if_pos h2]at hx;cases hx;simp[aJ]
   . rw[if_neg h2]at hx
     have:=aQ _ _ _ hx
     simp at this
     obtain⟨_,rfl⟩:=this
     simp[aJ]
 . match x with
   | 0=>rfl | 1=>rfl | 2=>rfl
   | x+3=>
    simp only[ad,HpL.get,show ¬ (x+3=1)by omega,show ¬ (x+3=2)by omega,if_false,show Nat.beq 0 (x+3)=false from bK (by omega),cF,Option.map_none]
theorem FB     :Known Tryz.prog 9 xW     :=fP        Cb       (by
 intro args H v' ups' h
 unfold xW at h
 split at h
 . rename_i n es
   rw[aa]at h
   cases hc:dec (byl es/\n=es.length/\es.length<=1000000)with
   | false=>rw[hc]at h;cases h
   | true=>
    rw[hc,cT]at h
    have run:∀ t,ac (o3 es (spL es 0 []))=t->ac (o4 [.qs 0 1 0 n] [(0,.seq 5 es)])=t:=fun t ht=>by
     show ac (.ite (dec (byl es/\n=es.length/\es.length<=1000000)) (o3 es (spL es 0 [])) .fail)=_
     rw[aa,hc];exact ht
    generalize spL es 0 []=r at *
    unfold wH at h
    unfold o3 at run
    rw[aa]at h run
    cases he:r.1==0 with
    | true=>
     rw[he,cT]at h run
     rw[aa]at run
     by_cases hk:r.2.2.length=0
     . rw[dT0 hk]at run
       exact .inl ⟨_,run _ h,fun x=>rfl⟩
     . rw[dF hk]at run
       cases h
       exact .inr ⟨_,_,run _ rfl,Af⟩
    | false=>
     rw[he,cF]at h run
     exact .inl ⟨_,run _ h,fun x=>rfl⟩
 . cases h)
theorem Lx(p:List SV)(a:Int):opn (tbl []) Tryz.f18 [.psl 5 p,.int .i64 a,.int .i64 1] []=ytK p a 1 0 0 (fun x=>.ret (.int .u64 x) []):=by kernel_rfl
theorem Ly(p:List SV)(a:Int):opn (tbl []) Tryz.f18 [.psl 5 p,.int .i64 a,.int .i64 2] []=ytK p a 2 0 0 (fun x=>.ret (.int .u64 x) []):=by kernel_rfl
theorem Lz(p:List SV)(a:Int):opn (tbl []) Tryz.f18 [.psl 5 p,.int .i64 a,.int .i64 3] []=ytK p a 3 0 0 (fun x=>.ret (.int .u64 x) []):=by kernel_rfl
theorem LA(p:List SV)(a:Int):opn (tbl []) Tryz.f18 [.psl 5 p,.int .i64 a,.int .i64 4] []=ytK p a 4 0 0 (fun x=>.ret (.int .u64 x) []):=by kernel_rfl
noncomputable def sH:ag:=fun args H=>match args,H with
 | [.psl 5 p,.int .i64 a,.int .i64 k],[]=>.ite (dec (byl p/\p.length<=1000000/\0<=a/\a+k<=p.length/\(k=1\/k=2\/k=3\/k=4))) (.ret (.int .u64 (tkN p a.toNat k.toNat)) []) .fail
 | _,_=>.fail
theorem Fq  :Known Tryz.prog 18 sH  :=(am        ok0 Tryz.func18 rfl).weak (by
 intro args H v ups h
 unfold sH at h
 split at h
 . rename_i p a k
   rw[aa]at h
   cases hc:dec _ with
   | false=>rw[hc]at h;cases h
   | true=>
    rw[hc,cT]at h
    obtain⟨h1,h2,h3,h4,h5⟩:=dec_iff.1 hc
    obtain⟨b,rfl⟩:=Int.eq_ofNat_of_zero_le h3
    have go:∀ j:Nat,j<=4->(b:Int)+j<=p.length->ytK p b j 0 0 (fun x=>.ret (.int .u64 x) [])= .ret (.int .u64 (tkN p b j)) []:=by
     intro j hj hb
     have:=wF h1.ok h2 (a:=b) (fun x=>.ret (.int .u64 x) []) j 0 (by omega) (by omega)
     rw[Nat.zero_add]at this
     exact this
    rcases h5 with rfl | rfl | rfl | rfl
    . exact(congrArg ac ((Lx p b).trans (go 1 (by omega) h4))).trans h
    . exact(congrArg ac ((Ly p b).trans (go 2 (by omega) h4))).trans h
    . exact(congrArg ac ((Lz p b).trans (go 3 (by omega) h4))).trans h
    . exact(congrArg ac ((LA p b).trans (go 4 (by omega) h4))).trans h
 . cases h)
def itV(c:Int)(v:List SV):SV:=.agg [.int .u8 c,.psl 5 v]
def itF:Nat->List SV->Nat->List SV->Option (List SV)
 | 0,_,_,rs=>some rs
 | f+1,p,a,rs=>bif decide (a < p.length)then bif(bif decide ((a:Int)+2 > p.length)then true else decide ((a:Int)+2+dg p (a+1) > p.length))then none else
   itF f p (a+2+(dg p (a+1)).toNat) (rs++[itV (dg p a) (sl p (a+2) (dg p (a+1)).toNat)])else some rs
noncomputable def xQ:Code:=Tryz.f77.body.getD .skip
noncomputable def B4:Code:=(bv 3 xQ).getD .skip
def Fs(p rs:List SV)(m:Nat)(a:Int):Prop:=byl p/\p.length<=100000/\m=rs.length/\0<=a/\a<=p.length/\rs.length<=a
noncomputable def Ft:ag:=fun args H=>match args,H with
 | [.psl 5 p,.qs 0 2 0 m,.int .i64 a],[(0,.seq 126 rs)]=>.ite (dec (Fs p rs m a)) (.ite (itF (p.length - a.toNat) p a.toNat rs).isSome
   (.ret (.tup [.int .i64 2,.junk,.junk,.qs 1 2 0 ((itF (p.length - a.toNat) p a.toNat rs).getD []).length]) [(0,none),(1,some (.seq 126 ((itF (p.length - a.toNat) p a.toNat rs).getD [])))])
   (.ret (.tup [.int .i64 1,.nils,.bool false,.junk]) [(0,none)])) .fail
 | _,_=>.fail
def itM:List SV->HpL->Nat
 | [.psl _ p,_,.int _ a],_=>p.length - a.toNat
 | _,_=>0
noncomputable def B5:LEnt:={ins:=[0,4,5],outs:=[2,3,4],keep:=[],size:=54,code:=B4,s:=Ft}
noncomputable def itN(N:Nat)(p rs:List SV)(m:Nat)(a:Int):CTree:=
 bif Nat.blt (p.length - a.toNat) N then bif dec (Fs p rs m a)then bif(itF (p.length - a.toNat) p a.toNat rs).isSome then
  .ret (.tup [.int .i64 2,.junk,.junk,.qs 1 2 0 ((itF (p.length - a.toNat) p a.toNat rs).getD []).length]) [(0,none),(1,some (.seq 126 ((itF (p.length - a.toNat) p a.toNat rs).getD [])))]
  else .ret (.tup [.int .i64 1,.nils,.bool false,.junk]) [(0,none)]else .fail else .fail
noncomputable def Fu(k:Nat):Bool:=decide (k<=9223372036854775807)&&decide (k * Tryz.prog.types[126].bytes<=140737488355328)
theorem NU(N:Nat)(p rs:List SV)(m:Nat)(a:Int):av Tryz.prog (bn Tryz.prog (tbl []) 300 5) (fun _=>false) (aF []) true 300 B5 {B5 with s:=ay itM Ft N} B4 [.psl 5 p,.qs 0 2 0 m,.int .i64 a] [(0,.seq 126 rs)]=
 bif decide (a < p.length)then bif decide (w64 (a+2) > p.length)then .ret (.tup [.int .i64 1,.nils,.bool false,.qs 0 2 0 m]) []else
  bif inB (w64 (a+1)) p.length then bif decide (w64 (w64 (a+2)+w64 (dg p (w64 (a+1)).toNat)) > p.length)then .ret (.tup [.int .i64 1,.nils,.bool false,.qs 0 2 0 m]) []else
   bif inB (w64 (a+1)) p.length then bif inB a p.length then slI p (w64 (a+2)) (w64 (w64 (a+2)+w64 (dg p (w64 (a+1)).toNat))) fun v=>
    bif decide (m=rs.length)then bif Fu (rs.length+1)then itN N p (rs++[itV (dg p a.toNat) v]) (rs.length+1) (w64 (w64 (a+2)+w64 (dg p (w64 (a+1)).toNat)))else .fail else .fail else .fail else .fail else .fail
 else .ret (.tup [.int .i64 2,.junk,.junk,.qs 0 2 0 m]) []:=by kernel_rfl
end Go.Proofs.YtnlmhpancboddaaGreat
namespace Go.Proofs.YtnlmhpancboddaaGreat
open Go.Am
set_option maxRecDepth 100000
end Go.Proofs.YtnlmhpancboddaaGreat
namespace Go.Proofs.YtnlmhpancboddaaGreat
open Go.Am
set_option maxRecDepth 100000
noncomputable def sT:Code:=Tryz.f58.body.getD .skip
noncomputable def c29:Code:=(bv 4 sT).getD .skip
noncomputable def wR:ag:=fun args H=>match args,H with
 | [.psl 36 a,.psl 36 b,.int .i64 i],[]=>.ite (dec (a=b/\a.length<=100000/\0<=i)) (.ret (.tup [.int .i64 2]) []) .fail
 | _,_=>.fail
def HH:List SV->HpL->Nat
 | [.psl _ a,_,.int _ i],_=>a.length - i.toNat
 | _,_=>0
noncomputable def e29:LEnt:={ins:=[0,1,5],outs:=[],keep:=[],size:=26,code:=c29,s:=wR}
theorem Jc(N:Nat)(a:List SV)(i:Int):av Tryz.prog (bn Tryz.prog (tbl []) 300 5) (fun _=>false) (aF []) true 300 e29 {e29 with s:=ay HH wR N} c29 [.psl 36 a,.psl 36 a,.int .i64 i] []=
 bif decide (i < a.length)then bif inB i a.length then bif inB i a.length then bif(asI (a.getD i.toNat .junk)!=asI (a.getD i.toNat .junk))then .ret (.tup [.int .i64 1]) []else
  (bif Nat.blt (a.length - (w64 (i+1)).toNat) N then bif dec (a=a/\a.length<=100000/\0<=w64 (i+1))then .ret (.tup [.int .i64 2]) []else .fail else .fail)else .fail else .fail
 else .ret (.tup [.int .i64 2]) []:=by kernel_rfl
theorem Jd    :aO     Tryz.prog e29:=eq         (κ:=bn    Tryz.prog (tbl []) 300 5) (ι:=fun _=>false) (T:=aF   []) (sp:=true) (fuel:=300) (c:=c29) (μ:=HH   ) (aL       ak       aq     ok0 300 5) aq     aE       (show aN    (aF   []) c29=c29 by kernel_rfl) (by
 intro N args H r hb h
 unfold e29 wR at h
 simp only[]at h
 split at h
 . rename_i a b i
   rw[aa]at h
   cases hc:dec _ with
   | false=>rw[hc]at h;cases h
   | true=>
    rw[hc,cT]at h
    obtain⟨rfl,h1,h2⟩:=dec_iff.1 hc
    refine(congrArg ac (Jc N a i)).trans ?_
    by_cases hi:i < a.length
    . have hN:Nat.blt (a.length - i.toNat) (N+1)=true:=hb
      rw[bL]at hN
      rw[dT0 hi,show inB i a.length=true by unfold inB;simp;omega,show w64 (i+1)=i+1 from ai (by omega) (by omega),show Nat.blt (a.length - (i+1).toNat) N=true by rw[bL];omega,dec_iff.2 ⟨rfl,h1,by omega⟩]
      simp only[bne_self_eq_false,cF,cT]
      exact h
    . rw[dF hi];exact h
 . cases h)
noncomputable def pj:ag:=fun args H=>match args,H with
 | [.psl 36 a,.psl 36 b],[]=>.ite (dec (a=b/\a.length<=100000)) (.ret (.bool true) []) .fail
 | _,_=>.fail
theorem CF(a:List SV):bE Tryz.prog (bn Tryz.prog (tbl []) 300 5) (fun _=>false) (aF [("s",e29)]) true 300 Tryz.f58 (bx [(4, "s")] sT) [.psl 36 a,.psl 36 a] []=
 bif(a.length:Int)!=(a.length:Int)then .ret (.bool false) []else bif dec (a=a/\a.length<=100000/\(0:Int)<=0)then .ret (.bool true) []else .fail:=by kernel_rfl
theorem CG:Known Tryz.prog 58 pj:=by
 have h0:Known Tryz.prog 58 (bE Tryz.prog (bn Tryz.prog (tbl []) 300 5) (fun _=>false) (aF [("s",e29)]) true 300 Tryz.f58 (bx [(4, "s")] sT)):=⟨⟨Tryz.f58,Tryz.func58,bf ak Tryz.func58,rfl⟩,aS (aL ak aq ok0 300 5) aq (ba Jd aE) Tryz.func58 (show Tryz.f58.body=some (aN (aF [("s",e29)]) (bx [(4, "s")] sT))by kernel_rfl)⟩
 refine h0.weak (fun args H v ups h=> ?_)
 unfold pj at h
 split at h
 . rename_i a b
   rw[aa]at h
   cases hc:dec _ with
   | false=>rw[hc]at h;cases h
   | true=>
    rw[hc,cT]at h
    obtain⟨rfl,h1⟩:=dec_iff.1 hc
    refine(congrArg ac (CF a)).trans ?_
    rw[dec_iff.2 ⟨rfl,h1,by omega⟩,show((a.length:Int)!=(a.length:Int))=false by simp]
    exact h
 . cases h
noncomputable def sU:Code:=Tryz.f59.body.getD .skip
noncomputable def c30:Code:=(bv 4 sU).getD .skip
noncomputable def wS:ag:=fun args H=>match args,H with
 | [.psl 37 a,.psl 37 b,.int .i64 i],[]=>.ite (dec (a=b/\a.length<=100000/\0<=i)) (.ret (.tup [.int .i64 2]) []) .fail
 | _,_=>.fail
def HI:List SV->HpL->Nat
 | [.psl _ a,_,.int _ i],_=>a.length - i.toNat
 | _,_=>0
noncomputable def e30:LEnt:={ins:=[0,1,5],outs:=[],keep:=[],size:=26,code:=c30,s:=wS}
theorem Je(N:Nat)(a:List SV)(i:Int):av Tryz.prog (bn Tryz.prog (tbl []) 300 5) (fun _=>false) (aF []) true 300 e30 {e30 with s:=ay HI wS N} c30 [.psl 37 a,.psl 37 a,.int .i64 i] []=
 bif decide (i < a.length)then bif inB i a.length then bif inB i a.length then bif(asI (a.getD i.toNat .junk)!=asI (a.getD i.toNat .junk))then .ret (.tup [.int .i64 1]) []else
  (bif Nat.blt (a.length - (w64 (i+1)).toNat) N then bif dec (a=a/\a.length<=100000/\0<=w64 (i+1))then .ret (.tup [.int .i64 2]) []else .fail else .fail)else .fail else .fail
 else .ret (.tup [.int .i64 2]) []:=by kernel_rfl
theorem Jf    :aO     Tryz.prog e30:=eq         (κ:=bn    Tryz.prog (tbl []) 300 5) (ι:=fun _=>false) (T:=aF   []) (sp:=true) (fuel:=300) (c:=c30) (μ:=HI   ) (aL       ak       aq     ok0 300 5) aq     aE       (show aN    (aF   []) c30=c30 by kernel_rfl) (by
 intro N args H r hb h
 unfold e30 wS at h
 simp only[]at h
 split at h
 . rename_i a b i
   rw[aa]at h
   cases hc:dec _ with
   | false=>rw[hc]at h;cases h
   | true=>
    rw[hc,cT]at h
    obtain⟨rfl,h1,h2⟩:=dec_iff.1 hc
    refine(congrArg ac (Je N a i)).trans ?_
    by_cases hi:i < a.length
    . have hN:Nat.blt (a.length - i.toNat) (N+1)=true:=hb
      rw[bL]at hN
      rw[dT0 hi,show inB i a.length=true by unfold inB;simp;omega,show w64 (i+1)=i+1 from ai (by omega) (by omega),show Nat.blt (a.length - (i+1).toNat) N=true by rw[bL];omega,dec_iff.2 ⟨rfl,h1,by omega⟩]
      simp only[bne_self_eq_false,cF,cT]
      exact h
    . rw[dF hi];exact h
 . cases h)
noncomputable def pl:ag:=fun args H=>match args,H with
 | [.psl 37 a,.psl 37 b],[]=>.ite (dec (a=b/\a.length<=100000)) (.ret (.bool true) []) .fail
 | _,_=>.fail
theorem CH(a:List SV):bE Tryz.prog (bn Tryz.prog (tbl []) 300 5) (fun _=>false) (aF [("s",e30)]) true 300 Tryz.f59 (bx [(4, "s")] sU) [.psl 37 a,.psl 37 a] []=
 bif(a.length:Int)!=(a.length:Int)then .ret (.bool false) []else bif dec (a=a/\a.length<=100000/\(0:Int)<=0)then .ret (.bool true) []else .fail:=by kernel_rfl
theorem CI:Known Tryz.prog 59 pl:=by
 have h0:Known Tryz.prog 59 (bE Tryz.prog (bn Tryz.prog (tbl []) 300 5) (fun _=>false) (aF [("s",e30)]) true 300 Tryz.f59 (bx [(4, "s")] sU)):=⟨⟨Tryz.f59,Tryz.func59,bf ak Tryz.func59,rfl⟩,aS (aL ak aq ok0 300 5) aq (ba Jf aE) Tryz.func59 (show Tryz.f59.body=some (aN (aF [("s",e30)]) (bx [(4, "s")] sU))by kernel_rfl)⟩
 refine h0.weak (fun args H v ups h=> ?_)
 unfold pl at h
 split at h
 . rename_i a b
   rw[aa]at h
   cases hc:dec _ with
   | false=>rw[hc]at h;cases h
   | true=>
    rw[hc,cT]at h
    obtain⟨rfl,h1⟩:=dec_iff.1 hc
    refine(congrArg ac (CH a)).trans ?_
    rw[dec_iff.2 ⟨rfl,h1,by omega⟩,show((a.length:Int)!=(a.length:Int))=false by simp]
    exact h
 . cases h
noncomputable def oh:Code:=Tryz.f60.body.getD .skip
noncomputable def CJ:Code:=(bv 4 oh).getD .skip
noncomputable def wT:ag:=fun args H=>match args,H with
 | [.psl 136 a,.psl 136 b,.int .i64 i],[]=>.ite (dec (a=b/\a.length<=100000/\0<=i)) (.ret (.tup [.int .i64 2]) []) .fail
 | _,_=>.fail
def HJ:List SV->HpL->Nat
 | [.psl _ a,_,.int _ i],_=>a.length - i.toNat
 | _,_=>0
noncomputable def wU:LEnt:={ins:=[0,1,5],outs:=[],keep:=[],size:=26,code:=CJ,s:=wT}
theorem Jg(N:Nat)(a:List SV)(i:Int):av Tryz.prog (bn Tryz.prog (tbl []) 300 5) (fun _=>false) (aF []) true 300 wU {wU with s:=ay HJ wT N} CJ [.psl 136 a,.psl 136 a,.int .i64 i] []=
 bif decide (i < a.length)then bif inB i a.length then bif inB i a.length then bif !((asI (aM (a.getD i.toNat .junk) 0)==asI (aM (a.getD i.toNat .junk) 0))&&((asI (aM (a.getD i.toNat .junk) 1)==asI (aM (a.getD i.toNat .junk) 1))&&((asI (aM (a.getD i.toNat .junk) 2)==asI (aM (a.getD i.toNat .junk) 2))&&((asI (aM (a.getD i.toNat .junk) 3)==asI (aM (a.getD i.toNat .junk) 3))&&((asI (aM (a.getD i.toNat .junk) 4)==asI (aM (a.getD i.toNat .junk) 4))&&((asI (aM (a.getD i.toNat .junk) 5)==asI (aM (a.getD i.toNat .junk) 5))&&((asI (aM (a.getD i.toNat .junk) 6)==asI (aM (a.getD i.toNat .junk) 6))&&(asI (aM (a.getD i.toNat .junk) 7)==asI (aM (a.getD i.toNat .junk) 7)))))))))then .ret (.tup [.int .i64 1]) []else
  (bif Nat.blt (a.length - (w64 (i+1)).toNat) N then bif dec (a=a/\a.length<=100000/\0<=w64 (i+1))then .ret (.tup [.int .i64 2]) []else .fail else .fail)else .fail else .fail
 else .ret (.tup [.int .i64 2]) []:=by kernel_rfl
theorem Jh    :aO     Tryz.prog wU  :=eq         (κ:=bn    Tryz.prog (tbl []) 300 5) (ι:=fun _=>false) (T:=aF   []) (sp:=true) (fuel:=300) (c:=CJ  ) (μ:=HJ   ) (aL       ak       aq     ok0 300 5) aq     aE       (show aN    (aF   []) CJ  =CJ   by kernel_rfl) (by
 intro N args H r hb h
 unfold wU wT at h
 simp only[]at h
 split at h
 . rename_i a b i
   rw[aa]at h
   cases hc:dec _ with
   | false=>rw[hc]at h;cases h
   | true=>
    rw[hc,cT]at h
    obtain⟨rfl,h1,h2⟩:=dec_iff.1 hc
    refine(congrArg ac (Jg N a i)).trans ?_
    by_cases hi:i < a.length
    . have hN:Nat.blt (a.length - i.toNat) (N+1)=true:=hb
      rw[bL]at hN
      rw[dT0 hi,show inB i a.length=true by unfold inB;simp;omega,show w64 (i+1)=i+1 from ai (by omega) (by omega),show Nat.blt (a.length - (i+1).toNat) N=true by rw[bL];omega,dec_iff.2 ⟨rfl,h1,by omega⟩]
      simp only[beq_self_eq_true,Bool.and_self,Bool.not_true,cF,cT]
      exact h
    . rw[dF hi];exact h
 . cases h)
noncomputable def pm:ag:=fun args H=>match args,H with
 | [.psl 136 a,.psl 136 b],[]=>.ite (dec (a=b/\a.length<=100000)) (.ret (.bool true) []) .fail
 | _,_=>.fail
theorem CK(a:List SV):bE Tryz.prog (bn Tryz.prog (tbl []) 300 5) (fun _=>false) (aF [("s",wU)]) true 300 Tryz.f60 (bx [(4, "s")] oh) [.psl 136 a,.psl 136 a] []=
 bif(a.length:Int)!=(a.length:Int)then .ret (.bool false) []else bif dec (a=a/\a.length<=100000/\(0:Int)<=0)then .ret (.bool true) []else .fail:=by kernel_rfl
theorem CL:Known Tryz.prog 60 pm:=by
 have h0:Known Tryz.prog 60 (bE Tryz.prog (bn Tryz.prog (tbl []) 300 5) (fun _=>false) (aF [("s",wU)]) true 300 Tryz.f60 (bx [(4, "s")] oh)):=⟨⟨Tryz.f60,Tryz.func60,bf ak Tryz.func60,rfl⟩,aS (aL ak aq ok0 300 5) aq (ba Jh aE) Tryz.func60 (show Tryz.f60.body=some (aN (aF [("s",wU)]) (bx [(4, "s")] oh))by kernel_rfl)⟩
 refine h0.weak (fun args H v ups h=> ?_)
 unfold pm at h
 split at h
 . rename_i a b
   rw[aa]at h
   cases hc:dec _ with
   | false=>rw[hc]at h;cases h
   | true=>
    rw[hc,cT]at h
    obtain⟨rfl,h1⟩:=dec_iff.1 hc
    refine(congrArg ac (CK a)).trans ?_
    rw[dec_iff.2 ⟨rfl,h1,by omega⟩,show((a.length:Int)!=(a.length:Int))=false by simp]
    exact h
 . cases h
noncomputable def sV:Code:=Tryz.f37.body.getD .skip
noncomputable def c12:Code:=(bv 4 sV).getD .skip
noncomputable def wV:ag:=fun args H=>match args,H with
 | [.psl 88 a,.psl 88 b,.int .i64 i],[]=>.ite (dec (a=b/\a.length<=100000/\0<=i)) (.ret (.tup [.int .i64 2]) []) .fail
 | _,_=>.fail
def HK:List SV->HpL->Nat
 | [.psl _ a,_,.int _ i],_=>a.length - i.toNat
 | _,_=>0
noncomputable def e12:LEnt:={ins:=[0,1,5],outs:=[],keep:=[],size:=26,code:=c12,s:=wV}
theorem Ji(N:Nat)(a:List SV)(i:Int):av Tryz.prog (bn Tryz.prog (tbl []) 300 5) (fun _=>false) (aF []) true 300 e12 {e12 with s:=ay HK wV N} c12 [.psl 88 a,.psl 88 a,.int .i64 i] []=
 bif decide (i < a.length)then bif inB i a.length then bif inB i a.length then bif !((asI (aM (a.getD i.toNat .junk) 0)==asI (aM (a.getD i.toNat .junk) 0))&&((asI (aM (a.getD i.toNat .junk) 1)==asI (aM (a.getD i.toNat .junk) 1))&&((asI (aM (a.getD i.toNat .junk) 2)==asI (aM (a.getD i.toNat .junk) 2))&&((asI (aM (a.getD i.toNat .junk) 3)==asI (aM (a.getD i.toNat .junk) 3))&&((asI (aM (a.getD i.toNat .junk) 4)==asI (aM (a.getD i.toNat .junk) 4))&&((asI (aM (a.getD i.toNat .junk) 5)==asI (aM (a.getD i.toNat .junk) 5))&&((asI (aM (a.getD i.toNat .junk) 6)==asI (aM (a.getD i.toNat .junk) 6))&&((asI (aM (a.getD i.toNat .junk) 7)==asI (aM (a.getD i.toNat .junk) 7))&&((asI (aM (a.getD i.toNat .junk) 8)==asI (aM (a.getD i.toNat .junk) 8))&&((asI (aM (a.getD i.toNat .junk) 9)==asI (aM (a.getD i.toNat .junk) 9))&&((asI (aM (a.getD i.toNat .junk) 10)==asI (aM (a.getD i.toNat .junk) 10))&&((asI (aM (a.getD i.toNat .junk) 11)==asI (aM (a.getD i.toNat .junk) 11))&&((asI (aM (a.getD i.toNat .junk) 12)==asI (aM (a.getD i.toNat .junk) 12))&&((asI (aM (a.getD i.toNat .junk) 13)==asI (aM (a.getD i.toNat .junk) 13))&&((asI (aM (a.getD i.toNat .junk) 14)==asI (aM (a.getD i.toNat .junk) 14))&&((asB (aM (a.getD i.toNat .junk) 15)==asB (aM (a.getD i.toNat .junk) 15))&&((asI (aM (a.getD i.toNat .junk) 16)==asI (aM (a.getD i.toNat .junk) 16))&&((asI (aM (a.getD i.toNat .junk) 17)==asI (aM (a.getD i.toNat .junk) 17))&&((asI (aM (a.getD i.toNat .junk) 18)==asI (aM (a.getD i.toNat .junk) 18))&&((asI (aM (a.getD i.toNat .junk) 19)==asI (aM (a.getD i.toNat .junk) 19))&&(asI (aM (a.getD i.toNat .junk) 20)==asI (aM (a.getD i.toNat .junk) 20))))))))))))))))))))))then .ret (.tup [.int .i64 1]) []else
  (bif Nat.blt (a.length - (w64 (i+1)).toNat) N then bif dec (a=a/\a.length<=100000/\0<=w64 (i+1))then .ret (.tup [.int .i64 2]) []else .fail else .fail)else .fail else .fail
 else .ret (.tup [.int .i64 2]) []:=by kernel_rfl
theorem Jj    :aO     Tryz.prog e12:=eq         (κ:=bn    Tryz.prog (tbl []) 300 5) (ι:=fun _=>false) (T:=aF   []) (sp:=true) (fuel:=300) (c:=c12) (μ:=HK   ) (aL       ak       aq     ok0 300 5) aq     aE       (show aN    (aF   []) c12=c12 by kernel_rfl) (by
 intro N args H r hb h
 unfold e12 wV at h
 simp only[]at h
 split at h
 . rename_i a b i
   rw[aa]at h
   cases hc:dec _ with
   | false=>rw[hc]at h;cases h
   | true=>
    rw[hc,cT]at h
    obtain⟨rfl,h1,h2⟩:=dec_iff.1 hc
    refine(congrArg ac (Ji N a i)).trans ?_
    by_cases hi:i < a.length
    . have hN:Nat.blt (a.length - i.toNat) (N+1)=true:=hb
      rw[bL]at hN
      rw[dT0 hi,show inB i a.length=true by unfold inB;simp;omega,show w64 (i+1)=i+1 from ai (by omega) (by omega),show Nat.blt (a.length - (i+1).toNat) N=true by rw[bL];omega,dec_iff.2 ⟨rfl,h1,by omega⟩]
      simp only[beq_self_eq_true,Bool.and_self,Bool.not_true,cF,cT]
      exact h
    . rw[dF hi];exact h
 . cases h)
noncomputable def pn:ag:=fun args H=>match args,H with
 | [.psl 88 a,.psl 88 b],[]=>.ite (dec (a=b/\a.length<=100000)) (.ret (.bool true) []) .fail
 | _,_=>.fail
theorem CM(a:List SV):bE Tryz.prog (bn Tryz.prog (tbl []) 300 5) (fun _=>false) (aF [("s",e12)]) true 300 Tryz.f37 (bx [(4, "s")] sV) [.psl 88 a,.psl 88 a] []=
 bif(a.length:Int)!=(a.length:Int)then .ret (.bool false) []else bif dec (a=a/\a.length<=100000/\(0:Int)<=0)then .ret (.bool true) []else .fail:=by kernel_rfl
theorem CN:Known Tryz.prog 37 pn:=by
 have h0:Known Tryz.prog 37 (bE Tryz.prog (bn Tryz.prog (tbl []) 300 5) (fun _=>false) (aF [("s",e12)]) true 300 Tryz.f37 (bx [(4, "s")] sV)):=⟨⟨Tryz.f37,Tryz.func37,bf ak Tryz.func37,rfl⟩,aS (aL ak aq ok0 300 5) aq (ba Jj aE) Tryz.func37 (show Tryz.f37.body=some (aN (aF [("s",e12)]) (bx [(4, "s")] sV))by kernel_rfl)⟩
 refine h0.weak (fun args H v ups h=> ?_)
 unfold pn at h
 split at h
 . rename_i a b
   rw[aa]at h
   cases hc:dec _ with
   | false=>rw[hc]at h;cases h
   | true=>
    rw[hc,cT]at h
    obtain⟨rfl,h1⟩:=dec_iff.1 hc
    refine(congrArg ac (CM a)).trans ?_
    rw[dec_iff.2 ⟨rfl,h1,by omega⟩,show((a.length:Int)!=(a.length:Int))=false by simp]
    exact h
 . cases h
noncomputable abbrev κs:=tbl [(58,pj),(59,pl),(60,pm)]
theorem sOk:KOk Tryz.prog κs:=af CG (af CI (af CL ok0))
noncomputable def smC(a:List SV)(K:CTree):CTree:=bif dec (a=a/\a.length<=100000)then K else .fail
def zsF:CTree:=.ret (.bool false) []
theorem KY(d:Ds):opn κs Tryz.f36 [aD d,aD d] []=
 bif d.ori==d.ori then smC d.path (bif d.nx==d.nx then bif d.hm==d.hm then bif d.med==d.med then bif d.hp==d.hp then bif d.prf==d.prf then bif d.ho==d.ho then bif d.orr==d.orr then
  smC d.cl (smC d.cm (.ret (.bool (d.tk==d.tk&&(d.tl==d.tl&&(d.tr==d.tr&&d.tg==d.tg)))) []))else zsF else zsF else zsF else zsF else zsF else zsF else zsF)else zsF:=by kernel_rfl
def aP:SV->Option Ds
 | .agg [.int .i64 ori,.psl 36 p,.int .u32 nx,.bool hm,.int .u32 med,.bool hp,.int .u32 prf,.bool ho,.int .u32 orr,.psl 37 c,.psl 136 m,.int .i64 tk,.int .u32 tl,.int .u32 tr,.int .u32 tg]=>some ⟨ori,nx,med,prf,orr,tk,tl,tr,tg,hm,hp,ho,p,c,m,[],[]⟩
 | _=>none
noncomputable def su:ag:=fun args H=>match args,H with
 | [x,y],[]=>match aP x with
  | some d=>.ite (dec (x=aD d/\y=aD d/\d.path.length<=100000/\d.cl.length<=100000/\d.cm.length<=100000)) (.ret (.bool true) []) .fail
  | none=>.fail
 | _,_=>.fail
theorem ER     :Known Tryz.prog 36 su     :=(am        sOk Tryz.func36 rfl).weak (by
 intro args H v ups h
 unfold su at h
 split at h
 . rename_i x y
   split at h
   . rename_i d hd
     rw[aa]at h
     cases hc:dec _ with
     | false=>rw[hc]at h;cases h
     | true=>
      rw[hc,cT]at h
      obtain⟨rfl,rfl,h1,h2,h3⟩:=dec_iff.1 hc
      refine(congrArg ac (KY d)).trans ?_
      unfold smC
      rw[dec_iff.2 ⟨rfl,h1⟩,dec_iff.2 ⟨rfl,h2⟩,dec_iff.2 ⟨rfl,h3⟩]
      simp only[beq_self_eq_true,Bool.and_self,cT]
      exact h
   . cases h
 . cases h)
end Go.Proofs.YtnlmhpancboddaaGreat
