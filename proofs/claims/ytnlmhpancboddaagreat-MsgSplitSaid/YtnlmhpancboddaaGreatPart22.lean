/- Messages: the loop over the messages of a stream, valid. -/
import Derived.Test.YtnlmhpancboddaaGreatPart21
import Derived.Test.YtnlmhpancboddaaGreatPart20
set_option linter.unusedVariables false
set_option linter.unusedSimpArgs false
namespace Go.Proofs.YtnlmhpancboddaaGreat
open Go.Am
set_option maxRecDepth 100000
theorem yQ{m:Nat}{es rs:List SV}{a:Int}{c5 c0:Chunk}(h5:br (sw 2 8) c5=c5)(h0:br (sw 2 8) c0=c0):∀ x,ad [(1,some (.cells 25 [.qs 8 25 0 m])),(2,none),(5,some (.cells 3 [.int .i64 a])),(4,some c5),(0,some c0),(8,some (.seq 52 rs))] (HP1 es a m rs).get x=
  if x=8 then(ad [(4,some c5),(0,some c0)] (HP1 es a m rs).get 2).map (br (sw 2 8))else if x=2 then none else(ad [(4,some c5),(0,some c0)] (HP1 es a m rs).get x).map (br (sw 2 8))
 | 0=>by show some c0=some (br (sw 2 8) c0);rw[h0]
 | 1=>rfl | 2=>rfl | 3=>rfl
 | 4=>by show some c5=some (br (sw 2 8) c5);rw[h5]
 | 5=>rfl | 6=>rfl | 7=>rfl | 8=>rfl
 | x+9=>by
  have h1:∀ k,k < 9->¬ (x+9=k):=fun k hk=>by omega
  have h2:∀ k,k < 9->Nat.beq k (x+9)=false:=fun k hk=>bK (by omega)
  simp only[ad,HP1,HpL.get,h1 8 (by omega),h1 5 (by omega),h1 4 (by omega),h1 2 (by omega),h1 1 (by omega),h1 0 (by omega),if_false,h2 0 (by omega),h2 1 (by omega),h2 1 (by omega),h2 2 (by omega),h2 3 (by omega),h2 4 (by omega),h2 5 (by omega),h2 6 (by omega),h2 7 (by omega),cF,Option.map_none]
theorem yR{es:List SV}{st:LS}:br (sw 2 8) (lrp 1 st es)=lrp 1 st es:=rfl
theorem Dx{es:List SV}{st:LS}:8 ∉ aJ (lrp 1 st es):=by
 have:aJ (lrp 1 st es)=[1,3,4,5,6,7]:=rfl
 rw[this];decide
theorem Dy{m:Nat}{es rs:List SV}{a:Int}:∀ x c,(HP1 es a m rs).get x=some c->8 ∉ aJ c:=by
 intro x c hx
 have:=aQ _ _ _ hx
 simp only[HP1,List.mem_cons,pJ,List.not_mem_nil,or_false]at this
 rcases this with ⟨_,rfl⟩ | ⟨_,rfl⟩ | ⟨_,rfl⟩ | ⟨_,rfl⟩ | ⟨_,rfl⟩ | ⟨_,rfl⟩ | ⟨_,rfl⟩ | ⟨_,rfl⟩
 . exact Dx
 all_goals simp[aJ,az,aj]
theorem AO{m:Nat}{es rs:List SV}{a:Int}:bN (HP1 es a m rs) (.tup [.int .i64 1]) [] (.tup [.int .i64 1]) [(1,some (.cells 25 [.qs 8 25 0 m])),(2,none),(5,some (.cells 3 [.int .i64 a])),(8,some (.seq 52 rs))]:=by
 refine⟨2,8,by simp[HP1],by simp[aj,az],fun x c hx=>Dy x c hx,rfl,fun x=> ?_⟩
 have:=yQ (m:=m) (es:=es) (rs:=rs) (a:=a) (c5:=.cells 28 [.int .i64 0,.int .i64 0]) (c0:=lrp 1 .ready es) rfl yR x
 have e:∀ x,ad [(4,some (.cells 28 [.int .i64 0,.int .i64 0])),(0,some (lrp 1 .ready es))] (HP1 es a m rs).get x=(HP1 es a m rs).get x:=by
  intro x
  match x with
  | 0=>rfl | 1=>rfl | 2=>rfl | 3=>rfl | 4=>rfl
  | x+5=>simp only[ad,show ¬ (x+5=0)by omega,show ¬ (x+5=4)by omega,if_false]
 rw[e,e]at this
 show ad [(1,some (.cells 25 [.qs 8 25 0 m])),(2,none),(5,some (.cells 3 [.int .i64 a])),(8,some (.seq 52 rs))] (HP1 es a m rs).get x=if x=8 then((HP1 es a m rs).get 2).map (br (sw 2 8))else if x=2 then none else((HP1 es a m rs).get x).map (br (sw 2 8))
 rw[<- this]
 match x with
 | 0=>rfl | 1=>rfl | 2=>rfl | 3=>rfl | 4=>rfl
 | x+5=>simp only[ad,show ¬ (x+5=0)by omega,show ¬ (x+5=4)by omega,if_false]
theorem vy      {m:Nat}{es rs:List SV}{e a:Int}:bN      (HP1 es a m rs) (.tup [.int .i64 1]) [(4,some (.cells 28 [.int .i64 e,.int .i64 a])),(3,some (.cells 22 [.nils])),(1,some (.cells 25 [.qs 2 25 0 m])),(0,some (lrp 1 (.done .ret) es))] (.tup [.int .i64 1])
  [(1,some (.cells 25 [.qs 8 25 0 m])),(2,none),(5,some (.cells 3 [.int .i64 a])),(4,some (.cells 28 [.int .i64 e,.int .i64 a])),(0,some (lrp 1 (.done .ret) es)),(8,some (.seq 52 rs))]:=by
 have e':∀ x,ad [(4,some (.cells 28 [.int .i64 e,.int .i64 a])),(3,some (.cells 22 [.nils])),(1,some (.cells 25 [.qs 2 25 0 m])),(0,some (lrp 1 (.done .ret) es))] (HP1 es a m rs).get x=ad [(4,some (.cells 28 [.int .i64 e,.int .i64 a])),(0,some (lrp 1 (.done .ret) es))] (HP1 es a m rs).get x:=by
  intro x
  match x with
  | 0=>rfl | 1=>rfl | 2=>rfl | 3=>rfl | 4=>rfl
  | x+5=>simp only[ad,show ¬ (x+5=0)by omega,show ¬ (x+5=1)by omega,show ¬ (x+5=3)by omega,show ¬ (x+5=4)by omega,if_false]
 refine⟨2,8,by simp[HP1],by simp[aj,az],fun x c hx=> ?_,rfl,fun x=> ?_⟩
 . rw[e']at hx
   simp only[ad]at hx
   by_cases h0:x=0
   . rw[if_pos h0]at hx;cases hx;exact Dx
   . rw[if_neg h0]at hx
     by_cases h5:x=4
     . rw[if_pos h5]at hx;cases hx;simp[aJ,az,aj]
     . rw[if_neg h5]at hx;exact Dy x c hx
 . rw[e',e'];exact yQ rfl yR x
theorem DA      {args:List SV}{H:HpL}{r:SV × List (Nat × Option Chunk)}(h:ac   (ve    args H)=some r):
  (∃ es a,args=[.yl 0,.ptr 5 0,.ptr 6 0]/\H=HP0 es a/\sX es a []/\ac (C0 es (spL es a.toNat []))=some r)\/
  ∃ es a rs,args=[.yl 0,.ptr 6 0,.ptr 7 0]/\H=HP1 es a rs.length rs/\sX es a rs/\ac (Ay es (spL es a.toNat rs))=some r:=by
 unfold ve at h
 split at h
 . rename_i b c
   split at h
   . rename_i es a hp
     rw[aa]at h
     cases hc:dec (b=5/\c=6/\H=HP0 es a/\sX es a [])with
     | false=>rw[hc]at h;cases h
     | true=>
      rw[hc]at h
      obtain⟨rfl,rfl,rfl,h3⟩:=dec_iff.1 hc
      exact .inl ⟨es,a,rfl,rfl,h3,h⟩
   . rename_i es a m rs hp
     rw[aa]at h
     cases hc:dec (b=6/\c=7/\H=HP1 es a m rs/\m=rs.length/\sX es a rs)with
     | false=>rw[hc]at h;cases h
     | true=>
      rw[hc]at h
      obtain⟨rfl,rfl,rfl,rfl,h3⟩:=dec_iff.1 hc
      exact .inr ⟨es,a,rs,rfl,rfl,h3,h⟩
   . cases h
 . cases h
theorem AP       :aO     Tryz.prog Az  :=bG          (κ:=κsp) (ι:=ιsp) (T:=aF   []) (sp:=true) (fuel:=300) (c:=c31) (μ:=Jo  ) xL    aq     aE       (show aN    (aF   []) c31=c31 by kernel_rfl) (by
 intro N args H v' ups' hbt hr
 rcases DA hr with ⟨es,a,rfl,rfl,ho,hr⟩ | ⟨es,a,rs,rfl,rfl,ho,hr⟩
 . have hN:Nat.blt (es.length - a.toNat) (N+1)=true:=hbt
   rw[bL]at hN
   obtain⟨hb,hl,h0,h1,hz⟩:=ho
   have hrd:=Jp N es a
   rw[yn hb hl h0 h1]at hrd
   rw[jn]at hr
   have hcs:=eL (es.drop a.toNat)
   have hdl:(es.drop a.toNat).length=es.length - a.toNat:=List.length_drop
   generalize hh:hdP (es.drop a.toNat)=q at *
   by_cases e2:q.2=0
   . rw[show(q.2==0)=true by simpa using e2,cT       ,cT       ]at hrd
     rw[show(q.2 !=0)=false by simpa using e2,cF]at hr
     by_cases e1:q.1=0
     . rw[show(q.1==0)=true by simpa using e1,cT]at hrd hr
       cases hr
       exact .inl ⟨_,congrArg ac hrd,fun x=>rfl⟩
     . rw[show(q.1==0)=false by simpa using e1,cF        ]at hrd hr
       obtain⟨s1,s2,s3⟩:=(hcs e2).resolve_left e1
       rw[yo (jl hb _) (by omega) s1 s2]at hrd
       generalize rdP (dg (es.drop a.toNat) 18) (sl (es.drop a.toNat) 19 (q.1.toNat - 19))=w at *
       by_cases e3:w.2=0
       . rw[show(w.2 !=0)=false by simpa using e3,cF]at hrd hr
         have hw:w64 (a+q.1)=a+q.1:=ai (by omega) (by omega)
         have ht:(a+q.1).toNat=a.toNat+q.1.toNat:=by omega
         unfold C1 at hrd
         rw[hw,ht,show Nat.blt (es.length - (a.toNat+q.1.toNat)) N=true by rw[bL];omega,cT,dec_iff.2 ⟨rfl,rfl,rfl,rfl,hb,hl,by omega,by omega,by simp;omega⟩,cT]at hrd
         rw[nA]at hr
         have hlen:1<=(spL es (a.toNat+q.1.toNat) [mgV w.1]).2.2.length:=oq _ _ _ [mgV w.1]
         generalize spL es (a.toNat+q.1.toNat) [mgV w.1]=r at *
         simp only[]at hrd
         unfold C0 at hr
         rw[aa,dF (show ¬ r.2.2.length=0 by omega),cF,aa]at hr
         cases he:r.1==0 with
         | true=>
          rw[he]at hr hrd
          cases hr
          refine .inl ⟨_,congrArg ac hrd,fy 8 rfl rfl (fun i hi=> ?_)⟩
          match i with
          | 0=>rfl | 1=>rfl | 2=>rfl | 3=>rfl | 4=>rfl | 5=>rfl | 6=>rfl | 7=>rfl
          | i+8=>omega
         | false=>
          rw[he]at hr hrd
          cases hr
          refine .inl ⟨_,congrArg ac hrd,fy 8 rfl rfl (fun i hi=> ?_)⟩
          match i with
          | 0=>rfl | 1=>rfl | 2=>rfl | 3=>rfl | 4=>rfl | 5=>rfl | 6=>rfl | 7=>rfl
          | i+8=>omega
       . rw[show(w.2 !=0)=true by simpa using e3,cT]at hrd hr
         unfold nq at hrd
         rw[show(w.2 !=0)=true by simpa using e3,cT]at hrd
         unfold C0 at hr
         rw[aa,dT0 (show(([]:List SV).length=0)from rfl),cT,aa,show(w.2==0)=false by simpa using e3]at hr
         cases hr
         refine .inl ⟨_,congrArg ac hrd,fy 8 rfl rfl (fun i hi=> ?_)⟩
         have ha:((a.toNat:Nat):Int)=a:=by omega
         match i with
         | 0=>rfl | 1=>rfl | 2=>rfl
         | 3=>show some (Chunk.cells 28 [SV.int .i64 w.2,SV.int .i64 ((a.toNat:Nat):Int)])=_;rw[ha];rfl
         | 4=>rfl | 5=>rfl | 6=>rfl | 7=>rfl
         | i+8=>omega
   . rw[show(q.2==0)=false by simpa using e2,cF,cF]at hrd
     rw[show(q.2 !=0)=true by simpa using e2,cT]at hr hrd
     unfold nq at hrd
     rw[show(q.2 !=0)=true by simpa using e2,cT]at hrd
     unfold C0 at hr
     rw[aa,dT0 (show(([]:List SV).length=0)from rfl),cT,aa,show(q.2==0)=false by simpa using e2]at hr
     cases hr
     refine .inl ⟨_,congrArg ac hrd,fy 8 rfl rfl (fun i hi=> ?_)⟩
     have ha:((a.toNat:Nat):Int)=a:=by omega
     match i with
     | 0=>rfl | 1=>rfl | 2=>rfl
     | 3=>show some (Chunk.cells 28 [SV.int .i64 q.2,SV.int .i64 ((a.toNat:Nat):Int)])=_;rw[ha];rfl
     | 4=>rfl | 5=>rfl | 6=>rfl | 7=>rfl
     | i+8=>omega
 . have hN:Nat.blt (es.length - a.toNat) (N+1)=true:=hbt
   rw[bL]at hN
   obtain⟨hb,hl,h0,h1,hz⟩:=ho
   have hrd:=Jq N rs.length es rs a
   have ha:((a.toNat:Nat):Int)=a:=by omega
   rw[yn hb hl h0 h1]at hrd
   rw[jn]at hr
   have hcs:=eL (es.drop a.toNat)
   have hdl:(es.drop a.toNat).length=es.length - a.toNat:=List.length_drop
   generalize hh:hdP (es.drop a.toNat)=q at *
   by_cases e2:q.2=0
   . rw[show(q.2==0)=true by simpa using e2,cT       ,cT       ]at hrd
     rw[show(q.2 !=0)=false by simpa using e2,cF]at hr
     by_cases e1:q.1=0
     . rw[show(q.1==0)=true by simpa using e1,cT]at hrd hr
       unfold Ay at hr
       rw[aa,show((0:Int)==0)=true from rfl]at hr
       simp only[ha]at hr
       cases hr
       exact .inr ⟨_,_,congrArg ac hrd,AO⟩
     . rw[show(q.1==0)=false by simpa using e1,cF        ]at hrd hr
       obtain⟨s1,s2,s3⟩:=(hcs e2).resolve_left e1
       rw[yo (jl hb _) (by omega) s1 s2]at hrd
       generalize rdP (dg (es.drop a.toNat) 18) (sl (es.drop a.toNat) 19 (q.1.toNat - 19))=w at *
       by_cases e3:w.2=0
       . rw[show(w.2 !=0)=false by simpa using e3,cF]at hrd hr
         have hw:w64 (a+q.1)=a+q.1:=ai (by omega) (by omega)
         have ht:(a+q.1).toNat=a.toNat+q.1.toNat:=by omega
         unfold C2 at hrd
         rw[Dt rfl (by omega),hw,ht,show Nat.blt (es.length - (a.toNat+q.1.toNat)) N=true by rw[bL];omega,cT,dec_iff.2 ⟨rfl,rfl,rfl,by simp,hb,hl,by omega,by omega,by simp;omega⟩,cT]at hrd
         generalize spL es (a.toNat+q.1.toNat) (rs++[mgV w.1])=r at *
         simp only[]at hrd
         unfold Ay at hr
         rw[aa]at hr
         cases he:r.1==0 with
         | true=>
          rw[he]at hr hrd
          cases hr
          refine .inl ⟨_,congrArg ac hrd,fy 9 rfl rfl (fun i hi=> ?_)⟩
          match i with
          | 0=>rfl | 1=>rfl | 2=>rfl | 3=>rfl | 4=>rfl | 5=>rfl | 6=>rfl | 7=>rfl | 8=>rfl
          | i+9=>omega
         | false=>
          rw[he]at hr hrd
          cases hr
          refine .inl ⟨_,congrArg ac hrd,fy 9 rfl rfl (fun i hi=> ?_)⟩
          match i with
          | 0=>rfl | 1=>rfl | 2=>rfl | 3=>rfl | 4=>rfl | 5=>rfl | 6=>rfl | 7=>rfl | 8=>rfl
          | i+9=>omega
       . rw[show(w.2 !=0)=true by simpa using e3,cT]at hrd hr
         unfold nq at hrd
         rw[show(w.2 !=0)=true by simpa using e3,cT]at hrd
         unfold Ay at hr
         rw[aa,show(w.2==0)=false by simpa using e3]at hr
         simp only[ha]at hr
         cases hr
         exact .inr ⟨_,_,congrArg ac hrd,vy⟩
   . rw[show(q.2==0)=false by simpa using e2,cF,cF]at hrd
     rw[show(q.2 !=0)=true by simpa using e2,cT]at hr hrd
     unfold nq at hrd
     rw[show(q.2 !=0)=true by simpa using e2,cT]at hrd
     unfold Ay at hr
     rw[aa,show(q.2==0)=false by simpa using e2]at hr
     simp only[ha]at hr
     cases hr
     exact .inr ⟨_,_,congrArg ac hrd,vy⟩)
noncomputable abbrev Tpp:cu:=aF [("m",Az)]
noncomputable def vG:ag:=oK Tryz.prog κsp ιsp Tpp Msp true 300 Tryz.f9 b9
theorem AU:Known Tryz.prog 9 vG:=
 ⟨⟨Tryz.f9,Tryz.func9,bf ak Tryz.func9,rfl⟩,iN xL aq (ba AP aE) (mn Tryz.func31 (show Tryz.f31.body=some (aN Tpp m31)by kernel_rfl) oL) Tryz.func9 (show Tryz.f9.body=some (aN Tpp b9)by kernel_rfl)⟩
noncomputable def pU(es:List SV)(e:Int)(K:Nat->List SV->CTree):CTree:=slI es e es.length fun q=>(bif te (([]:List SV).length+q.length)then K (([]:List SV).length+q.length) ([]++q)else .fail)
noncomputable def yV(es:List SV)(r:Int × Nat × List SV):CTree:=
 bif decide (r.2.2.length=0)then(bif r.1==0 then pU es 0 fun k xs=>.ret (.tup [.nils,.qs 0 1 0 k,fl0]) [(0,some (.seq 5 xs))]else .ret (.tup [.nils,.nils,.agg [.int .i64 r.1,.int .i64 r.2.1]]) [])
 else bif r.1==0 then pU es r.2.1 fun k xs=>.ret (.tup [.qs 0 25 0 r.2.2.length,.qs 1 1 0 k,fl0]) [(0,some (.seq 52 r.2.2)),(1,some (.seq 5 xs))]else .ret (.tup [.qs 0 25 0 r.2.2.length,.nils,.agg [.int .i64 r.1,.int .i64 r.2.1]]) [(0,some (.seq 52 r.2.2))]
theorem DE(es:List SV):vG [.psl 5 es] []=bif dec (5=5/\6=6/\HP0 es 0=HP0 es 0/\sX es 0 [])then yV es (spL es (0:Int).toNat [])else .fail:=by kernel_rfl
theorem mQ{es:List SV}{a:Nat}{e:Int}(he:e=a)(hl:es.length<=1000000)(ha:a<=es.length)(K:Nat->List SV->CTree):pU es e K=K (es.drop a).length (es.drop a):=by
 subst he
 unfold pU
 rw[eK (a:=(a:Int)) (b:=(es.length:Int)) (i:=a) (j:=es.length) rfl rfl ha (Nat.le_refl _),ia,List.length_nil,Nat.zero_add,kB (by rw[List.length_drop];omega),cT,nA]
noncomputable def lO(es:List SV)(r:Int × Nat × List SV):CTree:=
 .ite (r.1==0) (.ret (.tup [.psl 52 r.2.2,.qs 0 1 0 (es.drop r.2.1).length,fl0]) [(0,some (.seq 5 (es.drop r.2.1)))]) (.ret (.tup [.psl 52 r.2.2,.nils,.agg [.int .i64 r.1,.int .i64 r.2.1]]) [])
noncomputable def lP(es:List SV)(r:Int × Nat × List SV):CTree:=
 .ite (r.1==0) (.ite (decide (r.2.2.length=0)) (.ret (.tup [.psl 52 r.2.2,.qs 0 1 0 (es.drop r.2.1).length,fl0]) [(0,some (.seq 5 (es.drop r.2.1)))]) (.ret (.tup [.psl 52 r.2.2,.qs 1 1 0 (es.drop r.2.1).length,fl0]) [(1,some (.seq 5 (es.drop r.2.1)))]))
  (.ret (.tup [.psl 52 r.2.2,.nils,.agg [.int .i64 r.1,.int .i64 r.2.1]]) [])
noncomputable def mR:ag:=fun args H=>match args,H with
 | [.psl 5 es],[]=>.ite (dec (byl es/\es.length<=1000000)) (lP es (spL es 0 [])) .fail
 | _,_=>.fail
theorem AV       :Known Tryz.prog 9 mR       :=bd         AU        (by
 intro args H v' ups' h
 unfold mR at h
 split at h
 . rename_i es
   rw[aa]at h
   cases hc:dec (byl es/\es.length<=1000000)with
   | false=>rw[hc]at h;cases h
   | true=>
    rw[hc,cT]at h
    obtain⟨hb,hl⟩:=dec_iff.1 hc
    have ht:=DE es
    rw[dec_iff.2 ⟨rfl,rfl,rfl,hb,hl,by omega,by omega,by simp;omega⟩,cT,show(0:Int).toNat=0 from rfl]at ht
    obtain⟨a1,a2,a3⟩:=sK (es.length - 0) es 0 [] (Nat.zero_le _)
    have a3':(spL es 0 []).2.2.length=0->(spL es 0 []).2.1=0:=a3
    have a2':(spL es 0 []).2.1<=es.length:=a2
    generalize spL es 0 []=r at *
    unfold yV at ht
    unfold lP at h
    rw[aa]at h
    by_cases hk:r.2.2.length=0
    . rw[dT0 hk,cT]at ht
      have hz:=a3' hk
      have hr:r.2.2=[]:=List.length_eq_zero_iff.1 hk
      rw[hr]at h
      cases he:r.1==0 with
      | true=>
       rw[he,cT,mQ (e:=0) (a:=0) (by decide) hl (Nat.zero_le _)]at ht
       rw[he,cT,aa,dT0 (show([]:List SV).length=0 from rfl),cT,hz]at h
       cases h
       exact⟨_,_,congrArg ac ht,.inr ⟨.tup (.cons .nils .rfl'),fun x c' hx=>⟨c',hx,.rfl'⟩⟩⟩
      | false=>
       rw[he,cF]at ht
       rw[he,cF]at h
       cases h
       exact⟨_,_,congrArg ac ht,.inr ⟨.tup (.cons .nils .rfl'),fun x c' hx=>⟨c',hx,.rfl'⟩⟩⟩
    . rw[dF              hk,cF        ]at ht
      cases he:r.1==0 with
      | true=>
       rw[he,cT,mQ (a:=r.2.1) rfl hl a2']at ht
       rw[he,cT,aa,dF hk,cF]at h
       cases h
       refine⟨_,_,congrArg ac ht,.inl ⟨0,52,r.2.2,rfl,.tup (.cons (.qs rfl) .rfl'),fun x c' hx=> ?_⟩⟩
       simp only[ad]at hx
       by_cases h2:x=1
       . subst h2;exact⟨by decide,c',hx,.rfl'⟩
       . rw[if_neg h2]at hx
         simp[HpL.get]at hx
      | false=>
       rw[he,cF]at ht
       rw[he,cF]at h
       cases h
       refine⟨_,_,congrArg ac ht,.inl ⟨0,52,r.2.2,rfl,.tup (.cons (.qs rfl) .rfl'),fun x c' hx=> ?_⟩⟩
       simp[ad,HpL.get]at hx
 . cases h)
noncomputable def vH:ag:=fun args H=>match args,H with
 | [.psl 5 es],[]=>.ite (dec (byl es/\es.length<=1000000)) (lO es (spL es 0 [])) .fail
 | _,_=>.fail
theorem pV        {xs rs:List SV}{k:Nat}:bN      [] (.tup [.psl 52 rs,.qs 1 1 0 k,fl0]) [(1,some (.seq 5 xs))] (.tup [.psl 52 rs,.qs 0 1 0 k,fl0]) [(0,some (.seq 5 xs))]:=by
 refine⟨1,0,by simp,by simp[aj,az,fl0],fun x c hx=> ?_,rfl,fun x=> ?_⟩
 . simp only[ad]at hx
   by_cases h2:x=1
   . rw[if_pos h2]at hx;cases hx;simp[aJ]
   . rw[if_neg h2]at hx
     simp[HpL.get]at hx
 . match x with
   | 0=>rfl | 1=>rfl
   | x+2=>
    simp only[ad,HpL.get,show ¬ (x+2=1)by omega,show ¬ (x+2=0)by omega,if_false,Option.map_none]
theorem DF      :Known Tryz.prog 9 vH      :=fP        AV        (by
 intro args H v' ups' h
 unfold vH at h
 split at h
 . rename_i es
   rw[aa]at h
   cases hc:dec (byl es/\es.length<=1000000)with
   | false=>rw[hc]at h;cases h
   | true=>
    rw[hc,cT]at h
    have run:∀ t,ac (lP es (spL es 0 []))=t->ac (mR [.psl 5 es] [])=t:=fun t ht=>by
     show ac (.ite (dec (byl es/\es.length<=1000000)) (lP es (spL es 0 [])) .fail)=_
     rw[aa,hc];exact ht
    generalize spL es 0 []=r at *
    unfold lO at h
    unfold lP at run
    rw[aa]at h run
    cases he:r.1==0 with
    | true=>
     rw[he,cT]at h run
     rw[aa]at run
     by_cases hk:r.2.2.length=0
     . rw[dT0 hk]at run
       exact .inl ⟨_,run _ h,fun x=>rfl⟩
     . rw[dF hk]at run
       cases h
       exact .inr ⟨_,_,run _ rfl,pV⟩
    | false=>
     rw[he,cF]at h run
     exact .inl ⟨_,run _ h,fun x=>rfl⟩
 . cases h)
noncomputable def pW:ag:=fun args H=>match args,H with
 | [.qs 0 1 0 n],[(0,.seq 5 es)]=>.ite (dec (byl es/\n=es.length/\es.length<=1000000)) (wH es (spL es 0 [])) .fail
 | [.psl 5 es],[]=>.ite (dec (byl es/\es.length<=1000000)) (lO es (spL es 0 [])) .fail
 | _,_=>.fail
theorem DG:Known Tryz.prog 9 pW:=iU FB DF (by
 intro args H v ups h
 unfold pW at h
 split at h
 . exact .inl h
 . exact .inr h
 . cases h)
noncomputable def HA:Code:=Tryz.f4.body.getD .skip
noncomputable def c4:Code:=(bv 10 HA).getD .skip
noncomputable def N4(r:Int × Nat × List SV):Int:=bif r.1==0 then 0 else r.2.1
def LQ(b sz ms:List SV)(fe fa:Int)(gs hs:List SV)(at_ dn i:Int):Prop:=
 byl b/\b.length<=9000/\sz.length<=40/\ms=(spL b 0 []).2.2/\fe=(spL b 0 []).1/\fa=N4 (spL b 0 [])/\0<=i/\i<=(sz.length:Int)+1/\0<=at_/\at_<=b.length/\0<=dn/\
 spL (b.take at_.toNat) 0 []=(0,dn.toNat,gs)/\hs=(b.take at_.toNat).drop dn.toNat/\(i=(sz.length:Int)+1->at_=b.length)
noncomputable def N5:ag:=fun args H=>match args,H with
 | [.psl 5 b,.psl 3 sz,.psl 52 ms,.ptr 0 0,.qs 1 25 0 g,.qs 2 1 0 h,.int .i64 at_,.int .i64 dn,.int .i64 i],[(0,.cells 28 [.int .i64 fe,.int .i64 fa]),(1,.seq 52 gs),(2,.seq 5 hs)]=>
  .ite (dec (g=gs.length/\h=hs.length/\LQ b sz ms fe fa gs hs at_ dn i)) (.ite ((spL b 0 []).1==0)
  (.ret (.tup [.int .i64 2,.junk,.psl 52 ms,.ptr 0 0,.qs 3 25 0 ms.length,.qs 4 1 0 (b.drop (spL b 0 []).2.1).length]) [(1,none),(2,none),(3,some (.seq 52 ms)),(4,some (.seq 5 (b.drop (spL b 0 []).2.1)))])
  (.ret (.tup [.int .i64 1,.bool true,.junk,.junk,.junk,.junk]) [(0,none),(1,none),(2,none)])) .fail
 | _,_=>.fail
noncomputable def e4:LEnt:={ins:=[0,1,5,7,8,9,10,11,12],outs:=[4,5,7,8,9],keep:=[6],size:=141,code:=c4,s:=N5}
noncomputable def IW(k:Nat):Bool:=decide (k<=9223372036854775807)&&decide (k * Tryz.prog.types[52].bytes<=140737488355328)
noncomputable def elC(l m:Nat)(es:List SV)(K:List SV->CTree):CTree:=bif decide (l=0)&&decide (m=es.length)then K es else bif decide (l+m<=es.length)then K ((es.drop l).take m)else .fail
def oZ(xs:List SV):List UInt8:=xs.map Go.Am.byteOf
theorem AF{p:List SV}(hp:p.length<=100000):fY (upP p).1.d:=by
 unfold upP
 cases !upB p with
 | true=>exact mD
 | false=>
  cases(rdQ (p.drop 4) (p.length - 4)).1 !=0 with
  | true=>exact mD
  | false=>
   have:=Aq (es:=p.drop 4) (by rw[List.length_drop];omega)
   rw[List.length_drop]at this
   exact this
theorem AG{k:Int}{p:List SV}(hp:p.length<=100000):fY (rdP k p).1.d:=by
 by_cases h:k=2
 . subst h;exact AF hp
 . rw[yE h];exact mD
theorem rM       {es:List SV}(he:es.length<=100000):∀ (f a:Nat) (rs:List SV),(∀ x ∈ rs,fY     (ib   x).d)->∀ x ∈ (spF f es a rs).2.2,fY     (ib   x).d
 | 0,_,_,h=>h
 | f+1,a,rs,h=>by
  unfold spF
  cases(hdP (es.drop a)).2 !=0 with
  | true=>exact h
  | false=>
   cases(hdP (es.drop a)).1==0 with
   | true=>exact h
   | false=>
    cases(rdP (dg (es.drop a) 18) (sl (es.drop a) 19 ((hdP (es.drop a)).1.toNat - 19))).2 !=0 with
    | true=>exact h
    | false=>
     refine rM he f _ _ (fun x hx=> ?_)
     rcases List.mem_append.1 hx with h1 | h1
     . exact h x h1
     . rw[List.mem_singleton]at h1
       subst h1
       exact AG (by unfold sl;rw[List.length_take,List.length_drop,List.length_drop];omega)
theorem yx     (es:List SV):∀ (f a:Nat) (rs:List SV),(spF f es a rs).2.2.length<=rs.length+f
 | 0,_,_=>Nat.le_refl _
 | f+1,a,rs=>by
  unfold spF
  cases(hdP (es.drop a)).2 !=0 with
  | true=>exact Nat.le_add_right _ _
  | false=>
   cases(hdP (es.drop a)).1==0 with
   | true=>exact Nat.le_add_right _ _
   | false=>
    cases(rdP (dg (es.drop a) 18) (sl (es.drop a) 19 ((hdP (es.drop a)).1.toNat - 19))).2 !=0 with
    | true=>exact Nat.le_add_right _ _
    | false=>
     have:=yx es f (a+(hdP (es.drop a)).1.toNat) (rs++[mgV (rdP (dg (es.drop a) 18) (sl (es.drop a) 19 ((hdP (es.drop a)).1.toNat - 19))).1])
     rw[lA0,lS]at this
     show(spF f es _ _).2.2.length<=_
     omega
theorem Gj(es:List SV):(spL es 0 []).2.2.length<=es.length:=by
 have:=yx es (es.length - 0) 0 []
 rw[List.length_nil,Nat.zero_add,Nat.sub_zero]at this
 exact this
theorem Jx{es:List SV}(he:es.length<=9000):ki (spL es 0 []).2.2:=⟨by have:=Gj es;omega,rM (by omega) _ _ _ (by simp)⟩
theorem Jy{k:Nat}(h:k<=1000000):IW k=true:=by
 have h1:=of_decide_eq_true b52
 unfold IW
 have h2:k * Tryz.prog.types[52].bytes<=1000000 * 1000:=Nat.mul_le_mul h h1
 rw[dT0 (by omega),dT0 (by omega)];rfl
theorem yy(es:List SV)(K:List SV->CTree):elC 0 es.length es K=K es:=by
 unfold elC
 rw[dT0 rfl,dT0 rfl];rfl
theorem CoL.junk(P:Program):∀ (vs:List SV),CoL P vs (vs.map fun _=>.junk)
 | []=>.nil
 | _ :: vs=>.cons (fun _ _ _ _ _ _=>.junk) (CoL.junk P vs)
theorem zG{rs:List SV}:ChainL Tryz.prog [(0,.seq 126 rs)] (.tup [.int .i64 2,.junk,.junk,.qs 0 2 0 rs.length]) [] (.tup [.int .i64 2,.junk,.junk,.qs 1 2 0 rs.length]) [(0,none),(1,some (.seq 126 rs))]:=by
 refine .ren ⟨0,1,by simp,by simp[aj,az],fun x c hx=> ?_,rfl,fun x=> ?_⟩
 . simp only[ad]at hx
   have:=aQ _ _ _ hx
   simp only[List.mem_cons,pJ,List.not_mem_nil,or_false]at this
   obtain⟨_,rfl⟩:=this
   simp[aJ]
 . match x with
   | 0=>rfl | 1=>rfl
   | x+2=>simp only[ad,HpL.get,show ¬ (x+2=1)by omega,show ¬ (x+2=0)by omega,if_false,show Nat.beq 0 (x+2)=false from bK (by omega),cF,Option.map_none]
theorem oJ{rs:List SV}{x:SV}:ChainL Tryz.prog [(0,.seq 126 rs)] (.tup [.int .i64 1,.nils,.bool false,x]) [] (.tup [.int .i64 1,.nils,.bool false,.junk]) [(0,none)]:=by
 refine .told ⟨1,[.nils,.bool false,x],[.nils,.bool false,.junk],rfl,rfl,.cons .rfl' (.cons .rfl' (CoL.junk Tryz.prog [x])),fun y c' hy=> ?_⟩
 match y with
 | 0=>cases hy
 | y+1=>
  simp only[ad,HpL.get,show ¬ (y+1=0)by omega,if_false,show Nat.beq 0 (y+1)=false from bK (by omega),cF]at hy
  cases hy
theorem O2:decide (Tryz.prog.types[126].bytes<=1000)=true:=by kernel_rfl
theorem EK{k:Nat}(h:k<=100000000000):Fu k=true:=by
 have h1:=of_decide_eq_true O2
 unfold Fu
 have h2:k * Tryz.prog.types[126].bytes<=100000000000 * 1000:=Nat.mul_le_mul h h1
 rw[dT0 (by omega),dT0 (by omega)];rfl
theorem tR{p:List SV}{a:Nat}{rs:List SV}(h:p.length<=a):∀ f,itF f p a rs=some rs
 | 0=>rfl
 | f+1=>by unfold itF;rw[dF (by omega),cF]
theorem zH(p:List SV):∀ (f g a:Nat) (rs:List SV),p.length - a<=f->p.length - a<=g->itF f p a rs=itF g p a rs
 | 0,g,a,rs,h,_=>by rw[tR (by omega),tR (by omega)]
 | f+1,0,a,rs,_,h=>by rw[tR (by omega),tR (by omega)]
 | f+1,g+1,a,rs,h1,h2=>by
  unfold itF
  by_cases ha:a < p.length
  . rw[dT0 ha,cT,cT,zH p f g _ _ (by omega) (by omega)]
  . rw[dF ha,cF,cF]
theorem EL      :aO     Tryz.prog B5  :=fk          (T:=aF   []) (sp:=true) (fuel:=300) (c:=B4  ) (μ:=itM) aq     aE       (show aN    (aF   []) B4  =B4   by kernel_rfl) (by
 intro N args H v' ups' hbt hr
 unfold B5 Ft at hr
 simp only[]at hr
 split at hr
 . rename_i p m a rs
   rw[aa]at hr
   cases hc:dec (Fs p rs m a)with
   | false=>rw[hc]at hr;cases hr
   | true=>
    rw[hc,cT,aa]at hr
    obtain⟨hb,hl,rfl,a0,a1,hr1⟩:=dec_iff.1 hc
    have hN:Nat.blt (p.length - a.toNat) (N+1)=true:=hbt
    rw[bL]at hN
    refine⟨bn Tryz.prog (tbl []) 300 5,fun _=>false,aL ak aq ok0 300 5,?_⟩
    have ht:=NU N p rs rs.length a
    by_cases ha:a < p.length
    . obtain⟨f,hf⟩:∃ f,p.length - a.toNat=f+1:=⟨p.length - a.toNat - 1,by omega⟩
      rw[hf]at hr
      unfold itF at hr
      obtain⟨b,rfl⟩:=Int.eq_ofNat_of_zero_le a0
      have hbn:((b:Nat):Int).toNat=b:=rfl
      rw[hbn]at hr hN hf
      obtain⟨d0,d1⟩:=hb.ok (b+1)
      have w2:w64 ((b:Int)+2)=(b:Int)+2:=ai (by omega) (by omega)
      have w1:w64 ((b:Int)+1)=(b:Int)+1:=ai (by omega) (by omega)
      have t1:((b:Int)+1).toNat=b+1:=by omega
      rw[dT0 ha,cT,w2,w1,t1,show w64 (dg p (b+1))=dg p (b+1)from ai (by omega) (by omega),show w64 ((b:Int)+2+dg p (b+1))=(b:Int)+2+dg p (b+1)from ai (by omega) (by omega)]at ht
      rw[dT0 (show b < p.length by omega),cT]at hr
      by_cases h2:(b:Int)+2 > p.length
      . rw[dT0 h2,cT]at ht hr
        rw[cT]at hr
        cases hr
        exact⟨_,_,congrArg ac ht,oJ⟩
      . rw[dF h2,cF]at ht hr
        rw[bJ (by omega) (by omega),cT,cT,bJ a0 ha,cT]at ht
        by_cases h3:(b:Int)+2+dg p (b+1) > p.length
        . rw[dT0 h3,cT]at ht hr
          cases hr
          exact⟨_,_,congrArg ac ht,oJ⟩
        . rw[dF h3,cF]at ht hr
          have t2:((b:Int)+2+dg p (b+1)).toNat=b+2+(dg p (b+1)).toNat:=by omega
          rw[eK (i:=b+2) (j:=b+2+(dg p (b+1)).toNat) (by omega) (by omega) (by omega) (by omega),dT0 rfl,cT,EK (by omega),cT,Nat.add_sub_cancel_left,hbn]at ht
          unfold itN at ht
          rw[t2,show Nat.blt (p.length - (b+2+(dg p (b+1)).toNat)) N=true by rw[bL];omega,cT,dec_iff.2 ⟨hb,hl,by rw[lA0];rfl,by omega,by omega,by rw[lA0,lS];omega⟩,cT]at ht
          rw[zH p _ f _ _ (Nat.le_refl _) (by omega)]at ht
          refine⟨v',ups',(congrArg ac ht).trans ?_,.same fun _=>rfl⟩
          rw[bt]
          exact hr
    . rw[dF ha,cF]at ht
      rw[show p.length - a.toNat=0 by omega]at hr
      cases hr
      exact⟨_,_,congrArg ac ht,zG⟩
 . cases hr)
abbrev FJ:List (Option (Nat × Nat)):=[none,some (126,2),none]
noncomputable def LR:LEnt:={B5 with s:=inS FJ Ft}
theorem LT:aO Tryz.prog LR:=oA EL (fs:=FJ) ⟨fun h=>absurd h (by decide),trivial⟩
noncomputable abbrev LU:cu:=aF [("i",LR)]
noncomputable abbrev LV:Code:=bx [(3, "i")] xQ
noncomputable def yb:ag:=bE Tryz.prog (bn Tryz.prog (tbl []) 300 5) (fun _=>false) LU true 300 Tryz.f77 LV
theorem Cn:Known Tryz.prog 77 yb:=⟨⟨Tryz.f77,Tryz.func77,bf ak Tryz.func77,rfl⟩,aS (aL ak aq ok0 300 5) aq (ba LT aE) Tryz.func77 (show Tryz.f77.body=some (aN LU LV)by kernel_rfl)⟩
def itL(p:List SV):Option (List SV):=itF (p.length - (0:Int).toNat) p (0:Int).toNat []
theorem FK(p:List SV):yb [.psl 5 p] []=bif dec (Fs p [] 0 0)then bif(itL p).isSome then .ret (.tup [.qs 0 2 0 ((itL p).getD []).length,.bool true]) [(0,some (.seq 126 ((itL p).getD [])))]else .ret (.tup [.nils,.bool false]) []else .fail:=by kernel_rfl
noncomputable def oc:ag:=fun args H=>match args,H with
 | [.psl 5 p],[]=>.ite (dec (byl p/\p.length<=100000)) (.ret (.tup [.psl 126 ((itL p).getD []),.bool (itL p).isSome]) []) .fail
 | _,_=>.fail
theorem FL     :Known Tryz.prog 77 oc     :=bd         Cn       (by
 intro args H v' ups' h
 unfold oc at h
 split at h
 . rename_i p
   rw[aa]at h
   cases hc:dec (byl p/\p.length<=100000)with
   | false=>rw[hc]at h;cases h
   | true=>
    rw[hc,cT]at h
    obtain⟨hb,hl⟩:=dec_iff.1 hc
    have ht:=FK p
    rw[dec_iff.2 ⟨hb,hl,rfl,Int.le_refl _,by omega,by simp⟩,cT]at ht
    cases hi:itL p with
    | none=>
     rw[hi]at ht h
     cases h
     exact⟨_,_,congrArg ac ht,.inr ⟨.tup (.cons .nils .rfl'),fun x c' hx=>⟨c',hx,.rfl'⟩⟩⟩
    | some rs=>
     rw[hi]at ht h
     cases h
     refine⟨_,_,congrArg ac ht,.inl ⟨0,126,rs,rfl,.tup (.cons (.qs rfl) .rfl'),fun x c' hx=> ?_⟩⟩
     simp[ad,HpL.get]at hx
 . cases h)
/- What they are. -/
structure ItOk (n:Nat) (x:SV):Prop where
 v:∃ c v,x=itV c v/\byl v/\v.length<=n/\0<=c/\c<=255
theorem Co    {p:List SV}(hb:byl p):∀ (f a:Nat) (rs xs:List SV),itF f p a rs=some xs->(∀ x ∈ rs,ItOk p.length x)->(∀ x ∈ xs,ItOk p.length x)/\xs.length<=rs.length+f
 | 0,a,rs,xs,h,hr=>by cases h;exact⟨hr,Nat.le_refl _⟩
 | f+1,a,rs,xs,h,hr=>by
  unfold itF at h
  by_cases ha:a < p.length
  . rw[dT0            ha,cT       ]at h
    cases h2:(bif decide ((a:Int)+2 > p.length)then true else decide ((a:Int)+2+dg p (a+1) > p.length))with
    | true=>rw[h2]at h;cases h
    | false=>
     rw[h2,cF]at h
     obtain⟨c0,c1⟩:=hb.ok a
     obtain⟨g1,g2⟩:=Co hb f _ _ _ h (fun x hx=>by
      rcases List.mem_append.1 hx with hx | hx
      . exact hr x hx
      . rw[List.mem_singleton]at hx
        subst hx
        exact⟨_,_,rfl,hb.sl _ _,by unfold sl;rw[List.length_take,List.length_drop];omega,c0,c1⟩)
     rw[lA0,lS]at g2
     exact⟨g1,by omega⟩
  . rw[dF ha,cF]at h
    cases h
    exact⟨hr,Nat.le_add_right _ _⟩
theorem pf{p xs:List SV}(hb:byl p)(h:itL p=some xs):(∀ x ∈ xs,ItOk p.length x)/\xs.length<=p.length:=by
 have:=Co hb _ _ _ _ h (fun x hx=>by cases hx)
 simpa using this
end Go.Proofs.YtnlmhpancboddaaGreat
