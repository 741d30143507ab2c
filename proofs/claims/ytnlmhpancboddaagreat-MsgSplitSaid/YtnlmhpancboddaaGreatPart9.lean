/- Routes are read: the loop over the pieces, valid. -/
import Derived.Test.YtnlmhpancboddaaGreatPart8
import Derived.Test.YtnlmhpancboddaaGreatMachine6
set_option linter.unusedVariables false
set_option linter.unusedSimpArgs false
namespace Go.Proofs.YtnlmhpancboddaaGreat
open Go.Am
set_option maxRecDepth 100000
theorem xS{l n m:Nat}{es rs:List SV}{c3 c2 c0:Chunk}(h3:br (sw 5 9) c3=c3)(h2:br (sw 5 9) c2=c2)(h0:br (sw 5 9) c0=c0):∀ x,ad [(3,some c3),(2,some c2),(4,some (.cells 50 [.qs 9 21 0 m])),(5,none),(0,some c0),(9,some (.seq 88 rs))] (HR1 l n es m rs).get x=
  if x=9 then(ad [(3,some c3),(2,some c2),(0,some c0)] (HR1 l n es m rs).get 5).map (br (sw 5 9))else if x=5 then none else(ad [(3,some c3),(2,some c2),(0,some c0)] (HR1 l n es m rs).get x).map (br (sw 5 9))
 | 0=>by show some c0=some (br (sw 5 9) c0);rw[h0]
 | 1=>rfl
 | 2=>by show some c2=some (br (sw 5 9) c2);rw[h2]
 | 3=>by show some c3=some (br (sw 5 9) c3);rw[h3]
 | 4=>rfl | 5=>rfl | 6=>rfl | 7=>rfl | 8=>rfl | 9=>rfl
 | x+10=>by
  have h1:∀ k,k < 10->¬ (x+10=k):=fun k hk=>by omega
  have h2:∀ k,k < 10->Nat.beq k (x+10)=false:=fun k hk=>bK (by omega)
  simp only[ad,HR1,HpL.get,h1 9 (by omega),h1 5 (by omega),h1 4 (by omega),h1 3 (by omega),h1 2 (by omega),h1 0 (by omega),if_false,h2 0 (by omega),h2 1 (by omega),h2 2 (by omega),h2 3 (by omega),h2 4 (by omega),h2 5 (by omega),h2 6 (by omega),h2 7 (by omega),h2 8 (by omega),cF,Option.map_none]
theorem uA{l n:Nat}{st:LS}:br (sw 5 9) (gM 1 st l n)=gM 1 st l n:=rfl
theorem xT{l n:Nat}{st:LS}:9 ∉ aJ (gM 1 st l n):=by
 have:aJ (gM 1 st l n)=[1,2,3,4,6,7,1,8]:=rfl
 rw[this];decide
theorem B6{l n m:Nat}{es rs:List SV}:∀ x c,(HR1 l n es m rs).get x=some c->9 ∉ aJ c:=by
 intro x c hx
 have:=aQ _ _ _ hx
 simp only[HR1,List.mem_cons,pJ,List.not_mem_nil,or_false]at this
 rcases this with ⟨_,rfl⟩ | ⟨_,rfl⟩ | ⟨_,rfl⟩ | ⟨_,rfl⟩ | ⟨_,rfl⟩ | ⟨_,rfl⟩ | ⟨_,rfl⟩ | ⟨_,rfl⟩ | ⟨_,rfl⟩
 . exact xT
 all_goals simp[aJ,az,aj,cM]
theorem uB{l n m:Nat}{es rs:List SV}{e a:Int}:bN (HR1 l n es m rs) (.tup [.int .i64 1]) (wG e a++[(0,some (gM 1 (.done .ret) l n))]) (.tup [.int .i64 1])
  (wG e a++[(4,some (.cells 50 [.qs 9 21 0 m])),(5,none),(0,some (gM 1 (.done .ret) l n)),(9,some (.seq 88 rs))]):=by
 refine⟨5,9,by simp[HR1],by simp[aj,az],?_,rfl,xS rfl rfl uA⟩
 intro x c hx
 simp only[wG,List.cons_append,nA,ad]at hx
 by_cases h3:x=3
 . simp only[h3,if_true]at hx;simp only[show ¬ ((3:Nat)=0)by omega,show ¬ ((3:Nat)=2)by omega,if_false]at hx;cases hx;simp[aJ,az,aj]
 by_cases h2:x=2
 . simp only[h2,if_true]at hx;simp only[show ¬ ((2:Nat)=0)by omega,if_false]at hx;cases hx;simp[aJ,az,aj]
 by_cases h0:x=0
 . simp only[h0,if_true]at hx;cases hx;exact xT
 . simp only[h0,h2,h3,if_false]at hx;exact B6 x c hx
theorem B7{l n m:Nat}{es rs:List SV}:bN (HR1 l n es m rs) (.tup [.int .i64 2]) [] (.tup [.int .i64 2]) [(4,some (.cells 50 [.qs 9 21 0 m])),(5,none),(9,some (.seq 88 rs))]:=by
 refine⟨5,9,by simp[HR1],by simp[aj,az],fun x c hx=>B6 x c hx,rfl,fun x=> ?_⟩
 have:=xS (l:=l) (n:=n) (m:=m) (es:=es) (rs:=rs) (c3:=.cells 28 [.int .i64 0,.int .i64 0]) (c2:=.cells 50 [.nils]) (c0:=gM 1 .ready l n) rfl rfl uA x
 have e:∀ x,ad [(3,some (.cells 28 [.int .i64 0,.int .i64 0])),(2,some (.cells 50 [.nils])),(0,some (gM 1 .ready l n))] (HR1 l n es m rs).get x=(HR1 l n es m rs).get x:=by
  intro x
  match x with
  | 0=>rfl | 1=>rfl | 2=>rfl | 3=>rfl
  | x+4=>simp only[ad,show ¬ (x+4=0)by omega,show ¬ (x+4=2)by omega,show ¬ (x+4=3)by omega,if_false]
 rw[e,e]at this
 show ad [(4,some (.cells 50 [.qs 9 21 0 m])),(5,none),(9,some (.seq 88 rs))] (HR1 l n es m rs).get x=if x=9 then((HR1 l n es m rs).get 5).map (br (sw 5 9))else if x=5 then none else((HR1 l n es m rs).get x).map (br (sw 5 9))
 rw[<- this]
 match x with
 | 0=>rfl | 1=>rfl | 2=>rfl | 3=>rfl
 | x+4=>simp only[ad,show ¬ (x+4=0)by omega,show ¬ (x+4=2)by omega,show ¬ (x+4=3)by omega,if_false]
theorem B8(c2 c3:Option Chunk)(l:List (Nat × Option Chunk))(h:HpF):∀ x,ad ((3,c3) :: (2,c2) :: l) h x=ad ((2,c2) :: (3,c3) :: l) h x:=by
 have e:ad [(3,c3),(2,c2)] h=ad [(2,c2),(3,c3)] h:=by
  funext x
  by_cases h3:x=3
  . subst h3;rfl
  . by_cases h2:x=2
    . subst h2;rfl
    . simp only[ad,h3,h2,if_false]
 intro x
 show ad l (ad [(3,c3),(2,c2)] h) x=ad l (ad [(2,c2),(3,c3)] h) x
 rw[e]
theorem Fy{l n:Nat}{es:List SV}{c:Chunk}{d:Chunk}:∀ x,ad [(4,some c),(8,some d)] (HR0 l n es).get x=ad [(4,some c),(0,some (gM 0 .ready l n)),(8,some d)] (HR0 l n es).get x:=by
 intro x
 by_cases h0:x=0
 . subst h0;rfl
 . simp only[ad,h0,if_false]
theorem Fz{l n m:Nat}{es rs:List SV}{c:Chunk}{d:Chunk}:∀ x,ad [(4,some c),(5,none),(9,some d)] (HR1 l n es m rs).get x=ad [(4,some c),(5,none),(0,some (gM 1 .ready l n)),(9,some d)] (HR1 l n es m rs).get x:=by
 intro x
 by_cases h0:x=0
 . subst h0;rfl
 . simp only[ad,h0,if_false]
theorem LF   {args:List SV}{H:HpL}{r:SV × List (Nat × Option Chunk)}(h:ac   (uw    args H)=some r):
  (∃ l n es a,args=[.yl 0,.ptr 7 0,.int .i64 a]/\H=HR0 l n es/\okA es l n a/\ac (Fw es l n (qT es l n a []))=some r)\/
  ∃ l n es a rs,args=[.yl 0,.ptr 8 0,.int .i64 a]/\H=HR1 l n es rs.length rs/\okA es l n a/\rs.length<=4096/\ac (Fx es l n (qT es l n a rs))=some r:=by
 unfold uw at h
 split at h
 . rename_i q a
   split at h
   . rename_i l n es hp
     rw[aa]at h
     cases hc:dec (q=7/\H=HR0 l n es/\okA es l n a)with
     | false=>rw[hc]at h;cases h
     | true=>
      rw[hc]at h
      obtain⟨rfl,rfl,h3⟩:=dec_iff.1 hc
      exact .inl ⟨l,n,es,a,rfl,rfl,h3,h⟩
   . rename_i l n es m rs hp
     rw[aa]at h
     cases hc:dec (q=8/\H=HR1 l n es m rs/\m=rs.length/\rs.length<=4096/\okA es l n a)with
     | false=>rw[hc]at h;cases h
     | true=>
      rw[hc]at h
      obtain⟨rfl,rfl,rfl,h2,h3⟩:=dec_iff.1 hc
      exact .inr ⟨l,n,es,a,rs,rfl,rfl,h3,h2,h⟩
   . cases h
 . cases h
theorem Ae       :aO     Tryz.prog Ad  :=bG          (κ:=κp) (ι:=ιp) (T:=aF   []) (sp:=true) (fuel:=300) (c:=Ac  ) (μ:=I1  ) (aL       ak       aq     rOk 300 5) aq     aE       (show aN    (aF   []) Ac  =Ac   by kernel_rfl) (by
 intro N args H v' ups' hb hr
 rcases LF hr with ⟨l,n,es,a,rfl,rfl,ho,hr⟩ | ⟨l,n,es,a,rs,rfl,rfl,ho,hq,hr⟩
 . have hN:Nat.blt (n - a.toNat) (N+1)=true:=hb
   have hbp:=okA.p ho
   rw[oa ho]at hr
   have hrd:=Ic l n N a es
   by_cases hlt:a < n
   . rw[uq ho hlt,BP ho hlt,xO ho hlt hN (m:=1) (rs:=[(gB ((sl es (l+a.toNat) (n - a.toNat)).take (szP (sl es (l+a.toNat) (n - a.toNat))))).v]) rfl (by simp)]at hrd
     have hpn:(sl es (l+a.toNat) (n - a.toNat)).length≠0:=by rw[hbp.1];obtain⟨h1,h2,h3,h4,h5⟩:=ho;omega
     rw[mw hbp.2 hpn,if_neg (by simp)]at hr
     have hlen:1<=(cW ((sl es (l+a.toNat) (n - a.toNat)).drop (szP (sl es (l+a.toNat) (n - a.toNat)))) (a+szP (sl es (l+a.toNat) (n - a.toNat))) [(gB ((sl es (l+a.toNat) (n - a.toNat)).take (szP (sl es (l+a.toNat) (n - a.toNat))))).v]).2.2.length:=xN _ _ _ [(gB ((sl es (l+a.toNat) (n - a.toNat)).take (szP (sl es (l+a.toNat) (n - a.toNat))))).v]
     generalize szP (sl es (l+a.toNat) (n - a.toNat))=k at *
     cases hd:(eb ((sl es (l+a.toNat) (n - a.toNat)).take k)!=0)with
     | true=>
      rw[hd]at hrd
      rw[if_pos (by simpa using hd)]at hr
      unfold Fw at hr
      rw[aa,dT0 (show(([]:List SV).length=0)from rfl),cT,aa]at hr
      have:(eb ((sl es (l+a.toNat) (n - a.toNat)).take k)==0)=false:=by simpa using hd
      rw[this]at hr
      cases hr
      exact .inl ⟨_,congrArg ac hrd,fun x=>rfl⟩
     | false=>
      rw[hd]at hrd
      rw[if_neg (by simpa using hd)]at hr
      rw[show([]:List SV)++[(gB ((sl es (l+a.toNat) (n - a.toNat)).take k)).v]=[(gB ((sl es (l+a.toNat) (n - a.toNat)).take k)).v]from rfl]at hr
      generalize cW ((sl es (l+a.toNat) (n - a.toNat)).drop k) (a+k) [(gB ((sl es (l+a.toNat) (n - a.toNat)).take k)).v]=r at *
      unfold Fw at hr
      rw[aa,dF (show ¬ r.2.2.length=0 by omega),cF,aa]at hr
      cases he:r.1==0 with
      | true=>
       rw[he]at hr hrd
       cases hr
       exact .inl ⟨_,congrArg ac hrd,Fy⟩
      | false=>
       rw[he]at hr hrd
       cases hr
       exact .inl ⟨_,congrArg ac hrd,B8 _ _ _ _⟩
   . rw[uj hlt]at hrd
     have hpn:(sl es (l+a.toNat) (n - a.toNat)).length=0:=by rw[hbp.1];obtain⟨h1,h2,h3,h4,h5⟩:=ho;omega
     rw[oX hpn]at hr
     cases hr
     exact .inl ⟨_,congrArg ac hrd,fun x=>rfl⟩
 . have hN:Nat.blt (n - a.toNat) (N+1)=true:=hb
   have hbp:=okA.p ho
   rw[oa ho]at hr
   have hrd:=Id l n N rs.length a es rs
   by_cases hlt:a < n
   . have hpn:(sl es (l+a.toNat) (n - a.toNat)).length≠0:=by rw[hbp.1];obtain⟨h1,h2,h3,h4,h5⟩:=ho;omega
     rw[mw hbp.2 hpn]at hr
     rw[uq ho hlt]at hrd
     by_cases h4:rs.length=4096
     . rw[if_pos h4]at hr
       rw[show((rs.length:Int)==4096)=true by simp;omega]at hrd
       cases hr
       exact .inr ⟨_,_,congrArg ac hrd,uB⟩
     . rw[if_neg h4]at hr
       rw[show((rs.length:Int)==4096)=false by simp;omega,cF,BP ho hlt]at hrd
       cases hd:(eb ((sl es (l+a.toNat) (n - a.toNat)).take (szP (sl es (l+a.toNat) (n - a.toNat))))!=0)with
       | true=>
        rw[hd]at hrd
        rw[if_pos (by simpa using hd)]at hr
        unfold Fx at hr
        rw[aa]at hr
        have:(eb ((sl es (l+a.toNat) (n - a.toNat)).take (szP (sl es (l+a.toNat) (n - a.toNat))))==0)=false:=by simpa using hd
        rw[this]at hr
        cases hr
        exact .inr ⟨_,_,congrArg ac hrd,uB⟩
       | false=>
        rw[hd,cF,dT0 rfl,cT,show grB rs.length=true by unfold grB;simp;omega,cT,xO ho hlt hN (m:=rs.length+1) (rs:=rs++[(gB ((sl es (l+a.toNat) (n - a.toNat)).take (szP (sl es (l+a.toNat) (n - a.toNat))))).v]) (by simp) (by simp;omega)]at hrd
        rw[if_neg (by simpa using hd)]at hr
        generalize szP (sl es (l+a.toNat) (n - a.toNat))=k at *
        generalize cW ((sl es (l+a.toNat) (n - a.toNat)).drop k) (a+k) (rs++[(gB ((sl es (l+a.toNat) (n - a.toNat)).take k)).v])=r at *
        unfold Fx at hr
        rw[aa]at hr
        cases he:r.1==0 with
        | true=>
         rw[he]at hr hrd
         cases hr
         exact .inl ⟨_,congrArg ac hrd,Fz⟩
        | false=>
         rw[he]at hr hrd
         cases hr
         exact .inl ⟨_,congrArg ac hrd,B8 _ _ _ _⟩
   . rw[uj hlt]at hrd
     have hpn:(sl es (l+a.toNat) (n - a.toNat)).length=0:=by rw[hbp.1];obtain⟨h1,h2,h3,h4,h5⟩:=ho;omega
     rw[oX hpn]at hr
     cases hr
     exact .inr ⟨_,_,congrArg ac hrd,B7⟩)
noncomputable abbrev Tp:cu:=aF [("p",Ad)]
noncomputable abbrev Mp:Nat->Option Code:=wi [(145,LE)]
noncomputable abbrev b92:Code:=Tryz.f136.body.getD .skip
noncomputable def Dd:ag:=oK Tryz.prog κp ιp Tp Mp true 300 Tryz.f136 b92
theorem Gi:Known Tryz.prog 136 Dd:=
 ⟨⟨Tryz.f136,Tryz.func136,bf ak Tryz.func136,rfl⟩,iN (aL ak aq rOk 300 5) aq (ba Ae aE) (mn Tryz.func145 (show Tryz.f145.body=some (aN Tp LE)by kernel_rfl) oL) Tryz.func136 (show Tryz.f136.body=some (aN Tp b92)by kernel_rfl)⟩
noncomputable def HQ(r:Int × Int × List SV):CTree:=bif decide (r.2.2.length=0)then bif r.1==0 then .ret (.tup [.nils,.agg [.int .i64 0,.int .i64 0]]) []else .ret (.tup [.nils,.agg [.int .i64 r.1,.int .i64 r.2.1]]) []
 else bif r.1==0 then .ret (.tup [.qs 1 21 0 r.2.2.length,.agg [.int .i64 0,.int .i64 0]]) [(1,some (.seq 88 r.2.2))]else .ret (.tup [.nils,.agg [.int .i64 r.1,.int .i64 r.2.1]]) []
theorem Jt(l n:Nat)(es:List SV):Dd [.qs 0 1 l n] [(0,.seq 5 es)]=
 bif dec (7=7/\HR0 l n es=HR0 l n es/\okA es l n 0)then HQ (qT es l n 0 [])else .fail:=by kernel_rfl
noncomputable def rdE(p:List SV):Int:=(cW p 0 []).1
noncomputable def rdA(p:List SV):Int:=if(cW p 0 []).1=0 then 0 else(cW p 0 []).2.1
noncomputable def rdL(p:List SV):List SV:=if(cW p 0 []).1=0 then(cW p 0 []).2.2 else []
noncomputable def xa:ag:=fun args H=>match args,H with
 | [.qs 0 1 l n],[(0,.seq 5 es)]=>.ite (dec (byl es/\l+n<=es.length/\es.length<=1000000)) (.ret (.tup [.psl 88 (rdL (sl es l n)),.agg [.int .i64 (rdE (sl es l n)),.int .i64 (rdA (sl es l n))]]) []) .fail
 | _,_=>.fail
theorem Ju    :Known Tryz.prog 136 xa    :=bd         Gi      (by
 intro args H v' ups' h
 unfold xa at h
 split at h
 . rename_i l n es
   rw[aa]at h
   cases hc:dec (byl es/\l+n<=es.length/\es.length<=1000000)with
   | false=>rw[hc]at h;cases h
   | true=>
    rw[hc]at h
    obtain⟨h1,h2,h3⟩:=dec_iff.1 hc
    have ho:okA es l n 0:=⟨h1,by omega,by omega,h2,h3⟩
    have ht:=Jt l n es
    rw[dec_iff.2 ⟨rfl,rfl,ho⟩,cT,oa ho,show l+(0:Int).toNat=l from rfl,show n - (0:Int).toNat=n from rfl]at ht
    have hg:∀ x c',HpL.get [(0,.seq 5 es)] x=some c'->x=0:=fun x c' hx=>by
     have:=aQ _ _ _ hx
     simp at this
     exact this.1
    have told:∀ (a b:SV),Am.Told Tryz.prog [(0,.seq 5 es)] (.tup [.nils,.agg [a,b]]) [] (.tup [.psl 88 [],.agg [a,b]]) []:=fun a b=>⟨.tup (.cons .nils .rfl'),fun x c' hx=>⟨c',hx,.rfl'⟩⟩
    unfold rdL rdE rdA at h
    cases h
    generalize cW (sl es l n) 0 []=r at ht ⊢
    unfold HQ at ht
    by_cases he:r.1=0
    . rw[show(r.1==0)=true by simpa using he]at ht
      rw[if_pos he,if_pos he,he]
      by_cases hl:r.2.2.length=0
      . rw[dT0 hl]at ht
        rw[List.eq_nil_of_length_eq_zero hl]
        exact⟨_,_,congrArg ac ht,.inr (told _ _)⟩
      . rw[dF hl]at ht
        refine⟨_,_,congrArg ac ht,.inl ⟨1,88,r.2.2,rfl,.tup (.cons (.qs rfl) .rfl'),fun x c' hx=> ?_⟩⟩
        have h0:=hg x c' hx
        subst h0
        exact⟨by decide,c',hx,.rfl'⟩
    . rw[show(r.1==0)=false by simpa using he]at ht
      rw[if_neg he,if_neg he]
      refine⟨_,[],?_,.inr (told _ _)⟩
      rw[congrArg ac ht]
      cases decide (r.2.2.length=0) <;> rfl
 . cases h)
noncomputable def xI:Code:=Tryz.f141.body.getD .skip
noncomputable def Bu:Code:=(bv 3 xI).getD .skip
def okT(p:List SV)(at_ k:Int):Prop:=mN p/\p.length<=1000000/\0<=at_/\at_<=1000000/\0<=k/\k<=8
noncomputable def Ie:ag:=fun args H=>match args,H with
 | [.psl 5 p,.int .i64 a,.int .i64 k,.int .u64 x,.int .i64 i],[]=>.ite (dec (okT p a k/\0<=i/\i<=k/\(a+k<=p.length->x=tkN p a.toNat i.toNat)))
   (.ret (.tup [.int .i64 2,.int .u64 (if a+k<=p.length then tkN p a.toNat k.toNat else x)]) []) .fail
 | _,_=>.fail
def tkM:List SV->HpL->Nat
 | [_,_,.int _ k,_,.int _ i],_=>(k - i).toNat
 | _,_=>0
noncomputable def Bv:LEnt:={ins:=[0,1,2,7,8],outs:=[7],keep:=[],size:=33,code:=Bu,s:=Ie}
noncomputable def Bw(N:Nat)(p:List SV)(a k x i:Int):CTree:=
 bif Nat.blt (k - i).toNat N then bif dec (okT p a k/\0<=i/\i<=k/\(a+k<=p.length->x=tkN p a.toNat i.toNat))then .ret (.tup [.int .i64 2,.int .u64 (if a+k<=p.length then tkN p a.toNat k.toNat else x)]) []else .fail else .fail
def Bx(x d:Int):Int:=IntKind.u64.wrap (IntKind.u64.wrap (x * 2 ^ min (8:Int).toNat IntKind.u64.bits)+IntKind.u64.wrap d)
theorem By(N:Nat)(p:List SV)(a k x i:Int):av Tryz.prog κ0 ι0 (aF []) true 300 Bv {Bv with s:=ay tkM Ie N} Bu [.psl 5 p,.int .i64 a,.int .i64 k,.int .u64 x,.int .i64 i] []=
 bif(bif decide (i < k)then decide (IntKind.i64.wrap (a+k)<=p.length)else false)then bif inB (IntKind.i64.wrap (a+i)) p.length then
  Bw N p a k (Bx x (dg p (IntKind.i64.wrap (a+i)).toNat)) (IntKind.i64.wrap (i+1))else .fail
 else .ret (.tup [.int .i64 2,.int .u64 x]) []:=by kernel_rfl
theorem xJ{x d:Int}(h0:0<=x)(h1:x < 72057594037927936)(h2:0<=d)(h3:d<=255):Bx x d=x * 256+d:=by
 unfold Bx
 rw[show(2:Int) ^ min (8:Int).toNat IntKind.u64.bits=256 by decide,mO (n:=d) (by omega) (by omega),mO (n:=x * 256) (by omega) (by omega),mO (by omega) (by omega)]
theorem Bz      :aO     Tryz.prog Bv  :=eq         (κ:=κ0) (ι:=ι0) (T:=aF   []) (sp:=true) (fuel:=300) (c:=Bu  ) (μ:=tkM) (aL       ak       aq     ok0 300 5) aq     aE       (show aN    (aF   []) Bu  =Bu   by kernel_rfl) (by
 intro N args H r hb h
 unfold Bv Ie at h
 simp only[]at h
 split at h
 . rename_i p a k x i
   rw[aa]at h
   cases hc:dec (okT p a k/\0<=i/\i<=k/\(a+k<=p.length->x=tkN p a.toNat i.toNat))with
   | false=>rw[hc]at h;cases h
   | true=>
    rw[hc,cT]at h
    obtain⟨⟨h1,h2,h3,h4,h5,h6⟩,h7,h8,h9⟩:=dec_iff.1 hc
    refine(congrArg ac (By N p a k x i)).trans ?_
    rw[ai (n:=a+k) (by omega) (by omega),ai (n:=a+i) (by omega) (by omega),ai (n:=i+1) (by omega) (by omega)]
    by_cases hi:i < k
    . by_cases hl:a+k<=p.length
      . rw[dT0 hi,cT,dT0 hl,cT,show inB (a+i) p.length=true by unfold inB;simp;omega,cT]
        have hx:=h9 hl
        obtain⟨q1,q2⟩:=aX h1 a.toNat i.toNat
        obtain⟨q3,q4⟩:=h1 (a+i).toNat
        have hp7:(256:Int) ^ i.toNat<=256 ^ 7:=by
         have:i.toNat<=7:=by omega
         exact Int.ofNat_le.2 (Nat.pow_le_pow_right (by decide) this)
        have hp:(256:Int) ^ 7=72057594037927936:=by decide
        have hacc:Bx x (dg p (a+i).toNat)=tkN p a.toNat (i+1).toNat:=by
         rw[xJ (by omega) (by omega) q3 q4,show(i+1).toNat=i.toNat+1 by omega,tkN,<- hx,show(a+i).toNat=a.toNat+i.toNat by omega]
        have hbt:Nat.blt (k - (i+1)).toNat N=true:=by
         have hb':Nat.blt (k - i).toNat (N+1)=true:=hb
         rw[bL]at hb' ⊢;omega
        unfold Bw
        rw[hbt,cT,dec_iff.2 ⟨⟨h1,h2,h3,h4,h5,h6⟩,by omega,by omega,fun _=>hacc⟩,cT,if_pos hl]
        rw[if_pos hl]at h
        exact h
      . rw[dT0 hi,cT,dF hl,cF]
        rw[if_neg hl]at h
        exact h
    . rw[dF hi,cF,cF]
      by_cases hl:a+k<=p.length
      . rw[if_pos hl,show k.toNat=i.toNat by omega,<- h9 hl]at h
        exact h
      . rw[if_neg hl]at h
        exact h
 . cases h)
def tkP(p:List SV)(a k:Nat):Int:=if a+k<=p.length then tkN p a k else 0
noncomputable abbrev If:cu:=aF [("t",Bv)]
noncomputable abbrev Ig:Code:=bx [(3, "t")] xI
theorem Ih(p:List SV)(a k:Int):bE Tryz.prog κ0 ι0 If true 300 Tryz.f141 Ig [.psl 5 p,.int .i64 a,.int .i64 k] []=
 bif dec (okT p a k/\(0:Int)<=0/\0<=k/\(a+k<=p.length->0=tkN p a.toNat (0:Int).toNat))then .ret (.int .u64 (if a+k<=p.length then tkN p a.toNat k.toNat else 0)) []else .fail:=by kernel_rfl
noncomputable def wt:ag:=fun args H=>match args,H with
 | [.psl 5 p,.int .i64 a,.int .i64 k],[]=>.ite (dec (okT p a k)) (.ret (.int .u64 (tkP p a.toNat k.toNat)) []) .fail
 | _,_=>.fail
theorem Ii:Known Tryz.prog 141 wt:=by
 have h0:Known Tryz.prog 141 (bE Tryz.prog κ0 ι0 If true 300 Tryz.f141 Ig):=⟨⟨Tryz.f141,Tryz.func141,bf ak Tryz.func141,rfl⟩,aS (aL ak aq ok0 300 5) aq (ba Bz aE) Tryz.func141 (show Tryz.f141.body=some (aN If Ig)by kernel_rfl)⟩
 refine h0.weak ?_
 intro args H v ups h
 unfold wt at h
 split at h
 . rename_i p a k
   rw[aa]at h
   cases hc:dec (okT p a k)with
   | false=>rw[hc]at h;cases h
   | true=>
    rw[hc]at h
    have ho:=dec_iff.1 hc
    rw[Ih,dec_iff.2 ⟨ho,by omega,ho.2.2.2.2.1,fun _=>rfl⟩]
    obtain⟨h1,h2,h3,h4,h5,h6⟩:=ho
    unfold tkP at h
    by_cases hl:a+k<=p.length
    . rw[if_pos (by omega)]at h;rw[if_pos hl];exact h
    . rw[if_neg (by omega)]at h;rw[if_neg hl];exact h
 . cases h
noncomputable abbrev κt:=tbl [(141,wt)]
theorem tOk:KOk Tryz.prog κt:=af Ii ok0
noncomputable def tkK(p:List SV)(a k:Int)(K:CTree):CTree:=bif dec (okT p a k)then K else .fail
noncomputable def idQ(p:List SV)(K:Nat->Nl->CTree)(n:Nl):CTree:=
 bif decide ((p.length:Int)>=18)then bif decide ((0:Int)<=8)&&decide ((8:Int)<=18)&&decide ((18:Int)<=p.length)then bif decide (((p.drop 8).take 10).length<=((10:Nat):Int).toNat - (0:Int).toNat)then K 18 (ids ((p.drop 8).take 10) n)else .fail else .fail
 else K 8 n
def rd1(p:List SV)(k:Int):Nl:={zK k with rd:=tkP p 0 8}
def V1(p:List SV)(a:Nat)(n:Nl):Nl:={n with tag:=w3 (tkP p a 4),lab:=w3 (tkP p (a+4) 3)}
def V2a(p:List SV)(a:Nat)(n:Nl):Nl:={n with tag:=w3 (tkP p a 4),mac:=tkP p (a+5) 6,hip:=tkP p (a+11) 1==32,ip:=w3 (tkP p (a+12) 4),lab:=w3 (tkP p (a+16) 3),lab2:=w3 (tkP p (a+19) 3)}
def V2b(p:List SV)(a:Nat)(n:Nl):Nl:={n with tag:=w3 (tkP p a 4),mac:=tkP p (a+5) 6,hip:=tkP p (a+11) 1==32,lab:=w3 (tkP p (a+12) 3),lab2:=w3 (tkP p (a+15) 3)}
def V3(p:List SV)(n:Nl):Nl:={n with tag:=w3 (tkP p 8 4),ip:=w3 (tkP p 13 4),hip:=true}
def V4(p:List SV)(a:Nat)(n:Nl):Nl:={n with ip:=w3 (tkP p (a+1) 4),hip:=true}
def V5(p:List SV)(a:Nat)(n:Nl):Nl:={n with tag:=w3 (tkP p a 4),plen:=IntKind.i64.wrap (tkP p (a+4) 1),pip:=w3 (tkP p (a+5) 4),gw:=w3 (tkP p (a+9) 4),lab:=w3 (tkP p (a+13) 3)}
theorem Jz(p:List SV):opn κt Tryz.f137 [.int .i64 1,.psl 5 p] []=
 tkK p 0 8 (idQ p (fun a n=>tkK p a 4 (tkK p (a+4:Nat) 3 (.ret (V1 p a n).v []))) (rd1 p 1)):=by kernel_rfl
theorem JA(p:List SV):opn κt Tryz.f137 [.int .i64 3,.psl 5 p] []=tkK p 0 8 (tkK p 8 4 (tkK p 13 4 (.ret (V3 p (rd1 p 3)).v []))):=by kernel_rfl
theorem JB(p:List SV):opn κt Tryz.f137 [.int .i64 4,.psl 5 p] []=
 tkK p 0 8 (idQ p (fun a n=>tkK p (a+1:Nat) 4 (.ret (V4 p a n).v [])) (rd1 p 4)):=by kernel_rfl
theorem JC(p:List SV):opn κt Tryz.f137 [.int .i64 5,.psl 5 p] []=
 tkK p 0 8 (idQ p (fun a n=>tkK p a 4 (tkK p (a+5:Nat) 4 (tkK p (a+4:Nat) 1 (tkK p (a+9:Nat) 4 (tkK p (a+13:Nat) 3 (.ret (V5 p a n).v [])))))) (rd1 p 5)):=by kernel_rfl
theorem JD(p:List SV):opn κt Tryz.f137 [.int .i64 2,.psl 5 p] []=
 tkK p 0 8 (idQ p (fun a n=>tkK p a 4 (tkK p (a+5:Nat) 6 (tkK p (a+11:Nat) 1 (bif tkP p (a+11) 1==32 then tkK p (a+12:Nat) 4 (tkK p (a+16:Nat) 3 (tkK p (a+19:Nat) 3 (.ret (V2a p a n).v [])))
  else tkK p (a+12:Nat) 3 (tkK p (a+15:Nat) 3 (.ret (V2b p a n).v [])))))) (rd1 p 2)):=by kernel_rfl
end Go.Proofs.YtnlmhpancboddaaGreat
