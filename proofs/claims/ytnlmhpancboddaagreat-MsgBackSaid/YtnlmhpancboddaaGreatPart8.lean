/- Routes are read: the loop over the pieces, valid. -/
import Derived.Test.YtnlmhpancboddaaGreatPart7
import Derived.Test.YtnlmhpancboddaaGreatMachine6
set_option linter.unusedVariables false
set_option linter.unusedSimpArgs false
namespace Go.Proofs.YtnlmhpancboddaaGreat
open Go.Am
set_option maxRecDepth 100000
theorem yk{l n m:Nat}{es rs:List SV}{c3 c2 c0:Chunk}(h3:br (sw 5 9) c3=c3)(h2:br (sw 5 9) c2=c2)(h0:br (sw 5 9) c0=c0):∀ x,ad [(3,some c3),(2,some c2),(4,some (.cells 50 [.qs 9 21 0 m])),(5,none),(0,some c0),(9,some (.seq 88 rs))] (HR1 l n es m rs).get x=
  if x=9 then(ad [(3,some c3),(2,some c2),(0,some c0)] (HR1 l n es m rs).get 5).map (br (sw 5 9))else if x=5 then none else(ad [(3,some c3),(2,some c2),(0,some c0)] (HR1 l n es m rs).get x).map (br (sw 5 9))
 | 0=>by show some c0=some (br (sw 5 9) c0);rw[h0]
 | 1=>rfl
 | 2=>by show some c2=some (br (sw 5 9) c2);rw[h2]
 | 3=>by show some c3=some (br (sw 5 9) c3);rw[h3]
 | 4=>rfl | 5=>rfl | 6=>rfl | 7=>rfl | 8=>rfl | 9=>rfl
 | x+10=>by
  have h1:∀ k,k < 10->¬ (x+10=k):=fun k hk=>by omega
  have h2:∀ k,k < 10->Nat.beq k (x+10)=false:=fun k hk=>b8 (by omega)
  simp only[ad,HR1,HpL.get,h1 9 (by omega),h1 5 (by omega),h1 4 (by omega),h1 3 (by omega),h1 2 (by omega),h1 0 (by omega),if_false,h2 0 (by omega),h2 1 (by omega),h2 2 (by omega),h2 3 (by omega),h2 4 (by omega),h2 5 (by omega),h2 6 (by omega),h2 7 (by omega),h2 8 (by omega),cF,Option.map_none]
theorem uD{l n:Nat}{st:LS}:br (sw 5 9) (gY 1 st l n)=gY 1 st l n:=rfl
theorem ym{l n:Nat}{st:LS}:9 ∉ aJ (gY 1 st l n):=by
 have:aJ (gY 1 st l n)=[1,2,3,4,6,7,1,8]:=rfl
 rw[this];decide
theorem BU{l n m:Nat}{es rs:List SV}:∀ x c,(HR1 l n es m rs).get x=some c->9 ∉ aJ c:=by
 intro x c hx
 have:=aU _ _ _ hx
 simp only[HR1,List.mem_cons,pJ,List.not_mem_nil,or_false]at this
 rcases this with ⟨_,rfl⟩ | ⟨_,rfl⟩ | ⟨_,rfl⟩ | ⟨_,rfl⟩ | ⟨_,rfl⟩ | ⟨_,rfl⟩ | ⟨_,rfl⟩ | ⟨_,rfl⟩ | ⟨_,rfl⟩
 . exact ym
 all_goals simp[aJ,aF,ak,cM]
theorem uE{l n m:Nat}{es rs:List SV}{e a:Int}:cg (HR1 l n es m rs) (.tup [.int .i64 1]) (wU e a++[(0,some (gY 1 (.done .ret) l n))]) (.tup [.int .i64 1])
  (wU e a++[(4,some (.cells 50 [.qs 9 21 0 m])),(5,none),(0,some (gY 1 (.done .ret) l n)),(9,some (.seq 88 rs))]):=by
 refine⟨5,9,by simp[HR1],by simp[ak,aF],?_,rfl,yk rfl rfl uD⟩
 intro x c hx
 simp only[wU,List.cons_append,nA,ad]at hx
 by_cases h3:x=3
 . simp only[h3,if_true]at hx;simp only[show ¬ ((3:Nat)=0)by omega,show ¬ ((3:Nat)=2)by omega,if_false]at hx;cases hx;simp[aJ,aF,ak]
 by_cases h2:x=2
 . simp only[h2,if_true]at hx;simp only[show ¬ ((2:Nat)=0)by omega,if_false]at hx;cases hx;simp[aJ,aF,ak]
 by_cases h0:x=0
 . simp only[h0,if_true]at hx;cases hx;exact ym
 . simp only[h0,h2,h3,if_false]at hx;exact BU x c hx
theorem BV{l n m:Nat}{es rs:List SV}:cg (HR1 l n es m rs) (.tup [.int .i64 2]) [] (.tup [.int .i64 2]) [(4,some (.cells 50 [.qs 9 21 0 m])),(5,none),(9,some (.seq 88 rs))]:=by
 refine⟨5,9,by simp[HR1],by simp[ak,aF],fun x c hx=>BU x c hx,rfl,fun x=> ?_⟩
 have:=yk (l:=l) (n:=n) (m:=m) (es:=es) (rs:=rs) (c3:=.cells 28 [.int .i64 0,.int .i64 0]) (c2:=.cells 50 [.nils]) (c0:=gY 1 .ready l n) rfl rfl uD x
 have e:∀ x,ad [(3,some (.cells 28 [.int .i64 0,.int .i64 0])),(2,some (.cells 50 [.nils])),(0,some (gY 1 .ready l n))] (HR1 l n es m rs).get x=(HR1 l n es m rs).get x:=by
  intro x
  match x with
  | 0=>rfl | 1=>rfl | 2=>rfl | 3=>rfl
  | x+4=>simp only[ad,show ¬ (x+4=0)by omega,show ¬ (x+4=2)by omega,show ¬ (x+4=3)by omega,if_false]
 rw[e,e]at this
 show ad [(4,some (.cells 50 [.qs 9 21 0 m])),(5,none),(9,some (.seq 88 rs))] (HR1 l n es m rs).get x=if x=9 then((HR1 l n es m rs).get 5).map (br (sw 5 9))else if x=5 then none else((HR1 l n es m rs).get x).map (br (sw 5 9))
 rw[<- this]
 match x with
 | 0=>rfl | 1=>rfl | 2=>rfl | 3=>rfl
 | x+4=>simp only[ad,show ¬ (x+4=0)by omega,show ¬ (x+4=2)by omega,show ¬ (x+4=3)by omega,if_false]
theorem BW(c2 c3:Option Chunk)(l:List (Nat × Option Chunk))(h:HpF):∀ x,ad ((3,c3) :: (2,c2) :: l) h x=ad ((2,c2) :: (3,c3) :: l) h x:=by
 have e:ad [(3,c3),(2,c2)] h=ad [(2,c2),(3,c3)] h:=by
  funext x
  by_cases h3:x=3
  . subst h3;rfl
  . by_cases h2:x=2
    . subst h2;rfl
    . simp only[ad,h3,h2,if_false]
 intro x
 show ad l (ad [(3,c3),(2,c2)] h) x=ad l (ad [(2,c2),(3,c3)] h) x
 rw[e]
theorem Fk{l n:Nat}{es:List SV}{c:Chunk}{d:Chunk}:∀ x,ad [(4,some c),(8,some d)] (HR0 l n es).get x=ad [(4,some c),(0,some (gY 0 .ready l n)),(8,some d)] (HR0 l n es).get x:=by
 intro x
 by_cases h0:x=0
 . subst h0;rfl
 . simp only[ad,h0,if_false]
theorem Fl{l n m:Nat}{es rs:List SV}{c:Chunk}{d:Chunk}:∀ x,ad [(4,some c),(5,none),(9,some d)] (HR1 l n es m rs).get x=ad [(4,some c),(5,none),(0,some (gY 1 .ready l n)),(9,some d)] (HR1 l n es m rs).get x:=by
 intro x
 by_cases h0:x=0
 . subst h0;rfl
 . simp only[ad,h0,if_false]
theorem L6   {args:List SV}{H:HpL}{r:SV × List (Nat × Option Chunk)}(h:ae   (uC    args H)=some r):
  (∃ l n es a,args=[.yl 0,.ptr 7 0,.int .i64 a]/\H=HR0 l n es/\okA es l n a/\ae (Fi es l n (rc es l n a []))=some r)\/
  ∃ l n es a rs,args=[.yl 0,.ptr 8 0,.int .i64 a]/\H=HR1 l n es rs.length rs/\okA es l n a/\rs.length<=4096/\ae (Fj es l n (rc es l n a rs))=some r:=by
 unfold uC at h
 split at h
 . rename_i q a
   split at h
   . rename_i l n es hp
     rw[aa]at h
     cases hc:dec (q=7/\H=HR0 l n es/\okA es l n a)with
     | false=>rw[hc]at h;cases h
     | true=>
      rw[hc]at h
      obtain⟨rfl,rfl,h3⟩:=dec_iff.1 hc
      exact .inl ⟨l,n,es,a,rfl,rfl,h3,h⟩
   . rename_i l n es m rs hp
     rw[aa]at h
     cases hc:dec (q=8/\H=HR1 l n es m rs/\m=rs.length/\rs.length<=4096/\okA es l n a)with
     | false=>rw[hc]at h;cases h
     | true=>
      rw[hc]at h
      obtain⟨rfl,rfl,rfl,h2,h3⟩:=dec_iff.1 hc
      exact .inr ⟨l,n,es,a,rs,rfl,rfl,h3,h2,h⟩
   . cases h
 . cases h
theorem Ab       :aR     Tryz.prog Aa  :=cH          (κ:=κp) (ι:=ιp) (T:=aL   []) (sp:=true) (fuel:=300) (c:=z9  ) (μ:=Ja  ) (aG       ap       ax     rOk 300 5) ax     aE       (show aM    (aL   []) z9  =z9   by kernel_rfl) (by
 intro N args H v' ups' hb hr
 rcases L6 hr with ⟨l,n,es,a,rfl,rfl,ho,hr⟩ | ⟨l,n,es,a,rs,rfl,rfl,ho,hq,hr⟩
 . have hN:Nat.blt (n - a.toNat) (N+1)=true:=hb
   have hbp:=okA.p ho
   rw[oF ho]at hr
   have hrd:=Ii l n N a es
   by_cases hlt:a < n
   . rw[uq ho hlt,BE ho hlt,yh ho hlt hN (m:=1) (rs:=[(gP ((sl es (l+a.toNat) (n - a.toNat)).take (szP (sl es (l+a.toNat) (n - a.toNat))))).v]) rfl (by simp)]at hrd
     have hpn:(sl es (l+a.toNat) (n - a.toNat)).length≠0:=by rw[hbp.1];obtain⟨h1,h2,h3,h4,h5⟩:=ho;omega
     rw[m5 hbp.2 hpn,if_neg (by simp)]at hr
     have hlen:1<=(gt ((sl es (l+a.toNat) (n - a.toNat)).drop (szP (sl es (l+a.toNat) (n - a.toNat)))) (a+szP (sl es (l+a.toNat) (n - a.toNat))) [(gP ((sl es (l+a.toNat) (n - a.toNat)).take (szP (sl es (l+a.toNat) (n - a.toNat))))).v]).2.2.length:=yg _ _ _ [(gP ((sl es (l+a.toNat) (n - a.toNat)).take (szP (sl es (l+a.toNat) (n - a.toNat))))).v]
     generalize szP (sl es (l+a.toNat) (n - a.toNat))=k at *
     cases hd:(fy ((sl es (l+a.toNat) (n - a.toNat)).take k)!=0)with
     | true=>
      rw[hd]at hrd
      rw[if_pos (by simpa using hd)]at hr
      unfold Fi at hr
      rw[aa,dT0 (show(([]:List SV).length=0)from rfl),cT,aa]at hr
      have:(fy ((sl es (l+a.toNat) (n - a.toNat)).take k)==0)=false:=by simpa using hd
      rw[this]at hr
      cases hr
      exact .inl ⟨_,congrArg ae hrd,fun x=>rfl⟩
     | false=>
      rw[hd]at hrd
      rw[if_neg (by simpa using hd)]at hr
      rw[show([]:List SV)++[(gP ((sl es (l+a.toNat) (n - a.toNat)).take k)).v]=[(gP ((sl es (l+a.toNat) (n - a.toNat)).take k)).v]from rfl]at hr
      generalize gt ((sl es (l+a.toNat) (n - a.toNat)).drop k) (a+k) [(gP ((sl es (l+a.toNat) (n - a.toNat)).take k)).v]=r at *
      unfold Fi at hr
      rw[aa,dF0 (show ¬ r.2.2.length=0 by omega),cF,aa]at hr
      cases he:r.1==0 with
      | true=>
       rw[he]at hr hrd
       cases hr
       exact .inl ⟨_,congrArg ae hrd,Fk⟩
      | false=>
       rw[he]at hr hrd
       cases hr
       exact .inl ⟨_,congrArg ae hrd,BW _ _ _ _⟩
   . rw[uj hlt]at hrd
     have hpn:(sl es (l+a.toNat) (n - a.toNat)).length=0:=by rw[hbp.1];obtain⟨h1,h2,h3,h4,h5⟩:=ho;omega
     rw[ph hpn]at hr
     cases hr
     exact .inl ⟨_,congrArg ae hrd,fun x=>rfl⟩
 . have hN:Nat.blt (n - a.toNat) (N+1)=true:=hb
   have hbp:=okA.p ho
   rw[oF ho]at hr
   have hrd:=Ij l n N rs.length a es rs
   by_cases hlt:a < n
   . have hpn:(sl es (l+a.toNat) (n - a.toNat)).length≠0:=by rw[hbp.1];obtain⟨h1,h2,h3,h4,h5⟩:=ho;omega
     rw[m5 hbp.2 hpn]at hr
     rw[uq ho hlt]at hrd
     by_cases h4:rs.length=4096
     . rw[if_pos h4]at hr
       rw[show((rs.length:Int)==4096)=true by simp;omega]at hrd
       cases hr
       exact .inr ⟨_,_,congrArg ae hrd,uE⟩
     . rw[if_neg h4]at hr
       rw[show((rs.length:Int)==4096)=false by simp;omega,cF,BE ho hlt]at hrd
       cases hd:(fy ((sl es (l+a.toNat) (n - a.toNat)).take (szP (sl es (l+a.toNat) (n - a.toNat))))!=0)with
       | true=>
        rw[hd]at hrd
        rw[if_pos (by simpa using hd)]at hr
        unfold Fj at hr
        rw[aa]at hr
        have:(fy ((sl es (l+a.toNat) (n - a.toNat)).take (szP (sl es (l+a.toNat) (n - a.toNat))))==0)=false:=by simpa using hd
        rw[this]at hr
        cases hr
        exact .inr ⟨_,_,congrArg ae hrd,uE⟩
       | false=>
        rw[hd,cF,dT0 rfl,cT,show grB rs.length=true by unfold grB;simp;omega,cT,yh ho hlt hN (m:=rs.length+1) (rs:=rs++[(gP ((sl es (l+a.toNat) (n - a.toNat)).take (szP (sl es (l+a.toNat) (n - a.toNat))))).v]) (by simp) (by simp;omega)]at hrd
        rw[if_neg (by simpa using hd)]at hr
        generalize szP (sl es (l+a.toNat) (n - a.toNat))=k at *
        generalize gt ((sl es (l+a.toNat) (n - a.toNat)).drop k) (a+k) (rs++[(gP ((sl es (l+a.toNat) (n - a.toNat)).take k)).v])=r at *
        unfold Fj at hr
        rw[aa]at hr
        cases he:r.1==0 with
        | true=>
         rw[he]at hr hrd
         cases hr
         exact .inl ⟨_,congrArg ae hrd,Fl⟩
        | false=>
         rw[he]at hr hrd
         cases hr
         exact .inl ⟨_,congrArg ae hrd,BW _ _ _ _⟩
   . rw[uj hlt]at hrd
     have hpn:(sl es (l+a.toNat) (n - a.toNat)).length=0:=by rw[hbp.1];obtain⟨h1,h2,h3,h4,h5⟩:=ho;omega
     rw[ph hpn]at hr
     cases hr
     exact .inr ⟨_,_,congrArg ae hrd,BV⟩)
noncomputable abbrev Tp:cQ:=aL [("p",Aa)]
noncomputable abbrev Mp:Nat->Option Code:=wC [(145,L5)]
noncomputable abbrev b92:Code:=Tryz.f136.body.getD .skip
noncomputable def Db:ag:=oZ Tryz.prog κp ιp Tp Mp true 300 Tryz.f136 b92
theorem Gg:Known Tryz.prog 136 Db:=
 ⟨⟨Tryz.f136,Tryz.func136,bc ap Tryz.func136,rfl⟩,i9 (aG ap ax rOk 300 5) ax (bf Ab aE) (mS Tryz.func145 (show Tryz.f145.body=some (aM Tp L5)by kernel_rfl) o4) Tryz.func136 (show Tryz.f136.body=some (aM Tp b92)by kernel_rfl)⟩
noncomputable def HO(r:Int × Int × List SV):CTree:=bif decide (r.2.2.length=0)then bif r.1==0 then .ret (.tup [.nils,.agg [.int .i64 0,.int .i64 0]]) []else .ret (.tup [.nils,.agg [.int .i64 r.1,.int .i64 r.2.1]]) []
 else bif r.1==0 then .ret (.tup [.qs 1 21 0 r.2.2.length,.agg [.int .i64 0,.int .i64 0]]) [(1,some (.seq 88 r.2.2))]else .ret (.tup [.nils,.agg [.int .i64 r.1,.int .i64 r.2.1]]) []
theorem Kd(l n:Nat)(es:List SV):Db [.qs 0 1 l n] [(0,.seq 5 es)]=
 bif dec (7=7/\HR0 l n es=HR0 l n es/\okA es l n 0)then HO (rc es l n 0 [])else .fail:=by kernel_rfl
noncomputable def rdE(p:List SV):Int:=(gt p 0 []).1
noncomputable def rdA(p:List SV):Int:=if(gt p 0 []).1=0 then 0 else(gt p 0 []).2.1
noncomputable def rdL(p:List SV):List SV:=if(gt p 0 []).1=0 then(gt p 0 []).2.2 else []
noncomputable def xq:ag:=fun args H=>match args,H with
 | [.qs 0 1 l n],[(0,.seq 5 es)]=>.ite (dec (byl es/\l+n<=es.length/\es.length<=1000000)) (.ret (.tup [.psl 88 (rdL (sl es l n)),.agg [.int .i64 (rdE (sl es l n)),.int .i64 (rdA (sl es l n))]]) []) .fail
 | _,_=>.fail
theorem Ke    :Known Tryz.prog 136 xq    :=bw         Gg      (by
 intro args H v' ups' h
 unfold xq at h
 split at h
 . rename_i l n es
   rw[aa]at h
   cases hc:dec (byl es/\l+n<=es.length/\es.length<=1000000)with
   | false=>rw[hc]at h;cases h
   | true=>
    rw[hc]at h
    obtain⟨h1,h2,h3⟩:=dec_iff.1 hc
    have ho:okA es l n 0:=⟨h1,by omega,by omega,h2,h3⟩
    have ht:=Kd l n es
    rw[dec_iff.2 ⟨rfl,rfl,ho⟩,cT,oF ho,show l+(0:Int).toNat=l from rfl,show n - (0:Int).toNat=n from rfl]at ht
    have hg:∀ x c',HpL.get [(0,.seq 5 es)] x=some c'->x=0:=fun x c' hx=>by
     have:=aU _ _ _ hx
     simp at this
     exact this.1
    have told:∀ (a b:SV),Am.Told Tryz.prog [(0,.seq 5 es)] (.tup [.nils,.agg [a,b]]) [] (.tup [.psl 88 [],.agg [a,b]]) []:=fun a b=>⟨.tup (.cons .nils .rfl'),fun x c' hx=>⟨c',hx,.rfl'⟩⟩
    unfold rdL rdE rdA at h
    cases h
    generalize gt (sl es l n) 0 []=r at ht ⊢
    unfold HO at ht
    by_cases he:r.1=0
    . rw[show(r.1==0)=true by simpa using he]at ht
      rw[if_pos he,if_pos he,he]
      by_cases hl:r.2.2.length=0
      . rw[dT0 hl]at ht
        rw[List.eq_nil_of_length_eq_zero hl]
        exact⟨_,_,congrArg ae ht,.inr (told _ _)⟩
      . rw[dF0 hl]at ht
        refine⟨_,_,congrArg ae ht,.inl ⟨1,88,r.2.2,rfl,.tup (.cons (.qs rfl) .rfl'),fun x c' hx=> ?_⟩⟩
        have h0:=hg x c' hx
        subst h0
        exact⟨by decide,c',hx,.rfl'⟩
    . rw[show(r.1==0)=false by simpa using he]at ht
      rw[if_neg he,if_neg he]
      refine⟨_,[],?_,.inr (told _ _)⟩
      rw[congrArg ae ht]
      cases decide (r.2.2.length=0) <;> rfl
 . cases h)
def tkP(p:List SV)(a k:Nat):Int:=if a+k<=p.length then tkN p a k else 0
def rd1(p:List SV)(k:Int):Nl:={zK k with rd:=tkP p 0 8}
end Go.Proofs.YtnlmhpancboddaaGreat
namespace Go.Proofs.YtnlmhpancboddaaGreat
open Go.Am
set_option maxRecDepth 100000
end Go.Proofs.YtnlmhpancboddaaGreat
namespace Go.Proofs.YtnlmhpancboddaaGreat
open Go.Am
set_option maxRecDepth 100000
theorem zc{x B:Int}(h:x=0)(hB:0 < B):0<=x/\x < B:=by rw[h];exact⟨Int.le_refl _,hB⟩
set_option maxHeartbeats 2000000 in
section
variable {p:List SV} (hb:byl p) (hl:p.length<=1000000)
include hb hl
end
end Go.Proofs.YtnlmhpancboddaaGreat
namespace Go.Proofs.YtnlmhpancboddaaGreat
open Go.Am
set_option maxRecDepth 100000
/- The reference's loop over routes. -/
abbrev w64(n:Int):Int:=IntKind.i64.wrap n
end Go.Proofs.YtnlmhpancboddaaGreat
namespace Go.Proofs.YtnlmhpancboddaaGreat
open Go.Am
set_option maxRecDepth 100000
section
variable {p:List SV} {a:Int} (hb:byl p) (hl:p.length<=1000000) (h0:0<=a) (h1:a < p.length)
include hb hl h0 h1
omit hl h0 h1 in
theorem Nq(hc:((p.drop a.toNat).length:Int) < 2+dg (p.drop a.toNat) 1\/(p.drop a.toNat).length < 2):fy ((p.drop a.toNat).take (szP (p.drop a.toNat)))=4:=by
 obtain⟨r1,r2⟩:=(hb.dropb a.toNat).ok 1
 have hs:szP (p.drop a.toNat)=(p.drop a.toNat).length:=by unfold szP;split <;> omega
 rw[hs,List.take_length]
 unfold fy
 by_cases h2:(p.drop a.toNat).length < 2
 . rw[if_pos h2]
 . rw[if_neg h2,if_pos (by omega)]
end
end Go.Proofs.YtnlmhpancboddaaGreat
namespace Go.Proofs.YtnlmhpancboddaaGreat
open Go.Am
set_option maxRecDepth 100000
end Go.Proofs.YtnlmhpancboddaaGreat
namespace Go.Proofs.YtnlmhpancboddaaGreat
open Go.Am
set_option maxRecDepth 100000
noncomputable abbrev κn:=tbl [(69,fN)]
theorem nOk:KOk Tryz.prog κn:=ac yJ ok0
def shC(a e f:Int):Chunk:=.cells 157 [.int .i64 a,.int .i64 a,.nils,.int .i64 e,.int .i64 f,.bool true]
def pP(r:Rd)(n:Nat)(k:Int)(K:Chunk->Rd->CTree):CTree:=
 bif r.err !=0 then K (shC r.at_ r.err r.fat) r else bif gf r k then(bif r.err==0 then K (shC r.at_ 4 r.at_) ⟨r.at_,r.end_,4,r.at_⟩else K (shC r.at_ r.err r.fat) r)else
 bif xl r k n then K (rC ⟨r.at_,wA r k,0,0⟩ n) ⟨wA r k,r.end_,r.err,r.fat⟩else .fail
def fw(k:IntKind)(a b:Int):Int:=k.wrap ((BitVec.ofInt k.bits a&&& BitVec.ofInt k.bits b).toNat:Int)
abbrev w8(n:Int):Int:=IntKind.u8.wrap n
def rR(r:Rd)(n:Nat)(es:List SV)(c:Chunk)(r':Rd):CTree:=
 .ret (.tup [.agg [.ptr 2 0,.int .i64 r.at_,.int .u8 (w8 (r.num es 1)),.int .u8 (w8 ((r.adv 1).num es 1))],.bool (r'.err==0)]) [(0,some (rC r' n)),(2,some c)]
theorem CR(r:Rd)(n:Nat)(es:List SV):opn κn Tryz.f98 [.ptr 0 0] (rH r n es)=
 rdC r n es 1 (rdC (r.adv 1) n es 1 (bif fw .u8 (w8 (r.num es 1)) 16 !=0 then rdC ((r.adv 1).adv 1) n es 2 (pP (((r.adv 1).adv 1).adv 2) n (IntKind.i64.wrap (((r.adv 1).adv 1).num es 2)) (rR r n es))
  else rdC ((r.adv 1).adv 1) n es 1 (pP (((r.adv 1).adv 1).adv 1) n (IntKind.i64.wrap (((r.adv 1).adv 1).num es 1)) (rR r n es)))):=by kernel_rfl
end Go.Proofs.YtnlmhpancboddaaGreat
namespace Go.Proofs.YtnlmhpancboddaaGreat
open Go.Am
set_option maxRecDepth 100000
def hdN(es:List SV)(a:Nat):Nat:=if fw .u8 (dg es a) 16≠0 then 4 else 3
def lnN(es:List SV)(a:Nat):Nat:=(tkN es (a+2) (hdN es a - 2)).toNat
def okN(es:List SV)(a n:Nat):Prop:=a+hdN es a<=n/\a+hdN es a+lnN es a<=n
def cdN(es:List SV)(a n:Nat):Prop:=a < n/\n=es.length/\n<=1000000/\rj es
theorem tk1(es:List SV)(s:Nat):tkN es s 1=dg es s:=by simp[tkN]
theorem yA{es:List SV}(h:rj es)(j:Nat):w8 (dg es j)=dg es j:=by
 obtain⟨h1,h2⟩:=h j
 show IntKind.u8.wrap _=_
 rw[tX];omega
theorem sY{r:Rd}(h:(r.err !=0)=true)(k:Nat):r.adv k=r:=by
 unfold Rd.adv;rw[h];rfl
theorem jZ{s L k:Nat}(h:¬ s+k<=L):(RD s L).adv k=⟨s,L,4,s⟩:=by
 have hf:(RD s L).few k=true:=by unfold Rd.few RD;exact dT0 (by simp only[];omega)
 unfold Rd.adv;rw[hf];rfl
theorem yB{r:Rd}(h:(r.err !=0)=true)(n:Nat)(k:Int)(K:Chunk->Rd->CTree):pP r n k K=K (shC r.at_ r.err r.fat) r:=by
 unfold pP;rw[h];rfl
theorem FL{s L n:Nat}{k:Int}(h:(k:Int) > L - s)(hs:s<=L)(hL:L<=1000000)(K:Chunk->Rd->CTree):pP (RD s L) n k K=K (shC s 4 s) ⟨s,L,4,s⟩:=by
 have hsb:gf (RD s L) k=true:=by
  unfold gf RD
  simp only[]
  by_cases h0:k < 0
  . rw[dT0 h0];rfl
  . rw[dF0 h0,cF,am (by omega) (by omega)];exact dT0 (by omega)
 unfold pP;rw[hsb];rfl
theorem Cx{s L n k:Nat}(h:s+k<=L)(hn:L<=n)(hL:n<=1000000)(K:Chunk->Rd->CTree):pP (RD s L) n (k:Int) K=K (rC (RD s (s+k)) n) (RD (s+k) L):=by
 have hw:wA (RD s L) k=((s+k:Nat):Int):=by
  unfold wA RD
  simp only[]
  rw[am (by omega) (by omega)];omega
 have hwb:wB (RD s L) k=(s:Int):=by
  unfold wB
  rw[hw,am (by omega) (by omega)];omega
 have hsb:gf (RD s L) k=false:=by
  unfold gf RD
  simp only[]
  rw[dF0 (show ¬ (k:Int) < 0 by omega),cF,am (by omega) (by omega)];exact dF0 (by omega)
 have ho:xl (RD s L) k n=true:=by
  unfold xl
  rw[hw,hwb,dT0 (by omega),dT0 (by omega),dT0 (by omega)];rfl
 unfold pP
 rw[hsb,ho,hw];rfl
section
variable {es:List SV} {a n:Nat} (hc:cdN es a n)
include hc
theorem vc{s:Nat}(h:s<=n):OkRd (RD s n) es:=by
 obtain⟨h1,h2,h3,h4⟩:=hc
 exact⟨by simp[RD],by simp[RD];omega,by simp[RD];omega,by omega,h4⟩
theorem pF{r:Rd}(h:OkRd r es){k:Int}(hk:0<=k/\k<=8)(K:CTree):rdC r n es k K=K:=by
 unfold rdC
 rw[dec_iff.2 ⟨h,hc.2.1,hk.1,hk.2⟩];rfl
theorem ve      (ho:okN es a n):opn κn Tryz.f98 [.ptr 0 0] (rH (RD a n) n es)=
  .ret (.tup [.agg [.ptr 2 0,.int .i64 a,.int .u8 (dg es a),.int .u8 (dg es (a+1))],.bool true]) [(0,some (rC (RD (a+hdN es a+lnN es a) n) n)),(2,some (rC (RD (a+hdN es a) (a+hdN es a+lnN es a)) n))]:=by
 have h4:=hc.2.2.2
 have h3:=hc.2.2.1
 have hN:(a:Int) < 1000000:=by have:=hc.1;omega
 obtain⟨o1,o2⟩:=ho
 have hh:3<=hdN es a/\hdN es a<=4:=by unfold hdN;split <;> omega
 have e1:(RD a n).adv 1=RD (a+1) n:=aO (by omega)
 have e2:(RD (a+1) n).adv 1=RD (a+2) n:=aO (by omega)
 have n1:(RD a n).num es 1=dg es a:=by rw[aY (by omega),tk1]
 have n2:(RD (a+1) n).num es 1=dg es (a+1):=by rw[aY (by omega),tk1]
 have key:∀ K:Chunk->Rd->CTree,(bif fw .u8 (w8 (dg es a)) 16 !=0 then rdC (RD (a+2) n) n es 2 (pP ((RD (a+2) n).adv 2) n (IntKind.i64.wrap ((RD (a+2) n).num es 2)) K)else rdC (RD (a+2) n) n es 1 (pP ((RD (a+2) n).adv 1) n (IntKind.i64.wrap ((RD (a+2) n).num es 1)) K))=
   K (rC (RD (a+hdN es a) (a+hdN es a+lnN es a)) n) (RD (a+hdN es a+lnN es a) n):=by
  intro K
  rw[yA h4]
  by_cases hf:fw .u8 (dg es a) 16≠0
  . have hd:hdN es a=4:=if_pos hf
    obtain⟨t1,t2⟩:=bT h4 (a+2) 2
    have t3:(256:Int) ^ 2=65536:=by decide
    have hl:lnN es a=(tkN es (a+2) 2).toNat:=by unfold lnN;rw[hd]
    rw[show(fw .u8 (dg es a) 16 !=0)=true by simpa using hf,cT,pF hc (vc hc (by omega)) (by decide),aO (by omega),aY (by omega),am (by omega) (by omega),
     show tkN es (a+2) 2=((tkN es (a+2) 2).toNat:Nat)by omega,<- hl,Cx (by omega) (Nat.le_refl _) (by omega),hd]
  . have hd:hdN es a=3:=if_neg hf
    obtain⟨t1,t2⟩:=bT h4 (a+2) 1
    have t3:(256:Int) ^ 1=256:=by decide
    have hl:lnN es a=(tkN es (a+2) 1).toNat:=by unfold lnN;rw[hd]
    rw[show(fw .u8 (dg es a) 16 !=0)=false by simpa using hf,cF,pF hc (vc hc (by omega)) (by decide),aO (by omega),aY (by omega),am (by omega) (by omega),
     show tkN es (a+2) 1=((tkN es (a+2) 1).toNat:Nat)by omega,<- hl,Cx (by omega) (Nat.le_refl _) (by omega),hd]
 rw[CR,pF hc (vc hc (by omega)) (by decide),e1,pF hc (vc hc (by omega)) (by decide),e2,n1,key]
 unfold rR
 rw[n1,e1,n2,yA h4,yA h4]
 rfl
theorem FM     (ho:¬ okN es a n):∃ f g c r',opn κn Tryz.f98 [.ptr 0 0] (rH (RD a n) n es)= .ret (.tup [.agg [.ptr 2 0,.int .i64 a,.int .u8 f,.int .u8 g],.bool false]) [(0,some (rC r' n)),(2,some c)]:=by
 have h4:=hc.2.2.2
 have h3:=hc.2.2.1
 have h1:=hc.1
 have e1:(RD a n).adv 1=RD (a+1) n:=aO (by omega)
 have n1:(RD a n).num es 1=dg es a:=by rw[aY (by omega),tk1]
 have hr1:=vc hc (s:=a) (by omega)
 rw[CR,pF hc hr1 (by decide),pF hc (hr1.adv 1) (by decide),n1,yA h4]
 have hr2:=(hr1.adv 1).adv 1
 have fin:∀ c (r':Rd),r'.err=4->∃ f g c' r'',rR (RD a n) n es c r'= .ret (.tup [.agg [.ptr 2 0,.int .i64 a,.int .u8 f,.int .u8 g],.bool false]) [(0,some (rC r'' n)),(2,some c')]:=by
  intro c r' hr
  refine⟨w8 ((RD a n).num es 1),w8 (((RD a n).adv 1).num es 1),c,r',?_⟩
  unfold rR
  rw[hr];rfl
 have body:∀ k:Nat,(k=1\/k=2)->hdN es a=k+2->∃ f g c r',rdC (((RD a n).adv 1).adv 1) n es k (pP   ((((RD a n).adv 1).adv 1).adv k) n (IntKind.i64.wrap ((((RD a n).adv 1).adv 1).num es k)) (rR    (RD a n) n es))=
   .ret (.tup [.agg [.ptr 2 0,.int .i64 a,.int .u8 f,.int .u8 g],.bool false]) [(0,some (rC r' n)),(2,some c)]:=by
  intro k hk hd
  rw[pF hc hr2 (by omega)]
  rw[e1]
  by_cases c2:a+2<=n
  . have e2:(RD (a+1) n).adv 1=RD (a+2) n:=aO (by omega)
    rw[e2]
    by_cases c3:a+2+k<=n
    . obtain⟨t1,t2⟩:=bT h4 (a+2) k
      have t3:(256:Int) ^ k<=65536:=by rcases hk with rfl | rfl <;> decide
      have hl:lnN es a=(tkN es (a+2) k).toNat:=by unfold lnN;rw[hd];rfl
      have hgt:¬ a+2+k+lnN es a<=n:=fun hh=>ho ⟨by omega,by omega⟩
      rw[aO (by omega),aY (by omega),am (by omega) (by omega),FL (by omega) (by omega) (by omega)]
      exact fin _ _ rfl
    . rw[jZ c3,yB rfl]
      exact fin _ _ rfl
  . rw[jZ (s:=a+1) (k:=1) (by omega),sY rfl,yB rfl]
    exact fin _ _ rfl
 by_cases hf:fw .u8 (dg es a) 16≠0
 . rw[show(fw .u8 (dg es a) 16 !=0)=true by simpa using hf,cT]
   exact body 2 (.inr rfl) (if_pos hf)
 . rw[show(fw .u8 (dg es a) 16 !=0)=false by simpa using hf,cF]
   exact body 1 (.inl rfl) (if_neg hf)
end
end Go.Proofs.YtnlmhpancboddaaGreat
namespace Go.Proofs.YtnlmhpancboddaaGreat
open Go.Am
set_option maxRecDepth 100000
structure Ds where
 (ori nx med prf orr tk tl tr tg:Int) (hm hp ho:Bool) (path cl cm rch unr:List SV)
def nz:Bool->Nat->List SV->SV
 | true,_,_=>.nils
 | false,e,l=>.psl e l
def dL(pb cb mb:Bool)(d:Ds):List SV:=[.int .i64 d.ori,nz pb 36 d.path,.int .u32 d.nx,.bool d.hm,.int .u32 d.med,.bool d.hp,.int .u32 d.prf,.bool d.ho,.int .u32 d.orr,nz cb 37 d.cl,nz mb 136 d.cm,.int .i64 d.tk,.int .u32 d.tl,.int .u32 d.tr,.int .u32 d.tg,.psl 88 d.rch,.psl 88 d.unr]
abbrev dC(pb cb mb:Bool)(d:Ds):Chunk:=.cells 177 (dL pb cb mb d)
def nmH(r:Rd)(n:Nat)(es:List SV)(sz lim:Int)(f:Nat)(pb cb mb:Bool)(d:Ds):HpL:=
 [(0,rC r n),(1,.seq 5 es),(2,.cells 3 [.int .i64 sz]),(3,.cells 63 [.int .u64 lim]),(4,.cells 205 [.fn (.func f) [] [.ptr 5 0]]),(5,.cells 203 [.ptr 6 0]),(6,dC pb cb mb d)]
def nmA(off fl cd:Int):List SV:=[.agg [.ptr 0 0,.int .i64 off,.int .u8 fl,.int .u8 cd],.ptr 2 0,.ptr 3 0,.ptr 4 0]
noncomputable def nmT(r:Rd)(n:Nat)(es:List SV)(sz:Nat)(lim:Int)(pb cb mb:Bool)(d:Int->Ds):CTree:=
 bif IntKind.i64.wrap (r.end_ - r.at_)!=sz then .ret (.bool false) []else rdC r n es sz (bif decide (r.num es sz > lim)then .ret (.bool false) [(0,some (rC (r.adv sz) n))]else
  .ret (.bool true) [(6,some (dC pb cb mb (d (r.num es sz)))),(0,some (rC (r.adv sz) n))])
def d1(d:Ds)(x:Int):Ds:={d with ori:=IntKind.i64.wrap x}
def d4(d:Ds)(x:Int):Ds:={d with hm:=true,med:=w3 x}
def d5(d:Ds)(x:Int):Ds:={d with hp:=true,prf:=w3 x}
def d9(d:Ds)(x:Int):Ds:={d with ho:=true,orr:=w3 x}
theorem Mo(r:Rd)(n:Nat)(es:List SV)(off fl cd:Int)(pb cb mb:Bool)(d:Ds):opn κn Tryz.f135 (nmA off fl cd) (nmH r n es 1 2 112 pb cb mb d)=nmT r n es 1 2 pb cb mb (d1 d):=by
 cases pb <;> cases cb <;> cases mb <;> kernel_rfl
theorem Mq(r:Rd)(n:Nat)(es:List SV)(off fl cd:Int)(pb cb mb:Bool)(d:Ds):opn κn Tryz.f135 (nmA off fl cd) (nmH r n es 4 4294967295 115 pb cb mb d)=nmT r n es 4 4294967295 pb cb mb (d4 d):=by
 cases pb <;> cases cb <;> cases mb <;> kernel_rfl
theorem Mr(r:Rd)(n:Nat)(es:List SV)(off fl cd:Int)(pb cb mb:Bool)(d:Ds):opn κn Tryz.f135 (nmA off fl cd) (nmH r n es 4 4294967295 116 pb cb mb d)=nmT r n es 4 4294967295 pb cb mb (d5 d):=by
 cases pb <;> cases cb <;> cases mb <;> kernel_rfl
theorem Ms(r:Rd)(n:Nat)(es:List SV)(off fl cd:Int)(pb cb mb:Bool)(d:Ds):opn κn Tryz.f135 (nmA off fl cd) (nmH r n es 4 4294967295 117 pb cb mb d)=nmT r n es 4 4294967295 pb cb mb (d9 d):=by
 cases pb <;> cases cb <;> cases mb <;> kernel_rfl
end Go.Proofs.YtnlmhpancboddaaGreat
