/- The reference's bytes of a route, valid or not. -/
import Derived.Test.YtnlmhpancboddaaGreatPart10
set_option linter.unusedVariables false
set_option linter.unusedSimpArgs false
namespace Go.Proofs.YtnlmhpancboddaaGreat
open Go.Am
set_option maxRecDepth 100000
noncomputable def IT:ag:=fun args H=>match args,H with
 | [x],[]=>match wo x with
  | some n=>.ite (dec (RgN n/\(n.kind=1\/n.kind=2\/n.kind=3\/n.kind=4\/n.kind=5))) (.ite (chk n !=0) (.ret (.tup [.nils,.int .i64 (chk n)]) []) (.ret (.tup [.qs 0 1 0 (nb n).length,.int .i64 0]) [(0,some (.seq 5 (nb n)))])) .fail
  | none=>.fail
 | _,_=>.fail
theorem IU{n:Nl}(hk:n.kind=1\/n.kind=2\/n.kind=3\/n.kind=4\/n.kind=5)(hc:(chk n !=0)=true):opn κe Tryz.f138 [n.v] []= .ret (.tup [.nils,.int .i64 (chk n)]) []:=by
 obtain⟨kind,rd,e0,e1,e2,e3,e4,e5,e6,e7,e8,e9,tag,mac,ip,hip,pip,plen,gw,lab,lab2⟩:=n
 simp only[]at hk
 obtain rfl | rfl | rfl | rfl | rfl:=hk
 . rw[C8,hc];rfl
 . cases hip with
   | true=>rw[pz,hc];rfl
   | false=>rw[nt,hc];rfl
 . rw[C9,hc];rfl
 . rw[Da,hc];rfl
 . rw[Db,hc];rfl
theorem NP  :Known Tryz.prog 138 IT  :=by
 refine⟨rbytes_k.fn,fun args H v ups h=> ?_⟩
 unfold IT at h
 split at h
 . rename_i x
   split at h
   . rename_i n hn
     have hx:=oN hn
     subst hx
     rw[aa]at h
     cases hd:dec (RgN n/\(n.kind=1\/n.kind=2\/n.kind=3\/n.kind=4\/n.kind=5))with
     | false=>rw[hd]at h;cases h
     | true=>
      rw[hd,cT,aa]at h
      obtain⟨h1,h2⟩:=dec_iff.1 hd
      cases hc:chk n !=0 with
      | true=>
       rw[hc]at h
       exact(am eOk Tryz.func138 rfl).ok _ _ v ups ((congrArg ac (IU h2 hc)).trans h)
      | false=>
       rw[hc,cF]at h
       have hc0:chk n=0:=by simpa using hc
       refine rbytes_k.ok _ _ v ups ?_
       unfold lx
       simp only[hn]
       rw[aa,dT0 (show chk n=0/\OkP n from⟨hc0,wI h1 hc0⟩),cT]
       exact h
   . cases h
 . cases h
/- The reference's loop over routes. -/
noncomputable def xP:Code:=Tryz.f132.body.getD .skip
noncomputable def BT:Code:=(bv 3 xP).getD .skip
noncomputable def Fl:ag:=fun args H=>match args,H with
 | [.psl 5 p,.ptr 0 0,.qs 1 21 0 m,.int .i64 a],[(0,.cells 28 [.int .i64 0,.int .i64 0]),(1,.seq 88 rs)]=>.ite (dec (byl p/\p.length<=1000000/\m=rs.length/\rs.length<=4096/\0<=a/\a<=p.length))
   (.ite ((cW (p.drop a.toNat) a rs).1==0)
    (.ret (.tup [.int .i64 2,.junk,.ptr 0 0,.qs 2 21 0 (cW (p.drop a.toNat) a rs).2.2.length]) [(1,none),(2,some (.seq 88 (cW (p.drop a.toNat) a rs).2.2))])
    (.ret (.tup [.int .i64 1,.nils,.ptr 0 0,.qs 2 21 0 (cW (p.drop a.toNat) a rs).2.2.length]) [(0,some (.cells 28 [.int .i64 (cW (p.drop a.toNat) a rs).1,.int .i64 (cW (p.drop a.toNat) a rs).2.1])),(1,none),(2,some (.seq 88 (cW (p.drop a.toNat) a rs).2.2))])) .fail
 | _,_=>.fail
def rlM:List SV->HpL->Nat
 | [.psl _ p,_,_,.int _ a],_=>p.length - a.toNat
 | _,_=>0
noncomputable def BU:LEnt:={ins:=[0,3,4,5],outs:=[2,3,4],keep:=[],size:=96,code:=BT,s:=Fl}
noncomputable abbrev κv:=tbl [(137,tf),(138,IT)]
theorem vOk:KOk Tryz.prog κv:=af GG (af NP ok0)
noncomputable abbrev κw:=bn Tryz.prog κv 300 5
noncomputable abbrev ιw:Nat->Bool:=fun g=>inl κv g&&bB Tryz.prog g
abbrev w64(n:Int):Int:=IntKind.i64.wrap n
def kW(p:List SV)(a:Int):Int:=w64 (w64 (a+2)+w64 (dg p (w64 (a+1)).toNat))
def rKd(p:List SV)(a:Int):Int:=w64 (dg p a.toNat)
def Eu(p:List SV)(a:Int):List SV:=(p.drop (w64 (a+2)).toNat).take ((kW p a).toNat - (w64 (a+2)).toNat)
def KF(p:List SV)(a:Int):List SV:=(p.drop a.toNat).take ((kW p a).toNat - a.toNat)
def Bc(m:Nat)(c a:Int):CTree:=.ret (.tup [.int .i64 1,.nils,.ptr 0 0,.qs 1 21 0 m]) [(0,some (.cells 28 [.int .i64 c,.int .i64 a]))]
noncomputable def H4(N:Nat)(p:List SV)(m:Nat)(rs:List SV)(a:Int):CTree:=
 bif Nat.blt (p.length - a.toNat) N then bif dec (byl p/\p.length<=1000000/\m=rs.length/\rs.length<=4096/\0<=a/\a<=p.length)then
  bif(cW (p.drop a.toNat) a rs).1==0 then .ret (.tup [.int .i64 2,.junk,.ptr 0 0,.qs 2 21 0 (cW (p.drop a.toNat) a rs).2.2.length]) [(1,none),(2,some (.seq 88 (cW (p.drop a.toNat) a rs).2.2))]
  else .ret (.tup [.int .i64 1,.nils,.ptr 0 0,.qs 2 21 0 (cW (p.drop a.toNat) a rs).2.2.length]) [(0,some (.cells 28 [.int .i64 (cW (p.drop a.toNat) a rs).1,.int .i64 (cW (p.drop a.toNat) a rs).2.1])),(1,none),(2,some (.seq 88 (cW (p.drop a.toNat) a rs).2.2))]
 else .fail else .fail
noncomputable def zA(N:Nat)(p:List SV)(m:Nat)(rs:List SV)(a:Int)(x:Nl)(bs:List UInt8):CTree:=
 bif decide (0<=a)&&decide (a<=kW p a)&&decide (kW p a<=p.length)then bif !(bs==(KF p a).map Am.byteOf)then Bc m 3 a
  else bif decide (m=rs.length)then bif grB rs.length then H4 N p (rs.length+1) (rs++[x.v]) (kW p a)else .fail else .fail else .fail
noncomputable def rVK(N:Nat)(p:List SV)(m:Nat)(rs:List SV)(a:Int)(x:Nl):CTree:=
 bif dec (RgN x/\(x.kind=1\/x.kind=2\/x.kind=3\/x.kind=4\/x.kind=5))then
  bif chk x !=0 then(bif chk x !=0 then Bc m 3 a else zA N p m rs a x (([]:List SV).map Am.byteOf))else FM (nb x) (zA N p m rs a x)
 else .fail
theorem Ev(N m:Nat)(p rs:List SV)(a:Int):av Tryz.prog κw ιw (aF []) true 300 BU {BU with s:=ay rlM Fl N} BT [.psl 5 p,.ptr 0 0,.qs 1 21 0 m,.int .i64 a] [(0,.cells 28 [.int .i64 0,.int .i64 0]),(1,.seq 88 rs)]=
 bif decide (a < p.length)then bif(m:Int)==4096 then Bc m 7 a else bif decide (w64 (a+2) > p.length)then Bc m 4 a else bif inB (w64 (a+1)) p.length then bif decide (kW p a > p.length)then Bc m 4 a else
  bif inB a p.length then bif inB (w64 (a+1)) p.length then bif(bif decide (rKd p a < 1)then true else decide (rKd p a > 5))then Bc m 6 a else
   bif decide (0<=w64 (a+2))&&decide (w64 (a+2)<=kW p a)&&decide (kW p a<=p.length)then
    bif dec (byl (Eu p a)/\(Eu p a).length<=1000000/\(rKd p a=1\/rKd p a=2\/rKd p a=3\/rKd p a=4\/rKd p a=5))then rVK N p m rs a (tj (rKd p a) (Eu p a))else .fail
   else .fail else .fail else .fail else .fail
 else .ret (.tup [.int .i64 2,.junk,.ptr 0 0,.qs 1 21 0 m]) []:=by kernel_rfl
end Go.Proofs.YtnlmhpancboddaaGreat
namespace Go.Proofs.YtnlmhpancboddaaGreat
open Go.Am
set_option maxRecDepth 100000
def rlH(rs:List SV):HpL:=[(0,.cells 28 [.int .i64 0,.int .i64 0]),(1,.seq 88 rs)]
theorem yB{L:Nat}{rs rs':List SV}{c0:Chunk}(h0:br (sw 1 2) c0=c0):∀ x,ad [(0,some c0),(1,none),(2,some (.seq 88 rs))] (rlH rs).get x=
  if x=2 then(ad [(0,some c0)] (rlH rs).get 1).map (br (sw 1 2))else if x=1 then none else(ad [(0,some c0)] (rlH rs).get x).map (br (sw 1 2))
 | 0=>by show some c0=some (br (sw 1 2) c0);rw[h0]
 | 1=>rfl | 2=>rfl
 | x+3=>by
  have h1:∀ k,k < 3->¬ (x+3=k):=fun k hk=>by omega
  have h2:∀ k,k < 3->Nat.beq k (x+3)=false:=fun k hk=>bK (by omega)
  simp only[ad,rlH,HpL.get,h1 2 (by omega),h1 1 (by omega),h1 0 (by omega),if_false,h2 0 (by omega),h2 1 (by omega),cF,Option.map_none]
theorem Dg{rs:List SV}:∀ x c,(rlH rs).get x=some c->2 ∉ aJ c:=by
 intro x c hx
 have:=aQ _ _ _ hx
 simp only[rlH,List.mem_cons,pJ,List.not_mem_nil,or_false]at this
 rcases this with ⟨_,rfl⟩ | ⟨_,rfl⟩ <;> simp[aJ,az,aj]
theorem lH{rs:List SV}{c a:Int}:bN (rlH rs) (.tup [.int .i64 1,.nils,.ptr 0 0,.qs 1 21 0 rs.length]) [(0,some (.cells 28 [.int .i64 c,.int .i64 a]))]
  (.tup [.int .i64 1,.nils,.ptr 0 0,.qs 2 21 0 rs.length]) [(0,some (.cells 28 [.int .i64 c,.int .i64 a])),(1,none),(2,some (.seq 88 rs))]:=by
 refine⟨1,2,by simp[rlH],by simp[aj,az],?_,rfl,yB (L:=0) (rs':=[]) rfl⟩
 intro x c' hx
 simp only[ad]at hx
 by_cases h0:x=0
 . rw[if_pos h0]at hx;cases hx;simp[aJ,az,aj]
 . rw[if_neg h0]at hx;exact Dg x c' hx
theorem Gm{rs:List SV}:bN (rlH rs) (.tup [.int .i64 2,.junk,.ptr 0 0,.qs 1 21 0 rs.length]) [] (.tup [.int .i64 2,.junk,.ptr 0 0,.qs 2 21 0 rs.length]) [(1,none),(2,some (.seq 88 rs))]:=by
 refine⟨1,2,by simp[rlH],by simp[aj,az],fun x c hx=>Dg x c hx,rfl,fun x=> ?_⟩
 have:=yB (L:=0) (rs:=rs) (rs':=[]) (c0:=.cells 28 [.int .i64 0,.int .i64 0]) rfl x
 have e:∀ l x,ad ((0,some (.cells 28 [.int .i64 0,.int .i64 0])) :: l) (rlH rs).get x=ad l (rlH rs).get x:=by
  intro l x
  show ad l _ x=ad l _ x
  congr 1
  funext y
  by_cases h0:y=0
  . subst h0;rfl
  . rw[if_neg h0]
 rw[e,e,e]at this
 exact this
section
variable {p:List SV} {a:Int} (hb:byl p) (hl:p.length<=1000000) (h0:0<=a) (h1:a < p.length)
include hb hl h0 h1
theorem Ms:(p.drop a.toNat).length=p.length - a.toNat/\byl (p.drop a.toNat)/\(p.drop a.toNat).length≠0:=by
 have h:=List.length_drop (l:=p) (i:=a.toNat)
 exact⟨h,hb.dropb _,by omega⟩
omit hl h1 hb in
theorem Mt(j:Nat):dg (p.drop a.toNat) j=dg p (a+j).toNat:=by
 unfold dg
 rw[gD0,List.getElem?_drop,gD0,show a.toNat+j=(a+j).toNat by omega]
theorem Gn:kW p a=a+2+dg (p.drop a.toNat) 1:=by
 obtain⟨r1,r2⟩:=(hb.dropb a.toNat).ok 1
 have hd:dg p (w64 (a+1)).toNat=dg (p.drop a.toNat) 1:=by
  rw[Mt h0 1,show w64 (a+1)=a+1 from ai (by omega) (by omega)];rfl
 unfold kW
 rw[hd]
 show IntKind.i64.wrap (IntKind.i64.wrap (a+2)+IntKind.i64.wrap _)=_
 rw[ai (n:=a+2) (by omega) (by omega),ai (n:=dg (p.drop a.toNat) 1) (by omega) (by omega),ai (by omega) (by omega)]
omit hl h1 in
theorem JH:rKd p a=dg (p.drop a.toNat) 0:=by
 obtain⟨r1,r2⟩:=(hb.dropb a.toNat).ok 0
 have hd:dg p a.toNat=dg (p.drop a.toNat) 0:=by rw[Mt h0 0];simp
 unfold rKd
 rw[hd]
 exact ai (by omega) (by omega)
omit hl h0 h1 in
theorem Gp(hc:((p.drop a.toNat).length:Int) < 2+dg (p.drop a.toNat) 1\/(p.drop a.toNat).length < 2):eb ((p.drop a.toNat).take (szP (p.drop a.toNat)))=4:=by
 obtain⟨r1,r2⟩:=(hb.dropb a.toNat).ok 1
 have hs:szP (p.drop a.toNat)=(p.drop a.toNat).length:=by unfold szP;split <;> omega
 rw[hs,List.take_length]
 unfold eb
 by_cases h2:(p.drop a.toNat).length < 2
 . rw[if_pos h2]
 . rw[if_neg h2,if_pos (by omega)]
end
theorem JI{q:List SV}(hb:byl q)(hc:¬ (q.length:Int) < 2+dg q 1):(szP q:Int)=2+dg q 1/\(q.take (szP q)).length=szP q/\dg (q.take (szP q)) 0=dg q 0/\dg (q.take (szP q)) 1=dg q 1/\2<=szP q/\szP q<=q.length/\byl (q.take (szP q)):=by
 obtain⟨r1,r2⟩:=hb.ok 1
 have hs:szP q=(2+dg q 1).toNat:=by unfold szP;split <;> omega
 have hle:=oU (p:=q)
 have h2:2<=szP q:=by omega
 have hd:∀ j,j < 2->dg (q.take (szP q)) j=dg q j:=by
  intro j hj
  unfold dg
  rw[gD0,List.getElem?_take,if_pos (by omega),gD0]
 exact⟨by omega,by rw[List.length_take];omega,hd 0 (by omega),hd 1 (by omega),h2,hle,fun v hv=>hb v (List.mem_of_mem_take hv)⟩
theorem Dh      :aO     Tryz.prog BU  :=bG          (κ:=κw) (ι:=ιw) (T:=aF   []) (sp:=true) (fuel:=300) (c:=BT  ) (μ:=rlM) (aL       ak       aq     vOk 300 5) aq     aE       (show aN    (aF   []) BT  =BT   by kernel_rfl) (by
 intro N args H v' ups' hbt h
 unfold BU Fl at h
 simp only[]at h
 split at h
 . rename_i p m a rs
   rw[aa]at h
   cases hc:dec (byl p/\p.length<=1000000/\m=rs.length/\rs.length<=4096/\0<=a/\a<=p.length)with
   | false=>rw[hc]at h;cases h
   | true=>
    rw[hc,cT]at h
    obtain⟨hb,hl,rfl,h4,h0,h1⟩:=dec_iff.1 hc
    have hrd:=Ev N rs.length p rs a
    have hN:Nat.blt (p.length - a.toNat) (N+1)=true:=hbt
    by_cases hlt:a < p.length
    . obtain⟨hq,hbq,hq0⟩:=Ms    hb hl h0 hlt
      have hE:=Gn hb hl h0 hlt
      have hK:=JH (a:=a) hb h0
      have hcut:=Gp (a:=a) hb
      obtain⟨d1,d2⟩:=hbq.ok 1
      have w2:w64 (a+2)=a+2:=ai (by omega) (by omega)
      have w1:w64 (a+1)=a+1:=ai (by omega) (by omega)
      rw[dT0 hlt,cT]at hrd
      rw[mw hbq hq0]at h
      by_cases h46:rs.length=4096
      . rw[if_pos h46]at h
        rw[show((rs.length:Int)==4096)=true by simp;omega]at hrd
        cases h
        exact .inr ⟨_,_,congrArg ac hrd,lH⟩
      rw[if_neg h46]at h
      rw[show((rs.length:Int)==4096)=false by simp;omega,cF,w2]at hrd
      by_cases hcs:(p.drop a.toNat).length < 2
      . rw[hcut (.inr hcs),if_pos (by decide)]at h
        rw[dT0 (show a+2 > (p.length:Int)by omega)]at hrd
        cases h
        exact .inr ⟨_,_,congrArg ac hrd,lH⟩
      rw[dF (show ¬ a+2 > (p.length:Int)by omega),cF,w1,show inB (a+1) p.length=true by unfold inB;simp;omega,cT]at hrd
      by_cases hcl:((p.drop a.toNat).length:Int) < 2+dg (p.drop a.toNat) 1
      . rw[hcut (.inl hcl),if_pos (by decide)]at h
        rw[dT0 (show kW p a > (p.length:Int)by omega)]at hrd
        cases h
        exact .inr ⟨_,_,congrArg ac hrd,lH⟩
      rw[dF (show ¬ kW p a > (p.length:Int)by omega),cF,show inB a p.length=true by unfold inB;simp;omega,cT,cT]at hrd
      obtain⟨s1,s2,s3,s4,s5,s6,s7⟩:=JI hbq hcl
      have hEs:kW p a=a+(szP (p.drop a.toNat):Nat):=by omega
      have hV:Eu p a=((p.drop a.toNat).take (szP (p.drop a.toNat))).drop 2:=by
       unfold Eu
       rw[w2,hEs,List.drop_take,List.drop_drop,show(a+2).toNat=a.toNat+2 by omega,show(a+(szP (p.drop a.toNat):Nat)).toNat - (a.toNat+2)=szP (p.drop a.toNat) - 2 by omega]
      have hP:KF p a=(p.drop a.toNat).take (szP (p.drop a.toNat)):=by
       unfold KF
       rw[hEs,show(a+(szP (p.drop a.toNat):Nat)).toNat - a.toNat=szP (p.drop a.toNat)by omega]
      generalize hk:szP (p.drop a.toNat)=k at *
      generalize hpc:(p.drop a.toNat).take k=pc at *
      rw[hK]at hrd
      by_cases hk6:dg pc 0 < 1\/5 < dg pc 0
      . have he:eb pc=6:=by unfold eb;rw[if_neg (by omega),if_neg (by omega),if_pos hk6]
        rw[he,if_pos (by decide)]at h
        have:(bif decide (dg (p.drop a.toNat) 0 < 1)then true else decide (dg (p.drop a.toNat) 0 > 5))=true:=by
         by_cases hx:dg (p.drop a.toNat) 0 < 1
         . rw[dT0 hx];rfl
         . rw[dF hx,cF];exact dT0 (by omega)
        rw[this]at hrd
        cases h
        exact .inr ⟨_,_,congrArg ac hrd,lH⟩
      have hkk:dg pc 0=1\/dg pc 0=2\/dg pc 0=3\/dg pc 0=4\/dg pc 0=5:=by omega
      have hbv:byl (pc.drop 2):=s7.dropb 2
      obtain⟨q1,q2,q3⟩:=GE hbv _ hkk
      rw[dF (show ¬ dg (p.drop a.toNat) 0 < 1 by omega),dF (show ¬ dg (p.drop a.toNat) 0 > 5 by omega),cF,cF,dT0 (show 0<=a+2 by omega),dT0 (show a+2<=kW p a by omega),dT0 (show kW p a<=(p.length:Int)by omega),hV,<- s3,
       dec_iff.2 ⟨hbv,by rw[List.length_drop];omega,hkk⟩]at hrd
      simp only[Bool.and_self,cT]at hrd
      unfold rVK at hrd
      rw[dec_iff.2 ⟨q1,by rw[q3];exact hkk⟩,cT]at hrd
      by_cases hex:∃ n,kf pc n
      . obtain⟨n,hn⟩:=hex
        obtain⟨v1,v2,v3,v4,v5⟩:=ov hn
        have hx:tj (dg pc 0) (pc.drop 2)=n:=by rw[v3,v1];exact GF hn.1 hn.2.1
        rw[lJ hn,if_neg (by simp),yO hn]at h
        rw[hx,hn.1,oe,hn.2.2]at hrd
        unfold zA at hrd
        have hblt:Nat.blt (p.length - (a+(k:Nat)).toNat) N=true:=by rw[bL]at hN ⊢;omega
        rw[hP,hEs,dT0 h0,dT0 (show a<=a+(k:Nat)by omega),dT0 (show a+(k:Nat)<=(p.length:Int)by omega),dT0 rfl,show grB rs.length=true by unfold grB;simp;omega]at hrd
        simp only[Bool.and_self,cT,beq_self_eq_true,Bool.not_true,cF,bne_self_eq_false]at hrd
        unfold H4 at hrd
        rw[hblt,dec_iff.2 ⟨hb,hl,by simp,by simp;omega,by omega,by omega⟩,cT,cT,show(a+(k:Nat)).toNat=a.toNat+k by omega,<- List.drop_drop]at hrd
        generalize cW ((p.drop a.toNat).drop k) (a+k) (rs++[n.v])=r at *
        rw[aa]at h
        cases he:r.1==0 with
        | true=>rw[he]at h hrd;cases h;exact .inl ⟨_,congrArg ac hrd,fun x=>rfl⟩
        | false=>rw[he]at h hrd;cases h;exact .inl ⟨_,congrArg ac hrd,fun x=>rfl⟩
      . have he:eb pc=3:=by unfold eb;rw[if_neg (by omega),if_neg (by omega),if_neg hk6,if_neg hex]
        rw[he,if_pos (by decide)]at h
        cases h
        refine .inr ⟨_,_,(congrArg ac hrd).trans ?_,lH⟩
        generalize tj (dg pc 0) (pc.drop 2)=x at *
        cases hcc:chk x !=0 with
        | true=>rfl
        | false=>
         have hc0:chk x=0:=by simpa using hcc
         rw[cF,oe]
         unfold zA
         rw[hP,hEs,dT0 h0,dT0 (show a<=a+(k:Nat)by omega),dT0 (show a+(k:Nat)<=(p.length:Int)by omega)]
         simp only[Bool.and_self,cT]
         cases hq2:((nb x).map Am.byteOf==pc.map Am.byteOf)with
         | false=>rfl
         | true=>exact absurd ⟨x,hc0,wI q1 hc0,uF (Ci q2) s7 (eq_of_beq hq2)⟩ hex
    . have hq0:(p.drop a.toNat).length=0:=by rw[List.length_drop];omega
      rw[dF hlt,cF]at hrd
      rw[oX hq0]at h
      cases h
      exact .inr ⟨_,_,congrArg ac hrd,Gm⟩
 . cases h)
end Go.Proofs.YtnlmhpancboddaaGreat
namespace Go.Proofs.YtnlmhpancboddaaGreat
open Go.Am
set_option maxRecDepth 100000
def Hs:List (Option (Nat × Nat)):=[none,none,some (88,21),none]
noncomputable def Ht:LEnt:={BU with s:=inS Hs Fl}
theorem KV:aO Tryz.prog Ht:=oA Dh (fs:=Hs) ⟨fun h=>absurd h (by decide),trivial⟩
noncomputable abbrev KW:cu:=aF [("r",Ht)]
noncomputable abbrev KX:Code:=bx [(3, "r")] xP
noncomputable def xH:ag:=bE Tryz.prog κw ιw KW true 300 Tryz.f132 KX
theorem Br:Known Tryz.prog 132 xH:=⟨⟨Tryz.f132,Tryz.func132,bf ak Tryz.func132,rfl⟩,aS (aL ak aq vOk 300 5) aq (ba KV aE) Tryz.func132 (show Tryz.f132.body=some (aN KW KX)by kernel_rfl)⟩
noncomputable def Bs(r:Int × Int × List SV):CTree:=bif r.1==0 then .ret (.tup [.qs 0 21 0 r.2.2.length,.agg [.int .i64 0,.int .i64 0]]) [(0,some (.seq 88 r.2.2))]else .ret (.tup [.nils,.agg [.int .i64 r.1,.int .i64 r.2.1]]) []
theorem EP(p:List SV):xH [.psl 5 p] []=bif dec (byl p/\p.length<=1000000/\0=([]:List SV).length/\([]:List SV).length<=4096/\(0:Int)<=0/\(0:Int)<=p.length)then Bs (cW (p.drop (0:Int).toNat) 0 [])else .fail:=by kernel_rfl
noncomputable def n7:ag:=fun args H=>match args,H with
 | [.psl 5 p],[]=>.ite (dec (byl p/\p.length<=1000000)) (.ret (.tup [.psl 88 (rdL p),.agg [.int .i64 (rdE p),.int .i64 (rdA p)]]) []) .fail
 | _,_=>.fail
theorem EQ     :Known Tryz.prog 132 n7     :=bd         Br       (by
 intro args H v' ups' h
 unfold n7 at h
 split at h
 . rename_i p
   rw[aa]at h
   cases hc:dec (byl p/\p.length<=1000000)with
   | false=>rw[hc]at h;cases h
   | true=>
    rw[hc]at h
    obtain⟨h1,h2⟩:=dec_iff.1 hc
    have ht:=EP p
    rw[dec_iff.2 ⟨h1,h2,rfl,by simp,by omega,by omega⟩,cT,show p.drop (0:Int).toNat=p from rfl]at ht
    unfold rdL rdE rdA at h
    cases h
    generalize cW p 0 []=r at ht ⊢
    unfold Bs at ht
    have hg:∀ x c',HpL.get [] x≠some c':=fun x c' hx=>by simp[HpL.get]at hx
    by_cases he:r.1=0
    . rw[show(r.1==0)=true by simpa using he]at ht
      rw[if_pos he,if_pos he,he]
      exact⟨_,_,congrArg ac ht,.inl ⟨0,88,r.2.2,rfl,.tup (.cons (.qs rfl) .rfl'),fun x c' hx=>absurd hx (hg x c')⟩⟩
    . rw[show(r.1==0)=false by simpa using he]at ht
      rw[if_neg he,if_neg he]
      exact⟨_,_,congrArg ac ht,.inr ⟨.tup (.cons .nils .rfl'),fun x c' hx=>⟨c',hx,.rfl'⟩⟩⟩
 . cases h)
noncomputable abbrev κn:=tbl [(69,fE)]
theorem nOk:KOk Tryz.prog κn:=af yp ok0
def shC(a e f:Int):Chunk:=.cells 157 [.int .i64 a,.int .i64 a,.nils,.int .i64 e,.int .i64 f,.bool true]
def pq(r:Rd)(n:Nat)(k:Int)(K:Chunk->Rd->CTree):CTree:=
 bif r.err !=0 then K (shC r.at_ r.err r.fat) r else bif fX r k then(bif r.err==0 then K (shC r.at_ 4 r.at_) ⟨r.at_,r.end_,4,r.at_⟩else K (shC r.at_ r.err r.fat) r)else
 bif wY r k n then K (rC ⟨r.at_,wA r k,0,0⟩ n) ⟨wA r k,r.end_,r.err,r.fat⟩else .fail
def cz(k:IntKind)(a b:Int):Int:=k.wrap ((BitVec.ofInt k.bits a&&& BitVec.ofInt k.bits b).toNat:Int)
abbrev w8(n:Int):Int:=IntKind.u8.wrap n
def rE(r:Rd)(n:Nat)(es:List SV)(c:Chunk)(r':Rd):CTree:=
 .ret (.tup [.agg [.ptr 2 0,.int .i64 r.at_,.int .u8 (w8 (r.num es 1)),.int .u8 (w8 ((r.adv 1).num es 1))],.bool (r'.err==0)]) [(0,some (rC r' n)),(2,some c)]
theorem CQ(r:Rd)(n:Nat)(es:List SV):opn κn Tryz.f98 [.ptr 0 0] (rH r n es)=
 rdC r n es 1 (rdC (r.adv 1) n es 1 (bif cz .u8 (w8 (r.num es 1)) 16 !=0 then rdC ((r.adv 1).adv 1) n es 2 (pq (((r.adv 1).adv 1).adv 2) n (IntKind.i64.wrap (((r.adv 1).adv 1).num es 2)) (rE r n es))
  else rdC ((r.adv 1).adv 1) n es 1 (pq (((r.adv 1).adv 1).adv 1) n (IntKind.i64.wrap (((r.adv 1).adv 1).num es 1)) (rE r n es)))):=by kernel_rfl
end Go.Proofs.YtnlmhpancboddaaGreat
namespace Go.Proofs.YtnlmhpancboddaaGreat
open Go.Am
set_option maxRecDepth 100000
def hdN(es:List SV)(a:Nat):Nat:=if cz .u8 (dg es a) 16≠0 then 4 else 3
def lnN(es:List SV)(a:Nat):Nat:=(tkN es (a+2) (hdN es a - 2)).toNat
def okN(es:List SV)(a n:Nat):Prop:=a+hdN es a<=n/\a+hdN es a+lnN es a<=n
def cdN(es:List SV)(a n:Nat):Prop:=a < n/\n=es.length/\n<=1000000/\mN es
theorem tk1(es:List SV)(s:Nat):tkN es s 1=dg es s:=by simp[tkN]
theorem yg{es:List SV}(h:mN es)(j:Nat):w8 (dg es j)=dg es j:=by
 obtain⟨h1,h2⟩:=h j
 show IntKind.u8.wrap _=_
 rw[iS];omega
theorem sR{r:Rd}(h:(r.err !=0)=true)(k:Nat):r.adv k=r:=by
 unfold Rd.adv;rw[h];rfl
theorem jO{s L k:Nat}(h:¬ s+k<=L):(RD s L).adv k=⟨s,L,4,s⟩:=by
 have hf:(RD s L).few k=true:=by unfold Rd.few RD;exact dT0 (by simp only[];omega)
 unfold Rd.adv;rw[hf];rfl
theorem yh{r:Rd}(h:(r.err !=0)=true)(n:Nat)(k:Int)(K:Chunk->Rd->CTree):pq r n k K=K (shC r.at_ r.err r.fat) r:=by
 unfold pq;rw[h];rfl
theorem FT{s L n:Nat}{k:Int}(h:(k:Int) > L - s)(hs:s<=L)(hL:L<=1000000)(K:Chunk->Rd->CTree):pq (RD s L) n k K=K (shC s 4 s) ⟨s,L,4,s⟩:=by
 have hsb:fX (RD s L) k=true:=by
  unfold fX RD
  simp only[]
  by_cases h0:k < 0
  . rw[dT0 h0];rfl
  . rw[dF h0,cF,ai (by omega) (by omega)];exact dT0 (by omega)
 unfold pq;rw[hsb];rfl
theorem CA{s L n k:Nat}(h:s+k<=L)(hn:L<=n)(hL:n<=1000000)(K:Chunk->Rd->CTree):pq (RD s L) n (k:Int) K=K (rC (RD s (s+k)) n) (RD (s+k) L):=by
 have hw:wA (RD s L) k=((s+k:Nat):Int):=by
  unfold wA RD
  simp only[]
  rw[ai (by omega) (by omega)];omega
 have hwb:wB (RD s L) k=(s:Int):=by
  unfold wB
  rw[hw,ai (by omega) (by omega)];omega
 have hsb:fX (RD s L) k=false:=by
  unfold fX RD
  simp only[]
  rw[dF (show ¬ (k:Int) < 0 by omega),cF,ai (by omega) (by omega)];exact dF (by omega)
 have ho:wY (RD s L) k n=true:=by
  unfold wY
  rw[hw,hwb,dT0 (by omega),dT0 (by omega),dT0 (by omega)];rfl
 unfold pq
 rw[hsb,ho,hw];rfl
section
variable {es:List SV} {a n:Nat} (hc:cdN es a n)
include hc
theorem uW{s:Nat}(h:s<=n):OkRd (RD s n) es:=by
 obtain⟨h1,h2,h3,h4⟩:=hc
 exact⟨by simp[RD],by simp[RD];omega,by simp[RD];omega,by omega,h4⟩
theorem pi{r:Rd}(h:OkRd r es){k:Int}(hk:0<=k/\k<=8)(K:CTree):rdC r n es k K=K:=by
 unfold rdC
 rw[dec_iff.2 ⟨h,hc.2.1,hk.1,hk.2⟩];rfl
theorem uX      (ho:okN es a n):opn κn Tryz.f98 [.ptr 0 0] (rH (RD a n) n es)=
  .ret (.tup [.agg [.ptr 2 0,.int .i64 a,.int .u8 (dg es a),.int .u8 (dg es (a+1))],.bool true]) [(0,some (rC (RD (a+hdN es a+lnN es a) n) n)),(2,some (rC (RD (a+hdN es a) (a+hdN es a+lnN es a)) n))]:=by
 have h4:=hc.2.2.2
 have h3:=hc.2.2.1
 have hN:(a:Int) < 1000000:=by have:=hc.1;omega
 obtain⟨o1,o2⟩:=ho
 have hh:3<=hdN es a/\hdN es a<=4:=by unfold hdN;split <;> omega
 have e1:(RD a n).adv 1=RD (a+1) n:=aW (by omega)
 have e2:(RD (a+1) n).adv 1=RD (a+2) n:=aW (by omega)
 have n1:(RD a n).num es 1=dg es a:=by rw[bi (by omega),tk1]
 have n2:(RD (a+1) n).num es 1=dg es (a+1):=by rw[bi (by omega),tk1]
 have key:∀ K:Chunk->Rd->CTree,(bif cz .u8 (w8 (dg es a)) 16 !=0 then rdC (RD (a+2) n) n es 2 (pq ((RD (a+2) n).adv 2) n (IntKind.i64.wrap ((RD (a+2) n).num es 2)) K)else rdC (RD (a+2) n) n es 1 (pq ((RD (a+2) n).adv 1) n (IntKind.i64.wrap ((RD (a+2) n).num es 1)) K))=
   K (rC (RD (a+hdN es a) (a+hdN es a+lnN es a)) n) (RD (a+hdN es a+lnN es a) n):=by
  intro K
  rw[yg h4]
  by_cases hf:cz .u8 (dg es a) 16≠0
  . have hd:hdN es a=4:=if_pos hf
    obtain⟨t1,t2⟩:=aX h4 (a+2) 2
    have t3:(256:Int) ^ 2=65536:=by decide
    have hl:lnN es a=(tkN es (a+2) 2).toNat:=by unfold lnN;rw[hd]
    rw[show(cz .u8 (dg es a) 16 !=0)=true by simpa using hf,cT,pi hc (uW hc (by omega)) (by decide),aW (by omega),bi (by omega),ai (by omega) (by omega),
     show tkN es (a+2) 2=((tkN es (a+2) 2).toNat:Nat)by omega,<- hl,CA (by omega) (Nat.le_refl _) (by omega),hd]
  . have hd:hdN es a=3:=if_neg hf
    obtain⟨t1,t2⟩:=aX h4 (a+2) 1
    have t3:(256:Int) ^ 1=256:=by decide
    have hl:lnN es a=(tkN es (a+2) 1).toNat:=by unfold lnN;rw[hd]
    rw[show(cz .u8 (dg es a) 16 !=0)=false by simpa using hf,cF,pi hc (uW hc (by omega)) (by decide),aW (by omega),bi (by omega),ai (by omega) (by omega),
     show tkN es (a+2) 1=((tkN es (a+2) 1).toNat:Nat)by omega,<- hl,CA (by omega) (Nat.le_refl _) (by omega),hd]
 rw[CQ,pi hc (uW hc (by omega)) (by decide),e1,pi hc (uW hc (by omega)) (by decide),e2,n1,key]
 unfold rE
 rw[n1,e1,n2,yg h4,yg h4]
 rfl
theorem FU     (ho:¬ okN es a n):∃ f g c r',opn κn Tryz.f98 [.ptr 0 0] (rH (RD a n) n es)= .ret (.tup [.agg [.ptr 2 0,.int .i64 a,.int .u8 f,.int .u8 g],.bool false]) [(0,some (rC r' n)),(2,some c)]:=by
 have h4:=hc.2.2.2
 have h3:=hc.2.2.1
 have h1:=hc.1
 have e1:(RD a n).adv 1=RD (a+1) n:=aW (by omega)
 have n1:(RD a n).num es 1=dg es a:=by rw[bi (by omega),tk1]
 have hr1:=uW hc (s:=a) (by omega)
 rw[CQ,pi hc hr1 (by decide),pi hc (hr1.adv 1) (by decide),n1,yg h4]
 have hr2:=(hr1.adv 1).adv 1
 have fin:∀ c (r':Rd),r'.err=4->∃ f g c' r'',rE (RD a n) n es c r'= .ret (.tup [.agg [.ptr 2 0,.int .i64 a,.int .u8 f,.int .u8 g],.bool false]) [(0,some (rC r'' n)),(2,some c')]:=by
  intro c r' hr
  refine⟨w8 ((RD a n).num es 1),w8 (((RD a n).adv 1).num es 1),c,r',?_⟩
  unfold rE
  rw[hr];rfl
 have body:∀ k:Nat,(k=1\/k=2)->hdN es a=k+2->∃ f g c r',rdC (((RD a n).adv 1).adv 1) n es k (pq   ((((RD a n).adv 1).adv 1).adv k) n (IntKind.i64.wrap ((((RD a n).adv 1).adv 1).num es k)) (rE    (RD a n) n es))=
   .ret (.tup [.agg [.ptr 2 0,.int .i64 a,.int .u8 f,.int .u8 g],.bool false]) [(0,some (rC r' n)),(2,some c)]:=by
  intro k hk hd
  rw[pi hc hr2 (by omega)]
  rw[e1]
  by_cases c2:a+2<=n
  . have e2:(RD (a+1) n).adv 1=RD (a+2) n:=aW (by omega)
    rw[e2]
    by_cases c3:a+2+k<=n
    . obtain⟨t1,t2⟩:=aX h4 (a+2) k
      have t3:(256:Int) ^ k<=65536:=by rcases hk with rfl | rfl <;> decide
      have hl:lnN es a=(tkN es (a+2) k).toNat:=by unfold lnN;rw[hd];rfl
      have hgt:¬ a+2+k+lnN es a<=n:=fun hh=>ho ⟨by omega,by omega⟩
      rw[aW (by omega),bi (by omega),ai (by omega) (by omega),FT (by omega) (by omega) (by omega)]
      exact fin _ _ rfl
    . rw[jO c3,yh rfl]
      exact fin _ _ rfl
  . rw[jO (s:=a+1) (k:=1) (by omega),sR rfl,yh rfl]
    exact fin _ _ rfl
 by_cases hf:cz .u8 (dg es a) 16≠0
 . rw[show(cz .u8 (dg es a) 16 !=0)=true by simpa using hf,cT]
   exact body 2 (.inr rfl) (if_pos hf)
 . rw[show(cz .u8 (dg es a) 16 !=0)=false by simpa using hf,cF]
   exact body 1 (.inl rfl) (if_neg hf)
end
end Go.Proofs.YtnlmhpancboddaaGreat
namespace Go.Proofs.YtnlmhpancboddaaGreat
open Go.Am
set_option maxRecDepth 100000
structure Ds where
 (ori nx med prf orr tk tl tr tg:Int) (hm hp ho:Bool) (path cl cm rch unr:List SV)
def nz:Bool->Nat->List SV->SV
 | true,_,_=>.nils
 | false,e,l=>.psl e l
def dL(pb cb mb:Bool)(d:Ds):List SV:=[.int .i64 d.ori,nz pb 36 d.path,.int .u32 d.nx,.bool d.hm,.int .u32 d.med,.bool d.hp,.int .u32 d.prf,.bool d.ho,.int .u32 d.orr,nz cb 37 d.cl,nz mb 136 d.cm,.int .i64 d.tk,.int .u32 d.tl,.int .u32 d.tr,.int .u32 d.tg,.psl 88 d.rch,.psl 88 d.unr]
abbrev dC(pb cb mb:Bool)(d:Ds):Chunk:=.cells 177 (dL pb cb mb d)
def nmH(r:Rd)(n:Nat)(es:List SV)(sz lim:Int)(f:Nat)(pb cb mb:Bool)(d:Ds):HpL:=
 [(0,rC r n),(1,.seq 5 es),(2,.cells 3 [.int .i64 sz]),(3,.cells 63 [.int .u64 lim]),(4,.cells 205 [.fn (.func f) [] [.ptr 5 0]]),(5,.cells 203 [.ptr 6 0]),(6,dC pb cb mb d)]
def nmA(off fl cd:Int):List SV:=[.agg [.ptr 0 0,.int .i64 off,.int .u8 fl,.int .u8 cd],.ptr 2 0,.ptr 3 0,.ptr 4 0]
noncomputable def nmT(r:Rd)(n:Nat)(es:List SV)(sz:Nat)(lim:Int)(pb cb mb:Bool)(d:Int->Ds):CTree:=
 bif IntKind.i64.wrap (r.end_ - r.at_)!=sz then .ret (.bool false) []else rdC r n es sz (bif decide (r.num es sz > lim)then .ret (.bool false) [(0,some (rC (r.adv sz) n))]else
  .ret (.bool true) [(6,some (dC pb cb mb (d (r.num es sz)))),(0,some (rC (r.adv sz) n))])
def d1(d:Ds)(x:Int):Ds:={d with ori:=IntKind.i64.wrap x}
def d4(d:Ds)(x:Int):Ds:={d with hm:=true,med:=w3 x}
def d5(d:Ds)(x:Int):Ds:={d with hp:=true,prf:=w3 x}
def d9(d:Ds)(x:Int):Ds:={d with ho:=true,orr:=w3 x}
theorem L8(r:Rd)(n:Nat)(es:List SV)(off fl cd:Int)(pb cb mb:Bool)(d:Ds):opn κn Tryz.f135 (nmA off fl cd) (nmH r n es 1 2 112 pb cb mb d)=nmT r n es 1 2 pb cb mb (d1 d):=by
 cases pb <;> cases cb <;> cases mb <;> kernel_rfl
theorem L9(r:Rd)(n:Nat)(es:List SV)(off fl cd:Int)(pb cb mb:Bool)(d:Ds):opn κn Tryz.f135 (nmA off fl cd) (nmH r n es 4 4294967295 115 pb cb mb d)=nmT r n es 4 4294967295 pb cb mb (d4 d):=by
 cases pb <;> cases cb <;> cases mb <;> kernel_rfl
theorem Ma(r:Rd)(n:Nat)(es:List SV)(off fl cd:Int)(pb cb mb:Bool)(d:Ds):opn κn Tryz.f135 (nmA off fl cd) (nmH r n es 4 4294967295 116 pb cb mb d)=nmT r n es 4 4294967295 pb cb mb (d5 d):=by
 cases pb <;> cases cb <;> cases mb <;> kernel_rfl
theorem Mb(r:Rd)(n:Nat)(es:List SV)(off fl cd:Int)(pb cb mb:Bool)(d:Ds):opn κn Tryz.f135 (nmA off fl cd) (nmH r n es 4 4294967295 117 pb cb mb d)=nmT r n es 4 4294967295 pb cb mb (d9 d):=by
 cases pb <;> cases cb <;> cases mb <;> kernel_rfl
end Go.Proofs.YtnlmhpancboddaaGreat
