/- New writers; an attribute is put. -/
import Derived.Test.YtnlmhpancboddaaGreatPart14
set_option linter.unusedVariables false
set_option linter.unusedSimpArgs false
namespace Go.Proofs.YtnlmhpancboddaaGreat
open Go.Am
set_option maxRecDepth 100000
theorem N8:opn (tbl []) Tryz.f23 [.int .i64 65535] []= .ret (.tup [.ptr 0 0,.int .i64 0]) [(0,some (.cells 111 [.nils,.int .i64 65535,.mp 1])),(1,some (.mpc [] []))]:=by kernel_rfl
def nwU:List (Nat × Option Chunk):=[(0,some (.cells 111 [.qs 2 1 0 0,.int .i64 65535,.mp 1])),(1,some (.mpc [] [])),(2,some (.seq 5 []))]
def Ge:ag:=fun args H=>match args,H with
 | [.int .i64 65535],[]=>.ret (.tup [.ptr 0 0,.int .i64 0]) nwU
 | _,_=>.fail
theorem MF  :Known Tryz.prog 23 Ge  :=by
 have h:=aj (f:=23) (fn:=Tryz.f23) ok0 Tryz.func23 rfl
 refine⟨h.fn,?_⟩
 intro args H v ups hr hc ω θ Im w us hl hH hfr
 unfold Ge at hr
 split at hr
 . cases hr
   refine(h.ok _ _ _ _ (congrArg ae N8) hc ω θ Im w us hl hH hfr).mono ?_
   rintro o w' ⟨u,θ',Im',rfl,hE,hv,hH'⟩
   let θ2:Th:=fun x=>if x=2 then none else θ' x
   have t2:∀ x,x≠2->θ2 x=θ' x:=fun x hx=>if_neg hx
   have hno:∀ x,θ x=none:=fun x=>hfr x (Nat.zero_le x)
   have h0:=hH'.at_ 0 _ rfl
   have h1:=hH'.at_ 1 _ rfl
   have src:∀ y c,ad   nwU (HpL.get []) y=some c->(y=0/\c= .cells 111 [.qs 2 1 0 0,.int .i64 65535,.mp 1])\/(y=1/\c= .mpc [] [])\/(y=2/\c= .seq 5 []):=by
    intro y c hy
    simp only[nwU,ad]at hy
    split at hy
    . rename_i e;cases hy;exact .inr (.inr ⟨e,rfl⟩)
    . split at hy
      . rename_i e;cases hy;exact .inr (.inl ⟨e,rfl⟩)
      . split at hy
        . rename_i e;cases hy;exact .inl ⟨e,rfl⟩
        . simp[HpL.get]at hy
   have old:∀ y c b N,ad nwU (HpL.get []) y=some c->θ2 y=some (b,N)->∃ c',ad [(0,some (.cells 111 [.nils,.int .i64 65535,.mp 1])),(1,some (.mpc [] []))] (HpL.get []) y=some c'/\θ' y=some (b,N):=by
    intro y c b N hy ht
    rcases src y c hy with ⟨rfl,_⟩ | ⟨rfl,_⟩ | ⟨rfl,_⟩
    . exact⟨_,rfl,ht⟩
    . exact⟨_,rfl,ht⟩
    . cases ht
   refine⟨u,θ2,Im',rfl,?_,?_,?_⟩
   . refine {thOld:=fun x hx=>absurd (Nat.zero_le x) hx,thUp:=fun x p hp=>(by rw[hno x]at hp;cases hp),imUp:=hE.imUp,size:=hE.size,keep:=hE.keep,os:=hE.os,output:=hE.output,tape:=hE.tape,imNew:=hE.imNew,ownNew:=fun y c b N hy hx=> ?_}
     obtain⟨c',h3,h4⟩:=old y c b N hy hx
     exact hE.ownNew y c' b N h3 h4
   . exact hv.ren id (fun x hx p hp=>by
       have:x=0:=by simpa [ak,aF]using hx
       subst this;exact hp)
   . refine⟨fun y c hy=> ?_,fun y y' c c' b N N' hy hy' hx hx'=> ?_,fun y c b N hy hx=> ?_,hH'.im⟩
     . rcases src y c hy with ⟨rfl,rfl⟩ | ⟨rfl,rfl⟩ | ⟨rfl,rfl⟩
       . obtain⟨b,cs,fr,a1,a2,a3,a4⟩:=h0
         refine⟨b,cs,fr,a1,a2,a3,a4.len,fun i v u hi hu=> ?_⟩
         match i,hi with
         | 0,hi=>
          simp at hi;subst hi
          have:=a4.at_ 0 .nils u rfl hu
          cases this;exact .qsnil rfl
         | 1,hi=>simp at hi;subst hi;exact(a4.at_ 1 _ u rfl hu).ren id (fun x hx=>by cases hx)
         | 2,hi=>simp at hi;subst hi;exact(a4.at_ 2 _ u rfl hu).ren id (fun x hx p hp=>by
           have:x=1:=by simpa [ak]using hx
           subst this;exact hp)
       . exact h1.ren id (fun x hx=>by cases hx) rfl
       . exact .inl ⟨rfl,rfl⟩
     . obtain⟨c1,h3,h4⟩:=old y c b N hy hx
       obtain⟨c2,h5,h6⟩:=old y' c' b N' hy' hx'
       exact hH'.inj y y' c1 c2 b N N' h3 h5 h4 h6
     . obtain⟨c1,h3,h4⟩:=old y c b N hy hx
       exact hH'.own y c1 b N h3 h4
 . cases hr
noncomputable abbrev κpW:=tbl [(23,Ge),(84,dz 0),(85,dz 1),(86,dz 2),(87,dz 3),(88,dz 4),(89,dz 5),(90,dz 6),(91,dz 7),(92,dz 8),(93,dz 9),(27,dA 1),(26,dA 2),(24,gy),(28,kz)]
theorem N9:KOk Tryz.prog κpW:=ac MF (ac IO (ac IY (ac IP (ac IQ (ac IR (ac IW (ac IS (ac IT (ac IX (ac IU (ac EL (ac ya (ac oC (ac rA ok0))))))))))))))
def iW(c f:Int)(g:Nat):List SV:=[.ptr 0 0,.ptr 3 0,.agg [.int .u8 c,.int .u8 f,.fn (.func g) [] []]]
def Gf(mm:Nat)(h xs:List SV):CTree:=bif decide (xs.length=xs.length)then bif decide (mm=h.length/\((h.length+xs.length:Nat):Int)<=65535/\(65535:Int)<=65536)then .ret (.int .i64 0) [(3,some (.cells 111 [.qs 6 1 0 (h.length+xs.length),.int .i64 65535,.mp 5])),(4,none),(6,some (.seq 5 (h++xs)))]else .fail else .fail
def hY(f c:Int)(xs:List SV)(w:Bool)(m:Nat)(es:List SV):CTree:=
 bif bif(0:Int)!=0 then true else !w then .ret (.int .i64 0) []else
 bif decide (xs.length=xs.length/\xs.length<=65536)then
  bif decide ((xs.length:Int) > 255)then Wc 1 (w6 (orF f)) m es (Wc 1 (w6 c) (es.length+1) (es++be (w6 (orF f)) 1) (Wc 2 (w6 xs.length) ((es++be (w6 (orF f)) 1).length+1) (es++be (w6 (orF f)) 1++be (w6 c) 1)
   (Gf ((es++be (w6 (orF f)) 1++be (w6 c) 1).length+2) (es++be (w6 (orF f)) 1++be (w6 c) 1++be (w6 xs.length) 2) xs)))
  else Wc 1 (w6 f) m es (Wc 1 (w6 c) (es.length+1) (es++be (w6 f) 1) (Wc 1 (w6 xs.length) ((es++be (w6 f) 1).length+1) (es++be (w6 f) 1++be (w6 c) 1)
   (Gf ((es++be (w6 f) 1++be (w6 c) 1).length+1) (es++be (w6 f) 1++be (w6 c) 1++be (w6 xs.length) 1) xs)))
 else .fail
def aV:Nat->Int
 | 0=>1 | 1=>2 | 2=>4 | 3=>5 | 4=>9 | 5=>10 | 6=>14 | 7=>15 | 8=>16 | _=>22
def cp:Nat->Int
 | 0=>64 | 1=>64 | 2=>128 | 3=>64 | 4=>128 | 5=>128 | 6=>128 | 7=>128 | 8=>192 | _=>192
theorem JT(a:At)(R U:List SV)(kr ku m:Nat)(es:List SV):opn κpW Tryz.f65 (iW 1 64 84) (dH a R U kr ku m es)=bif dec (OkD ⟨a,R,U,kr,ku,0,[]⟩/\(0:Nat)=0/\([]:List SV)=[])then hY 64 1 (bn 0 a R U) (wrB 0 a R U) m es else .fail:=by kernel_rfl
theorem JU(a:At)(R U:List SV)(kr ku m:Nat)(es:List SV):opn κpW Tryz.f65 (iW 2 64 85) (dH a R U kr ku m es)=bif dec (OkD ⟨a,R,U,kr,ku,0,[]⟩/\(0:Nat)=0/\([]:List SV)=[])then hY 64 2 (bn 1 a R U) (wrB 1 a R U) m es else .fail:=by kernel_rfl
theorem JV(a:At)(R U:List SV)(kr ku m:Nat)(es:List SV):opn κpW Tryz.f65 (iW 4 128 86) (dH a R U kr ku m es)=bif dec (OkD ⟨a,R,U,kr,ku,0,[]⟩/\(0:Nat)=0/\([]:List SV)=[])then hY 128 4 (bn 2 a R U) (wrB 2 a R U) m es else .fail:=by kernel_rfl
theorem JW(a:At)(R U:List SV)(kr ku m:Nat)(es:List SV):opn κpW Tryz.f65 (iW 5 64 87) (dH a R U kr ku m es)=bif dec (OkD ⟨a,R,U,kr,ku,0,[]⟩/\(0:Nat)=0/\([]:List SV)=[])then hY 64 5 (bn 3 a R U) (wrB 3 a R U) m es else .fail:=by kernel_rfl
theorem JX(a:At)(R U:List SV)(kr ku m:Nat)(es:List SV):opn κpW Tryz.f65 (iW 9 128 88) (dH a R U kr ku m es)=bif dec (OkD ⟨a,R,U,kr,ku,0,[]⟩/\(0:Nat)=0/\([]:List SV)=[])then hY 128 9 (bn 4 a R U) (wrB 4 a R U) m es else .fail:=by kernel_rfl
theorem JY(a:At)(R U:List SV)(kr ku m:Nat)(es:List SV):opn κpW Tryz.f65 (iW 10 128 89) (dH a R U kr ku m es)=bif dec (OkD ⟨a,R,U,kr,ku,0,[]⟩/\(0:Nat)=0/\([]:List SV)=[])then hY 128 10 (bn 5 a R U) (wrB 5 a R U) m es else .fail:=by kernel_rfl
theorem JZ(a:At)(R U:List SV)(kr ku m:Nat)(es:List SV):opn κpW Tryz.f65 (iW 14 128 90) (dH a R U kr ku m es)=bif dec (OkD ⟨a,R,U,kr,ku,0,[]⟩/\(0:Nat)=0/\([]:List SV)=[])then hY 128 14 (bn 6 a R U) (wrB 6 a R U) m es else .fail:=by kernel_rfl
theorem J0(a:At)(R U:List SV)(kr ku m:Nat)(es:List SV):opn κpW Tryz.f65 (iW 15 128 91) (dH a R U kr ku m es)=bif dec (OkD ⟨a,R,U,kr,ku,0,[]⟩/\(0:Nat)=0/\([]:List SV)=[])then hY 128 15 (bn 7 a R U) (wrB 7 a R U) m es else .fail:=by kernel_rfl
theorem Ka(a:At)(R U:List SV)(kr ku m:Nat)(es:List SV):opn κpW Tryz.f65 (iW 16 192 92) (dH a R U kr ku m es)=bif dec (OkD ⟨a,R,U,kr,ku,0,[]⟩/\(0:Nat)=0/\([]:List SV)=[])then hY 192 16 (bn 8 a R U) (wrB 8 a R U) m es else .fail:=by kernel_rfl
theorem Kb(a:At)(R U:List SV)(kr ku m:Nat)(es:List SV):opn κpW Tryz.f65 (iW 22 192 93) (dH a R U kr ku m es)=bif dec (OkD ⟨a,R,U,kr,ku,0,[]⟩/\(0:Nat)=0/\([]:List SV)=[])then hY 192 22 (bn 9 a R U) (wrB 9 a R U) m es else .fail:=by kernel_rfl
def cX(r:Nat)(a:At)(R U:List SV):List SV:=bif wrB r a R U then atB (cp r) (aV r) (bn r a R U)else []
def j4(es xs:List SV):CTree:=.ret (.int .i64 0) [(3,some (.cells 111 [.qs 6 1 0 (es++xs).length,.int .i64 65535,.mp 5])),(4,none),(6,some (.seq 5 (es++xs)))]
noncomputable def s7:ag:=fun args H=>match args with
 | [.ptr 0 0,.ptr 3 0,.agg [.int .u8 c,.int .u8 f,.fn (.func g) [] []]]=>match dOf H with
  | some d=>.ite (decide (84<=g/\g<=93/\c=aV (g - 84)/\f=cp (g - 84))&&dec (OkD d/\d.m=d.es.length/\(d.es++cX (g - 84) d.a d.R d.U).length<=60000)) (j4 d.es (cX (g - 84) d.a d.R d.U)) .fail
  | none=>.fail
 | _=>.fail
theorem pM{f c:Int}{v:List SV}(h:v.length<=255)(h1:0<=f/\f < 256)(h2:0<=c/\c < 256):atB f c v=be (w6 f) 1++be (w6 c) 1++be (w6 v.length) 1++v:=by
 have e1:w6 f=f:=cf h1.1 (by omega)
 have e2:w6 c=c:=cf h2.1 (by omega)
 have e3:w6 v.length=v.length:=cf (by omega) (by omega)
 unfold atB
 rw[dF0 (by omega),cF,e1,e2,e3,hdS,tX]
 simp only[be,List.cons_append,nA]
 rw[show f / 256 ^ 0 % 256=f by rw[Int.pow_zero,Int.ediv_one];omega,show c / 256 ^ 0 % 256=c by rw[Int.pow_zero,Int.ediv_one];omega,show(v.length:Int) / 256 ^ 0 % 256=(v.length:Int) % 256 by rw[Int.pow_zero,Int.ediv_one]]
theorem rQ{f c:Int}{v:List SV}(h:255 < v.length)(h1:0<=orF f/\orF f < 256)(h2:0<=c/\c < 256):atB f c v=be (w6 (orF f)) 1++be (w6 c) 1++be (w6 v.length) 2++v:=by
 have e1:w6 (orF f)=orF f:=cf h1.1 (by omega)
 have e2:w6 c=c:=cf h2.1 (by omega)
 unfold atB
 rw[dT0 (by omega),cT,e1,e2,hdL]
 simp only[be,List.cons_append,nA]
 rw[show orF f / 256 ^ 0 % 256=orF f by rw[Int.pow_zero,Int.ediv_one];omega,show c / 256 ^ 0 % 256=c by rw[Int.pow_zero,Int.ediv_one];omega]
theorem CM{f c:Int}{xs es:List SV}{w:Bool}(hw:w=true)(hx:(es++atB f c xs).length<=60000)(h1:0<=f/\f < 256)(h2:0<=c/\c < 256)(h3:0<=orF f/\orF f < 256):hY f c xs w es.length es=j4 es (atB f c xs):=by
 subst hw
 have e1:w6 f=f:=cf h1.1 (by omega)
 have e2:w6 c=c:=cf h2.1 (by omega)
 have e3:w6 (orF f)=orF f:=cf h3.1 (by omega)
 have hl:xs.length<=(es++atB f c xs).length:=by
  unfold atB
  cases decide ((xs.length:Int) > 255) <;> simp <;> omega
 have hl2:es.length+xs.length<=60000:=by
  refine Nat.le_trans ?_ hx
  unfold atB
  cases decide ((xs.length:Int) > 255) <;> simp <;> omega
 have e4:w6 xs.length=xs.length:=cf (by omega) (by omega)
 unfold hY
 rw[dT0 (show xs.length=xs.length/\xs.length<=65536 from⟨rfl,by omega⟩)]
 show(bif decide ((xs.length:Int) > 255)then _ else _)=_
 by_cases hs:255 < xs.length
 . rw[dT0 (by omega),cT,rQ hs h3 h2,fE rfl (by rw[e3];omega) (by rw[e3];omega) (by omega),fE (by simp[ah]) (by rw[e2];omega) (by rw[e2];omega) (by simp[ah];omega),fE (by simp[ah]) (by rw[e4];omega) (by rw[e4];omega) (by simp[ah];omega)]
   rw[rQ hs h3 h2]at hx
   simp only[lA0,ah]at hx
   unfold Gf
   rw[dT0 rfl,cT,dT0 ⟨by simp[ah],by simp[ah];omega,by omega⟩,cT,<- lA0]
   simp[j4,aA]
 . rw[dF0 (by omega),cF,pM (by omega) h1 h2,fE rfl (by rw[e1];omega) (by rw[e1];omega) (by omega),fE (by simp[ah]) (by rw[e2];omega) (by rw[e2];omega) (by simp[ah];omega),fE (by simp[ah]) (by rw[e4];omega) (by rw[e4];omega) (by simp[ah];omega)]
   rw[pM (by omega) h1 h2]at hx
   simp only[lA0,ah]at hx
   unfold Gf
   rw[dT0 rfl,cT,dT0 ⟨by simp[ah],by simp[ah];omega,by omega⟩,cT,<- lA0]
   simp[j4,aA]
theorem F0(a:At)(R U:List SV)(kr ku m:Nat)(es:List SV):∀ x,ad [(3,some (.cells 111 [.qs 6 1 0 m,.int .i64 65535,.mp 5])),(4,none),(6,some (.seq 5 es))] (dH a R U kr ku m es).get x=
  if x=6 then(ad [] (dH a R U kr ku m es).get 4).map (br (sw 4 6))else if x=4 then none else(ad [] (dH a R U kr ku m es).get x).map (br (sw 4 6))
 | 0=>rfl | 1=>rfl | 2=>rfl | 3=>rfl | 4=>rfl | 5=>rfl | 6=>rfl
 | x+7=>by
  have h1:∀ k,k < 7->¬ (x+7=k):=fun k hk=>by omega
  have h2:∀ k,k < 7->Nat.beq k (x+7)=false:=fun k hk=>b8 (by omega)
  simp only[ad,dH,HpL.get,h1 3 (by omega),h1 4 (by omega),h1 6 (by omega),if_false,h2 0 (by omega),h2 1 (by omega),h2 2 (by omega),h2 3 (by omega),h2 4 (by omega),h2 5 (by omega),cF,Option.map_none]
theorem Aq(a:At)(R U:List SV)(kr ku m:Nat)(es:List SV):∀ x c,ad [] (dH a R U kr ku m es).get x=some c->6 ∉ aJ c:=by
 intro x c h
 have h:HpL.get (dH a R U kr ku m es) x=some c:=h
 have:=aU _ _ _ h
 simp only[dH,List.mem_cons,pJ,List.not_mem_nil,or_false]at this
 rcases this with ⟨_,rfl⟩ | ⟨_,rfl⟩ | ⟨_,rfl⟩ | ⟨_,rfl⟩ | ⟨_,rfl⟩ | ⟨_,rfl⟩ <;> simp[aJ,aF,ak,dCW]
theorem CN:∀ r:Nat,(0<=cp r/\cp r < 256)/\(0<=aV r/\aV r < 256)/\(0<=orF (cp r)/\orF (cp r) < 256)
 | 0=>by decide | 1=>by decide | 2=>by decide | 3=>by decide | 4=>by decide | 5=>by decide | 6=>by decide | 7=>by decide | 8=>by decide
 | r+9=>by
  have h1:cp (r+9)=192:=rfl
  have h2:aV (r+9)=22:=rfl
  rw[h1,h2];decide
theorem F3(a:At)(R U:List SV)(kr ku m:Nat)(es:List SV):∀ r:Nat,r<=9->opn κpW Tryz.f65 (iW (aV r) (cp r) (84+r)) (dH a R U kr ku m es)=bif dec (OkD ⟨a,R,U,kr,ku,0,[]⟩/\(0:Nat)=0/\([]:List SV)=[])then hY (cp r) (aV r) (bn r a R U) (wrB r a R U) m es else .fail
 | 0,_=>JT a R U kr ku m es | 1,_=>JU a R U kr ku m es | 2,_=>JV a R U kr ku m es | 3,_=>JW a R U kr ku m es | 4,_=>JX a R U kr ku m es
 | 5,_=>JY a R U kr ku m es | 6,_=>JZ a R U kr ku m es | 7,_=>J0 a R U kr ku m es | 8,_=>Ka a R U kr ku m es | 9,_=>Kb a R U kr ku m es
 | r+10,h=>by omega
theorem F4     :Known Tryz.prog 65 s7     :=dq        (aj        N9   Tryz.func65 rfl) (by
 intro args H v ups h
 unfold s7 at h
 split at h
 . rename_i c f g
   split at h
   . rename_i d hd
     rw[aa]at h
     cases hc:(decide (84<=g/\g<=93/\c=aV (g - 84)/\f=cp (g - 84))&&dec (OkD d/\d.m=d.es.length/\(d.es++cX (g - 84) d.a d.R d.U).length<=60000))with
     | false=>rw[hc]at h;cases h
     | true=>
      rw[hc,cT]at h
      rw[bA,decide_eq_true_eq,dec_iff]at hc
      obtain⟨⟨h1,h2,rfl,rfl⟩,ho,hm,hlen⟩:=hc
      have hr:∃ r:Nat,g=84+r/\g - 84=r/\r<=9:=⟨g - 84,(Nat.add_sub_cancel' h1).symm,rfl,Nat.sub_le_of_le_add h2⟩
      obtain⟨r,rfl,hr1,hr9⟩:=hr
      rw[hr1]at h hlen ⊢
      rw[Hu hd,hm]
      have ht:=F3 d.a d.R d.U d.kr d.ku d.es.length d.es r hr9
      have hok:dec (OkD ⟨d.a,d.R,d.U,d.kr,d.ku,0,[]⟩/\(0:Nat)=0/\([]:List SV)=[])=true:=dec_iff.2 ⟨⟨ho.a,ho.R,ho.U,ho.kr,ho.ku⟩,rfl,rfl⟩
      rw[hok,cT]at ht
      obtain⟨f1,f2,f3⟩:=CN r
      cases hw:wrB r d.a d.R d.U with
      | true=>
       left
       have hp:cX r d.a d.R d.U=atB (cp r) (aV r) (bn r d.a d.R d.U):=by unfold cX;rw[hw];rfl
       rw[hp]at h hlen
       rw[CM hw hlen f1 f2 f3]at ht
       refine⟨ups,?_,fun x=>rfl⟩
       rw[<- h]
       exact congrArg ae ht
      | false=>
       right
       have hp:cX r d.a d.R d.U=[]:=by unfold cX;rw[hw];rfl
       rw[hp]at h hlen
       have ht2:opn κpW Tryz.f65 (iW (aV r) (cp r) (84+r)) (dH d.a d.R d.U d.kr d.ku d.es.length d.es)= .ret (.int .i64 0) []:=by rw[ht,hw];rfl
       have h':ae (j4 d.es [])=some (v,ups):=h
       unfold j4 at h'
       rw[List.append_nil]at h'
       cases h'
       exact⟨_,[],congrArg ae ht2,4,6,by simp[dH],by simp[ak],Aq _ _ _ _ _ _ _,rfl,F0 _ _ _ _ _ _ _⟩
   . cases h
 . cases h)
noncomputable abbrev κqW:=tbl [(62,px),(63,wV),(23,Ge),(65,s7),(28,kz)]
theorem N4:KOk Tryz.prog κqW:=ac Ch (ac Je (ac MF (ac F4 (ac rA ok0))))
noncomputable def ot(r:Nat)(a:At)(R U:List SV)(m:Nat)(es:List SV)(K:Nat->List SV->CTree):CTree:=
 bif decide (84<=84+r/\84+r<=93/\aV r=aV (84+r - 84)/\cp r=cp (84+r - 84))&&dec (OkD ⟨a,R,U,R.length,U.length,m,es⟩/\m=es.length/\(es++cX (84+r - 84) a R U).length<=60000)then K (es++cX r a R U).length (es++cX r a R U)else .fail
noncomputable def Cu(a:At)(R U:List SV)(K:Nat->List SV->CTree):CTree:=
 ot 0 a R U 0 [] fun m es=>ot 1 a R U m es fun m es=>ot 2 a R U m es fun m es=>ot 3 a R U m es fun m es=>ot 4 a R U m es fun m es=>
 ot 5 a R U m es fun m es=>ot 6 a R U m es fun m es=>ot 7 a R U m es fun m es=>ot 8 a R U m es fun m es=>ot 9 a R U m es K
def FJ(m:Nat)(xs:List SV):CTree:=bif decide (m=xs.length/\xs.length<=65536)then .ret (.tup [.qs 0 1 0 xs.length,.int .i64 0]) [(0,some (.seq 5 xs))]else .fail
theorem FK(a:At)(r u:List SV):opn κqW Tryz.f39 [a.v,.psl 88 r,.psl 88 u] []=
 bif decide (r.length<=1000/\u.length<=1000)then bif bg a r u !=0 then .ret (.tup [.nils,.int .i64 (bg a r u)]) []else
 bif okR r then bif okR u then Cu a (nbs r) (nbs u) FJ else .fail else .fail else .fail:=by kernel_rfl
def fT(a:At)(R U:List SV):List SV:=[]++cX 0 a R U++cX 1 a R U++cX 2 a R U++cX 3 a R U++cX 4 a R U++cX 5 a R U++cX 6 a R U++cX 7 a R U++cX 8 a R U++cX 9 a R U
theorem DC(r:Nat)(a:At)(R U:List SV):(cX r a R U).length<=(bn r a R U).length+4:=by
 unfold cX
 cases wrB r a R U with
 | true=>exact F7 _ _ _
 | false=>simp
theorem vT{a:At}(h:OkA a)(R U:List SV):∀ r:Nat,(bn r a R U).length<=802+R.length+U.length
 | 0=>by show(be _ 1).length<=_;rw[ah];omega
 | 1=>by
  show(cL a).length<=_
  have:=h.pl
  unfold cL
  cases decide ((a.path.length:Int) > 0) <;> simp[lU,ah];omega
 | 2=>by show(be _ 4).length<=_;rw[ah];omega
 | 3=>by show(be _ 4).length<=_;rw[ah];omega
 | 4=>by show(be _ 4).length<=_;rw[ah];omega
 | 5=>by show(wds _ _ _).length<=_;have:=h.cl;rw[lU];omega
 | 6=>by show(lw a R).length<=_;simp[lw,fam,ah];omega
 | 7=>by show(jR U).length<=_;simp[jR,fam,ah];omega
 | 8=>by show(gp _ _ _).length<=_;have:=h.cm;rw[qW];omega
 | r+9=>by
  show(mP a).length<=_
  unfold mP
  cases(a.tk==3) <;> simp[gR,GY,ah] <;> omega
theorem zm{a:At}(h:OkA a)(R U:List SV)(r:Nat):(cX r a R U).length<=806+R.length+U.length:=by
 have:=DC r a R U
 have:=vT h R U r
 omega
theorem fj{r:Nat}{a:At}{R U:List SV}{m:Nat}{es:List SV}{K:Nat->List SV->CTree}(h:OkA a)(hR:R.length<=1700)(hU:U.length<=1700)(hr:r<=9)(hm:m=es.length)(he:es.length<=40000):ot r a R U m es K=K (es++cX r a R U).length (es++cX r a R U):=by
 have hp:=zm h R U r
 unfold ot
 have e:84+r - 84=r:=by omega
 rw[dT0 (show 84<=84+r/\84+r<=93/\aV r=aV (84+r - 84)/\cp r=cp (84+r - 84)by rw[e];exact⟨by omega,by omega,rfl,rfl⟩)]
 rw[dec_iff.2 ⟨(⟨h,by show R.length<=40000;omega,by show U.length<=40000;omega,rfl,rfl⟩:OkD ⟨a,R,U,R.length,U.length,m,es⟩),hm,by rw[e,lA0];omega⟩]
 rfl
theorem Gz{a:At}{R U:List SV}(h:OkA a)(hR:R.length<=1700)(hU:U.length<=1700):Cu a R U FJ= .ret (.tup [.qs 0 1 0 (fT a R U).length,.int .i64 0]) [(0,some (.seq 5 (fT a R U)))]:=by
 have hp:=zm h R U
 have h0:=hp 0;have h1:=hp 1;have h2:=hp 2;have h3:=hp 3;have h4:=hp 4;have h5:=hp 5;have h6:=hp 6;have h7:=hp 7;have h8:=hp 8;have h9:=hp 9
 unfold Cu
 rw[fj h hR hU (by omega) (show 0=([]:List SV).length from rfl) (by simp)]
 rw[fj h hR hU (by omega) rfl (by simp only[lA0,List.length_nil];omega)]
 rw[fj h hR hU (by omega) rfl (by simp only[lA0,List.length_nil];omega)]
 rw[fj h hR hU (by omega) rfl (by simp only[lA0,List.length_nil];omega)]
 rw[fj h hR hU (by omega) rfl (by simp only[lA0,List.length_nil];omega)]
 rw[fj h hR hU (by omega) rfl (by simp only[lA0,List.length_nil];omega)]
 rw[fj h hR hU (by omega) rfl (by simp only[lA0,List.length_nil];omega)]
 rw[fj h hR hU (by omega) rfl (by simp only[lA0,List.length_nil];omega)]
 rw[fj h hR hU (by omega) rfl (by simp only[lA0,List.length_nil];omega)]
 rw[fj h hR hU (by omega) rfl (by simp only[lA0,List.length_nil];omega)]
 show FJ (fT a R U).length (fT a R U)=_
 unfold FJ
 rw[dT0 ⟨rfl,by unfold fT;simp only[lA0,List.length_nil];omega⟩]
 rfl
theorem kb(l:List SV):2 * l.length<=(nbs l).length/\(nbs l).length<=42 * l.length:=by
 have:∀ (k:Nat) (i:Int),2 * k<=(cy k l i).length/\(cy k l i).length<=42 * k:=by
  intro k
  induction k with
  | zero=>intro i;simp[cy]
  | succ k ih=>
   intro i
   have h1:=ih (i+1)
   have h2:=B3 (rt l i)
   have h3:2<=(nb (rt l i)).length:=by
    unfold nb
    cases(rt l i).kind==1 <;> cases(rt l i).kind==2 <;> cases(rt l i).kind==3 <;> cases(rt l i).kind==4 <;> simp[ey]
   rw[cy,lA0]
   omega
 exact this l.length 0
structure Fit (a:At) (r u:List SV):Prop where
 rl:r.length<=40
 ul:u.length<=40
 ok:bg a r u=0->OkA a/\okR r=true/\okR u=true
noncomputable def ib:ag:=fun args H=>match args,H with
 | [x,.psl 88 r,.psl 88 u],[]=>match AX x with
  | some a=>.ite (dec (Fit a r u)) (.ite (bg a r u !=0) (.ret (.tup [.nils,.int .i64 (bg a r u)]) []) (.ret (.tup [.qs 0 1 0 (fT a (nbs r) (nbs u)).length,.int .i64 0]) [(0,some (.seq 5 (fT a (nbs r) (nbs u))))])) .fail
  | none=>.fail
 | _,_=>.fail
theorem vU         {args:List SV}{H:HpL}{v:SV}{ups:List (Nat × Option Chunk)}(h:ae   (ib       args H)=some (v,ups)):
  ∃ (a:At) (r u:List SV),args=[a.v,.psl 88 r,.psl 88 u]/\H=[]/\Fit a r u/\ae (.ite (bg a r u !=0) (.ret (.tup [.nils,.int .i64 (bg a r u)]) []) (.ret (.tup [.qs 0 1 0 (fT a (nbs r) (nbs u)).length,.int .i64 0]) [(0,some (.seq 5 (fT a (nbs r) (nbs u))))]))=some (v,ups):=by
 unfold ib at h
 split at h
 . rename_i x r u
   split at h
   . rename_i a ha
     rw[aa]at h
     cases hc:dec (Fit a r u)with
     | false=>rw[hc]at h;cases h
     | true=>
      rw[hc]at h
      exact⟨a,r,u,by rw[xH ha],rfl,dec_iff.1 hc,h⟩
   . cases h
 . cases h
theorem bytes_k6:Known Tryz.prog 39 ib:=(aj N4 Tryz.func39 rfl).weak (by
 intro args H v ups h
 obtain⟨a,r,u,rfl,rfl,hf,h⟩:=vU h
 have h1:=hf.rl;have h2:=hf.ul
 rw[<- h,FK,dT0 (by omega),cT,aa,bu]
 cases hk:bg a r u !=0 with
 | true=>rfl
 | false=>
  have h0:bg a r u=0:=by simpa using hk
  obtain⟨o1,o2,o3⟩:=hf.ok h0
  have l1:=kb r
  have l2:=kb u
  rw[cF,cF,o2,o3,cT,cT,Gz o1 (by omega) (by omega)])
end Go.Proofs.YtnlmhpancboddaaGreat
namespace Go.Proofs.YtnlmhpancboddaaGreat
open Go.Am
set_option maxRecDepth 100000
theorem qJ{pre l:List SV}(j:Nat):dg (pre++l) (pre.length+j)=dg l j:=by
 unfold dg
 rw[gD0,List.getElem?_append_right (by omega),gD0,Nat.add_sub_cancel_left]
theorem M4{l m:List SV}{j:Nat}(h:j < l.length):dg (l++m) j=dg l j:=by
 unfold dg
 rw[gD0,List.getElem?_append_left h,gD0]
theorem p2n:(256:Int) ^ 2=65536:=by decide
def GT(f:Int):Prop:=f=64\/f=128\/f=192
theorem Ef{f:Int}(h:GT f):fw .u8 f 16=0:=by rcases h with rfl | rfl | rfl <;> rfl
theorem GU{f:Int}(h:GT f):fw .u8 (orF f) 16≠0:=by rcases h with rfl | rfl | rfl <;> decide
theorem Eg{f c:Int}{v:List SV}(h:v.length > 255):atB f c v=hdL f c++(be (IntKind.u64.wrap v.length) 2++v):=by
 unfold atB;rw[dT0 (show(v.length:Int) > 255 by omega),cT,aA]
theorem A2{f c:Int}{v:List SV}(h:¬ v.length > 255):atB f c v=hdS f c (IntKind.u8.wrap v.length)++v:=by
 unfold atB;rw[dF0 (show ¬ (v.length:Int) > 255 by omega)];rfl
theorem Eh{pre post v es:List SV}{f c:Int}(hes:es=pre++(atB f c v++post))(hf:GT f)(hv:v.length<=65535):
  cz es pre.length=c/\(dg es pre.length=f\/dg es pre.length=orF f)/\vE es pre.length=pre.length+(atB f c v).length/\okN es pre.length es.length/\vl es (vS es pre.length) (vE es pre.length)=v/\pre.length < es.length:=by
 by_cases h:v.length > 255
 . rw[Eg h]at hes ⊢
   have hlen:(hdL f c++(be (IntKind.u64.wrap v.length) 2++v)).length=4+v.length:=by simp[hdL,ah];omega
   have d0:dg es pre.length=orF f:=by rw[hes];exact qJ (pre:=pre) 0
   have d1:cz es pre.length=c:=by unfold cz;rw[hes,qJ];rfl
   have hh:hdN es pre.length=4:=by unfold hdN;rw[d0,if_pos (GU hf)]
   have hw:IntKind.u64.wrap v.length=v.length:=cf (by omega) (by omega)
   have hl:lnN es pre.length=v.length:=by
    unfold lnN
    rw[hh]
    have:=aW (xs:=es) (pre:=pre++hdL f c) (post:=v++post) (n:=(v.length:Int)) (k:=2) (s:=pre.length+2) (by rw[hes,hw];simp[aA]) (by simp[hdL]) (by omega) (by rw[p2n];omega)
    rw[show 4 - 2=2 from rfl,this];rfl
   have hE:vE es pre.length=pre.length+(4+v.length):=by unfold vE;rw[hh,hl];omega
   have hL:es.length=pre.length+(4+v.length+post.length):=by rw[hes,lA0,lA0,hlen]
   refine⟨d1,.inr d0,by rw[hE,hlen],⟨by rw[hh];omega,by rw[hh,hl];omega⟩,?_,by omega⟩
   unfold vl sl vS
   rw[hE,hh,hes,show pre.length+(4+v.length) - (pre.length+4)=v.length by omega,<- List.drop_drop,List.drop_left]
   show((hdL f c++(be (IntKind.u64.wrap v.length) 2++v)++post).drop 4).take v.length=v
   rw[show hdL f c++(be (IntKind.u64.wrap v.length) 2++v)++post=(hdL f c++be (IntKind.u64.wrap v.length) 2)++(v++post)by simp[aA],show 4=(hdL f c++be (IntKind.u64.wrap v.length) 2).length by simp[hdL,ah],List.drop_left,List.take_left]
 . rw[A2 h]at hes ⊢
   have hlen:(hdS f c (IntKind.u8.wrap v.length)++v).length=3+v.length:=by simp[hdS];omega
   have d0:dg es pre.length=f:=by rw[hes];exact qJ (pre:=pre) 0
   have d1:cz es pre.length=c:=by unfold cz;rw[hes,qJ];rfl
   have hh:hdN es pre.length=3:=by unfold hdN;rw[d0,if_neg (by rw[Ef hf];decide)]
   have hl:lnN es pre.length=v.length:=by
    unfold lnN
    rw[hh,show 3 - 2=1 from rfl,tk1,hes,qJ]
    show(IntKind.u8.wrap (v.length:Int)).toNat=v.length
    rw[ME (by omega) (by omega)];rfl
   have hE:vE es pre.length=pre.length+(3+v.length):=by unfold vE;rw[hh,hl];omega
   have hL:es.length=pre.length+(3+v.length+post.length):=by rw[hes,lA0,lA0,hlen]
   refine⟨d1,.inl d0,by rw[hE,hlen],⟨by rw[hh];omega,by rw[hh,hl];omega⟩,?_,by omega⟩
   unfold vl sl vS
   rw[hE,hh,hes,show pre.length+(3+v.length) - (pre.length+3)=v.length by omega,<- List.drop_drop,List.drop_left]
   show((hdS f c (IntKind.u8.wrap v.length)++v++post).drop 3).take v.length=v
   rw[aA,show 3=(hdS f c (IntKind.u8.wrap v.length)).length from rfl,List.drop_left,List.take_left]
theorem GV(r:Nat)(hr:r<=9):GT (cp r)/\knC (aV r)=true/\oe (aV r) (cp r)=true/\oe (aV r) (orF (cp r))=true:=by
 have:∀ r,r<=9->(cp r=64\/cp r=128\/cp r=192)/\knC (aV r)=true/\oe (aV r) (cp r)=true/\oe (aV r) (orF (cp r))=true:=by decide
 exact this r hr
section
variable {σ:Type} {lk:σ->Int->Bool} {st:σ->Int->σ}
theorem KS{pre post v es:List SV}{r:Nat}(hr:r<=9)(hes:es=pre++(atB (cp r) (aV r) v++post))(hv:v.length<=65535){x:Int}{s:σ}{z:Dz}(hl:lk s (aV r)=false)(hok:okC (aV r) v=true):
  fF lk st es es.length pre.length x s z=fF lk st es es.length (pre++atB (cp r) (aV r) v).length pre.length (st s (aV r)) (gC (aV r) v z):=by
 obtain⟨f1,f2,f3,f4⟩:=GV r hr
 obtain⟨p1,p2n,p3,p4n,p5,p6⟩:=Eh hes f1 hv
 have hfit:oe (cz es pre.length) (dg es pre.length)=true:=by rw[p1];rcases p2n with h | h <;> rw[h] <;> assumption
 have h:=yi (lk:=lk) (st:=st) (at_:=x) (s:=s) (z:=z) p6 p4n (by rw[p1];exact f2) hfit (by rw[p1];exact hl) (by rw[p1,p5];exact hok)
 rw[h,p1,p5,p3,lA0]
theorem GW{pre post es:List SV}{r:Nat}{a:At}{R U:List SV}(hr:r<=9)(hes:es=pre++(cX r a R U++post))(hv:(bn r a R U).length<=65535){x:Int}{s:σ}{z:Dz}(hl:lk s (aV r)=false)(hok:wrB r a R U=true->okC (aV r) (bn r a R U)=true):
  ∃ y,fF lk st es es.length pre.length x s z=fF lk st es es.length (pre++cX r a R U).length y (bif wrB r a R U then st s (aV r)else s) (bif wrB r a R U then gC (aV r) (bn r a R U) z else z):=by
 cases hw:wrB r a R U with
 | true=>
  have hp:cX r a R U=atB (cp r) (aV r) (bn r a R U):=by unfold cX;rw[hw];rfl
  rw[hp]at hes ⊢
  exact⟨_,KS hr hes hv hl (hok hw)⟩
 | false=>
  have hp:cX r a R U=[]:=by unfold cX;rw[hw];rfl
  rw[hp,List.append_nil]
  exact⟨x,rfl⟩
end
end Go.Proofs.YtnlmhpancboddaaGreat
namespace Go.Proofs.YtnlmhpancboddaaGreat
open Go.Am
set_option maxRecDepth 100000
def gG(l:List SV):Prop:=∀ x ∈ l,∃ n:Nl,x=n.v/\RgE n
theorem DQ(n:Nl):Jb n.v=n:=by cases n;rfl
theorem getD_mem{l:List SV}{j:Nat}(h:j < l.length):l.getD j .junk ∈ l:=by
 rw[gD0,List.getElem?_eq_getElem h];exact List.getElem_mem h
theorem bd{a b:List SV}(ha:byl a)(hb:byl b):byl (a++b):=fun v hv=>by
 rcases List.mem_append.1 hv with h | h
 . exact ha v h
 . exact hb v h
theorem zt{l:List SV}(hg:gG l){i:Int}(h0:0<=i)(h1:i < l.length):l.getD i.toNat .junk=(rt l i).v/\RgE (rt l i):=by
 obtain⟨n,h2,h3⟩:=hg _ (getD_mem (show i.toNat < l.length by omega))
 unfold rt
 rw[h2,DQ]
 exact⟨rfl,h3⟩
theorem nq{l:List SV}(hg:gG l):∀ (k:Nat) (i:Int),0<=i->i+k<=l.length->byl (cy k l i)
 | 0,_,_,_=>fun v hv=>by cases hv
 | k+1,i,h0,h1=>bd (Cf (zt hg h0 (by omega)).2) (nq hg k (i+1) (by omega) (by omega))
theorem DR{l:List SV}(hg:gG l):∀ (k:Nat) (i b:Int) (rs:List SV),0<=i->i+k<=l.length->lK k l i=true->rs.length+k<=4096->gt (cy k l i) b rs=(0,0,rs++(l.drop i.toNat).take k)
 | 0,i,b,rs,_,_,_,_=>by rw[ph rfl];simp
 | k+1,i,b,rs,h0,h1,ho,hr=>by
  obtain⟨g1,g2⟩:=zt hg h0 (by omega)
  rw[lK,bA,decide_eq_true_eq]at ho
  obtain⟨⟨o1,o2⟩,o3⟩:=ho
  have hb:=nq hg (k+1) i h0 (by omega)
  have hd:kF (nb (rt l i)) (rt l i):=⟨o1,o2,rfl⟩
  obtain⟨v1,v2,v3,v4,v5⟩:=oL hd
  rw[cy]at hb ⊢
  have hs:szP (nb (rt l i)++cy k l (i+1))=(nb (rt l i)).length:=by
   unfold szP
   rw[if_pos (by rw[lA0];omega),M4 (by omega),v4,lA0]
   omega
  have ht:(nb (rt l i)++cy k l (i+1)).take (nb (rt l i)).length=nb (rt l i):=List.take_left
  have hdr:(nb (rt l i)++cy k l (i+1)).drop (nb (rt l i)).length=cy k l (i+1):=List.drop_left
  rw[m5 hb (by rw[lA0];omega),if_neg (by omega),hs,ht,hdr,ma hd,if_neg (by simp),zf hd,DR hg k (i+1) _ _ (by omega) (by omega) o3 (by rw[lA0,lS];omega),aA]
  congr 3
  rw[show(i+1).toNat=i.toNat+1 by omega,List.drop_eq_getElem_cons (show i.toNat < l.length by omega),List.take_succ_cons,List.singleton_append]
  congr 1
  rw[<- g1,gD0,List.getElem?_eq_getElem (show i.toNat < l.length by omega)];rfl
theorem DS{l:List SV}(hg:gG l)(ho:okR l=true):rdE (nbs l)=0/\rdL (nbs l)=l:=by
 unfold okR at ho
 rw[bA,decide_eq_true_eq]at ho
 have h:=DR hg l.length 0 0 [] (by omega) (by omega) ho.2 (by simp;omega)
 have h2:gt (nbs l) 0 []=(0,0,l):=by
  show gt (cy l.length l 0) 0 []=_
  rw[h];simp
 unfold rdE rdL
 rw[h2]
 exact⟨rfl,rfl⟩
theorem p4n:(256:Int) ^ 4=4294967296:=by decide
def GL(l:List SV):Prop:=∀ x ∈ l,∃ n:Int,x= .int .u32 n/\0<=n/\n < 4294967296
def sh8(l:List SV):Prop:=∀ x ∈ l,∃ b0 b1 b2 b3 b4 b5 b6 b7:Int,x= .agg [.int .u8 b0,.int .u8 b1,.int .u8 b2,.int .u8 b3,.int .u8 b4,.int .u8 b5,.int .u8 b6,.int .u8 b7]
theorem jz{l:List SV}{i:Int}{k:Nat}(h0:0<=i)(h1:i < l.length):(l.drop i.toNat).take (k+1)=l.getD i.toNat .junk :: (l.drop (i+1).toNat).take k:=by
 rw[show(i+1).toNat=i.toNat+1 by omega,List.drop_eq_getElem_cons (show i.toNat < l.length by omega),List.take_succ_cons,gD0,List.getElem?_eq_getElem (show i.toNat < l.length by omega)];rfl
theorem xI{l:List SV}(hs:GL l)(post:List SV):∀ (k:Nat) (i:Int) (pre:List SV),0<=i->i+k<=l.length->wd (pre++(wds k l i++post)) pre.length k=(l.drop i.toNat).take k
 | 0,_,_,_,_=>by simp[wd]
 | k+1,i,pre,h0,h1=>by
  obtain⟨n,e1,e2,e3⟩:=hs _ (getD_mem (show i.toNat < l.length by omega))
  have hw:wdB l i=be n 4:=by
   unfold wdB;rw[e1];show be (w6 n) 4=_;rw[cf e2 (by omega)]
  rw[jz h0 (by omega),wd,wds,hw,e1]
  have ht:tkN (pre++(be n 4++wds k l (i+1)++post)) pre.length 4=n:=aW (pre:=pre) (post:=wds k l (i+1)++post) (by simp[aA]) rfl e2 (by rw[p4n];omega)
  rw[ht]
  congr 1
  have:=xI hs post k (i+1) (pre++be n 4) (by omega) (by omega)
  rw[lA0,ah]at this
  rw[<- this]
  congr 1
  simp[aA]
theorem zu{l:List SV}(hs:sh8 l)(post:List SV):∀ (k:Nat) (i:Int) (pre:List SV),0<=i->i+k<=l.length->cw (pre++(gp k l i++post)) pre.length k=(l.drop i.toNat).take k
 | 0,_,_,_,_=>by simp[cw]
 | k+1,i,pre,h0,h1=>by
  obtain⟨b0,b1,b2,b3,b4,b5,b6,b7,e1⟩:=hs _ (getD_mem (show i.toNat < l.length by omega))
  have hw:cmB l i=[.int .u8 b0,.int .u8 b1,.int .u8 b2,.int .u8 b3,.int .u8 b4,.int .u8 b5,.int .u8 b6,.int .u8 b7]:=by unfold cmB;rw[e1];rfl
  rw[jz h0 (by omega),cw,gp,e1]
  have hsl:sl (pre++(cmB l i++gp k l (i+1)++post)) pre.length 8=cmB l i:=by
   unfold sl
   rw[List.drop_left,aA,show 8=(cmB l i).length by rw[hw];rfl,List.take_left]
  rw[hsl,hw]
  congr 1
  have:=zu hs post k (i+1) (pre++cmB l i) (by omega) (by omega)
  rw[lA0,show(cmB l i).length=8 by rw[hw];rfl]at this
  rw[<- this,hw]
  congr 1
  simp[aA]
end Go.Proofs.YtnlmhpancboddaaGreat
