/- Messages: capabilities. -/
import Derived.Test.YtnlmhpancboddaaGreatPart17
set_option linter.unusedVariables false
set_option linter.unusedSimpArgs false
namespace Go.Proofs.YtnlmhpancboddaaGreat
open Go.Am
set_option maxRecDepth 100000
structure Cs where
 (ev nu rs:Bool) (asn hold id rst:Int) (rsd:Bool)
def oV(s:Cs):List SV:=[.int .u32 s.asn,.int .i64 s.hold,.int .u32 s.id,.int .i64 s.rst,.bool s.rsd]
def csH(s:Cs):HpL:=[(0,.cells 4 [.bool s.ev]),(1,.cells 4 [.bool s.nu]),(2,.cells 39 (oV s)),(3,.cells 4 [.bool s.rs])]
def csU(s:Cs):List (Nat × Option Chunk):=[(0,some (.cells 4 [.bool s.ev])),(1,some (.cells 4 [.bool s.nu])),(2,some (.cells 39 (oV s))),(3,some (.cells 4 [.bool s.rs]))]
def F5:HpL->Option Cs
 | [(0,.cells 4 [.bool ev]),(1,.cells 4 [.bool nu]),(2,.cells 39 [.int .u32 asn,.int .i64 hold,.int .u32 id,.int .i64 rst,.bool rsd]),(3,.cells 4 [.bool rs])]=>some ⟨ev,nu,rs,asn,hold,id,rst,rsd⟩
 | _=>none
theorem CP{H:HpL}{s:Cs}(h:F5 H=some s):H=csH s:=by
 unfold F5 at h
 split at h
 . cases h;rfl
 . cases h
def eo(c:Int)(v:List SV)(s:Cs):Bool × Cs:=
 bif c==1 then(true,{s with ev:=bif s.ev then true else bif decide (v.length=4)then tkN v 0 4==1638470 else false})
 else bif(bif(bif c==65 then decide (v.length=4)else false)then !s.nu else false)then(true,{s with nu:=true,asn:=tkN v 0 4})
 else bif(bif c==64 then !s.rs else false)then(decide (2<=v.length),{s with rs:=true,rst:=fw .i64 (bif decide (2<=v.length)then tkN v 0 2 else 0) 4095,rsd:=fw .i64 (bif decide (2<=v.length)then tkN v 0 2 else 0) 32768 !=0})
 else(true,s)
noncomputable abbrev κcap:=tbl [(47,lT),(48,fx 2),(70,fx 4)]
theorem Mt:KOk Tryz.prog κcap:=ac rT (ac rS (ac rY ok0))
def Mu(c:Int)(v:List SV):List SV:=[.int .u8 c,.psl 5 v,.ptr 0 0,.ptr 1 0,.ptr 2 0,.ptr 3 0]
theorem Mv(c:Int)(v:List SV)(s:Cs):opn κcap Tryz.f72 (Mu c v) (csH s)=wQ v fun r=>
 bif c==1 then(bif s.ev then .ret (.bool true) [(0,some (.cells 4 [.bool true]))]else bif(v.length:Int)==4 then unC r v 4 (fun n _=>.ret (.bool true) [(0,some (.cells 4 [.bool (n==1638470)]))])else .ret (.bool true) [(0,some (.cells 4 [.bool false]))])
 else bif(bif(bif c==65 then(v.length:Int)==4 else false)then !s.nu else false)then unC r v 4 (fun n _=>.ret (.bool true) [(2,some (.cells 39 (oV {s with asn:=w3 n}))),(1,some (.cells 4 [.bool true]))])
 else bif(bif c==64 then !s.rs else false)then unC r v 2 (fun n _=>.ret (.bool (decide ((v.length:Int)>=2))) [(2,some (.cells 39 (oV {s with rst:=fw .i64 (w64 n) 4095,rsd:=fw .i64 (w64 n) 32768 !=0}))),(3,some (.cells 4 [.bool true]))])
 else .ret (.bool true) []:=by kernel_rfl
theorem JJ{q:List SV}{k:Nat}(h:¬ k<=q.length):(RD 0 q.length).num q k=0:=by
 unfold Rd.num Rd.few RD
 rw[show decide ((k:Int) > (q.length:Int) - ((0:Nat):Int))=true from dT0 (by omega)];rfl
theorem yF(s t:Cs):∀ x,ad (csU t) (csH s).get x=(csH t).get x
 | 0=>rfl | 1=>rfl | 2=>rfl | 3=>rfl
 | x+4=>by
  have h2:∀ k,k < 4->Nat.beq k (x+4)=false:=fun k hk=>b8 (by omega)
  simp only[csU,csH,ad,HpL.get,show ¬ (x+4=0)by omega,show ¬ (x+4=1)by omega,show ¬ (x+4=2)by omega,show ¬ (x+4=3)by omega,if_false,h2 0 (by omega),h2 1 (by omega),h2 2 (by omega),h2 3 (by omega),cF]
theorem pO{x k:Nat}:∀ (u:List (Nat × Option Chunk)) (h:HpF),(u.all (fun p=>decide (p.1 < k))=true)->ad u h (x+k)=h (x+k)
 | [],_,_=>rfl
 | p :: u,h,ha=>by
  rw[List.all_cons,bA,decide_eq_true_eq]at ha
  obtain⟨y,c⟩:=p
  rw[ad,pO u _ ha.2,if_neg (show ¬ (x+k=y)by have:y < k:=ha.1;omega)]
theorem HI(s:Cs)(x:Nat):(csH s).get (x+4)=none:=by
 have h2:∀ k,k < 4->Nat.beq k (x+4)=false:=fun k hk=>b8 (by omega)
 simp only[csH,HpL.get,h2 0 (by omega),h2 1 (by omega),h2 2 (by omega),h2 3 (by omega),cF]
theorem kQ{s t:Cs}{u:List (Nat × Option Chunk)}(ha:u.all (fun p=>decide (p.1 < 4))=true)(h0:ad u (csH s).get 0=(csH t).get 0)(h1:ad u (csH s).get 1=(csH t).get 1)(h2:ad u (csH s).get 2=(csH t).get 2)(h3:ad u (csH s).get 3=(csH t).get 3):∀ x,ad u (csH s).get x=(csH t).get x
 | 0=>h0 | 1=>h1 | 2=>h2 | 3=>h3
 | x+4=>by rw[pO u _ ha,HI,HI]
noncomputable def vi:ag:=fun args H=>match args with
 | [.int .u8 c,.psl 5 v,.ptr 0 0,.ptr 1 0,.ptr 2 0,.ptr 3 0]=>match F5 H with
  | some s=>.ite (dec (byl v/\v.length<=1000000)) (.ret (.bool (eo c v s).1) (csU (eo c v s).2)) .fail
  | none=>.fail
 | _=>.fail
theorem Mw   :Known Tryz.prog 72 vi   :=j9        (aj        Mt    Tryz.func72 rfl) (by
 intro args H v' ups' h
 unfold vi at h
 split at h
 . rename_i c v
   split at h
   . rename_i s hs
     rw[aa]at h
     cases hc:dec (byl v/\v.length<=1000000)with
     | false=>rw[hc]at h;cases h
     | true=>
      rw[hc,cT]at h
      obtain⟨hb,hl⟩:=dec_iff.1 hc
      rw[CP hs]
      have ht:=Mv c v s
      have ho:=t9 hb hl (s:=0) (by omega)
      rw[lB hl,dX ho,dX ho,dX ho]at ht
      have n4:∀ h4:v.length=4,(RD 0 v.length).num v 4=tkN v 0 4:=fun h4=>aY (by omega)
      have n2:(RD 0 v.length).num v 2=bif decide (2<=v.length)then tkN v 0 2 else 0:=by
       by_cases h2:2<=v.length
       . rw[dT0 h2];exact aY (by omega)
       . rw[dF0 h2];exact JJ h2
      obtain⟨k0,k1⟩:=bT hb.ok 0 4
      obtain⟨j0,j1⟩:=bT hb.ok 0 2
      rw[p2]at j1
      have hL:((v.length:Int)==4)=decide (v.length=4):=by
       by_cases h4:v.length=4
       . rw[dT0 h4,beq_iff_eq];omega
       . rw[dF0 h4,beq_eq_false_iff_ne];omega
      rw[hL,n2]at ht
      have hw2:w64 (bif decide (2<=v.length)then tkN v 0 2 else 0)=bif decide (2<=v.length)then tkN v 0 2 else 0:=by
       cases decide (2<=v.length)
       . rfl
       . exact am (by rw[cT];omega) (by rw[cT];omega)
      rw[hw2]at ht
      have hge:decide ((v.length:Int)>=2)=decide (2<=v.length):=by
       by_cases h2:2<=v.length
       . rw[dT0 h2,dT0 (by omega)]
       . rw[dF0 h2,dF0 (by omega)]
      rw[hge]at ht
      unfold eo at h
      have fin:∀ {b:Bool} {t:Cs} {u:List (Nat × Option Chunk)},opn κcap Tryz.f72 (Mu c v) (csH s)= .ret (.bool b) u->ae (.ret (.bool b) (csU t))=some (v',ups')->(∀ x,ad u (csH s).get x=(csH t).get x)->∃ ups,ae (opn κcap Tryz.f72 [.int .u8 c,.psl 5 v,.ptr 0 0,.ptr 1 0,.ptr 2 0,.ptr 3 0] (csH s))=some (v',ups)/\ad ups' (csH s).get=ad ups (csH s).get:=by
       intro b t u h1 h2 h3
       cases h2
       exact⟨u,congrArg ae h1,funext fun x=>by rw[yF,h3]⟩
      by_cases c1:c=1
      . rw[show(c==1)=true by simpa using c1,cT       ]at ht h
        cases he:s.ev with
        | true=>rw[he]at ht h;exact fin ht h (kQ rfl rfl rfl rfl rfl)
        | false=>
         rw[he,cF]at ht h
         by_cases h4:v.length=4
         . rw[dT0 h4,cT]at ht h
           rw[n4 h4]at ht
           exact fin ht h (kQ rfl rfl rfl rfl rfl)
         . rw[dF0 h4,cF]at ht h
           exact fin ht h (kQ rfl rfl rfl rfl rfl)
      . rw[show(c==1)=false by simpa using c1,cF        ]at ht h
        cases c2:(bif(bif c==65 then decide (v.length=4)else false)then !s.nu else false)with
        | true=>
         rw[c2,cT]at ht h
         have h4:v.length=4:=by
          cases x1:(bif c==65 then decide (v.length=4)else false)with
          | false=>rw[x1]at c2;cases c2
          | true=>
           cases x2:c==65 with
           | false=>rw[x2]at x1;cases x1
           | true=>rw[x2]at x1;exact of_decide_eq_true x1
         have hk:(256:Int) ^ 4=4294967296:=by decide
         rw[hk]at k1
         rw[n4 h4,bS k0 k1]at ht
         exact fin ht h (kQ rfl rfl rfl rfl rfl)
        | false=>
         rw[c2,cF]at ht h
         cases c3:(bif c==64 then !s.rs else false)with
         | true=>rw[c3,cT]at ht h;exact fin ht h (kQ rfl rfl rfl rfl rfl)
         | false=>rw[c3,cF]at ht h;exact fin ht h (kQ rfl rfl rfl rfl rfl)
   . cases h
 . cases h)
def vis(F:Int->List SV->Cs->Bool × Cs):Nat->List SV->Cs->Bool × Cs
 | 0,_,s=>(true,s)
 | f+1,p,s=>
  bif decide (p.length=0)then(true,s)else bif decide ((p.length:Int) < 2)then(false,s)else bif decide ((p.length:Int) < 2+dg p 1)then(false,s)else
  bif(F (dg p 0) (sl p 2 (dg p 1).toNat) s).1 then vis F f (p.drop (2+(dg p 1).toNat)) (F (dg p 0) (sl p 2 (dg p 1).toNat) s).2 else(false,(F (dg p 0) (sl p 2 (dg p 1).toNat) s).2)
def MG(p:List SV):List SV:=[.psl 5 p,.fn (.func 72) [] [.ptr 0 0,.ptr 1 0,.ptr 2 0,.ptr 3 0]]
noncomputable def ng:ag:=fun args H=>match args with
 | [.psl 5 p,.fn (.func 72) [] [.ptr 0 0,.ptr 1 0,.ptr 2 0,.ptr 3 0]]=>match F5 H with
  | some s=>.ite (dec (byl p/\p.length<=1000000)) (.ret (.bool (vis eo p.length p s).1) (csU (vis eo p.length p s).2)) .fail
  | none=>.fail
 | _=>.fail
def vz:List SV->HpL->Nat
 | .psl _ p :: _,_=>p.length
 | _,_=>0
def csR(s:Cs):List (Nat × Option Chunk):=[(3,some (.cells 4 [.bool s.rs])),(2,some (.cells 39 (oV s))),(1,some (.cells 4 [.bool s.nu])),(0,some (.cells 4 [.bool s.ev]))]
noncomputable def l6(p:List SV)(K:CTree):CTree:=bif dec (byl p/\p.length<=1000000)then K else .fail
noncomputable def MH(N:Nat)(p:List SV)(s:Cs)(e:Int):CTree:=
 bif inB 0 p.length then slI p 2 e fun v=>l6 v (bif(eo (dg p 0) v s).1 then slI p e p.length fun q=>(bif Nat.blt q.length N then l6 q (.ret (.bool (vis eo q.length q (eo (dg p 0) v s).2).1) (csR (vis eo q.length q (eo (dg p 0) v s).2).2))else .fail)else .ret (.bool false) (csR (eo (dg p 0) v s).2))else .fail
theorem Kf(N:Nat)(p:List SV)(s:Cs):opn (tbl [(73,az vz ng N),(72,vi)]) Tryz.f73 (MG p) (csH s)=
 bif(p.length:Int)==0 then .ret (.bool true) []else bif decide ((p.length:Int) < 2)then .ret (.bool false) []else bif inB 1 p.length then bif decide ((p.length:Int) < w64 (2+w64 (dg p 1)))then .ret (.bool false) []else
  bif inB 1 p.length then MH N p s (w64 (2+w64 (dg p 1)))else .fail else .fail:=by kernel_rfl
theorem p9(F:Int->List SV->Cs->Bool × Cs):∀ (f:Nat) (p:List SV) (s:Cs),p.length<=f->vis F f p s=vis F p.length p s
 | 0,p,s,h=>by rw[show p.length=0 by omega]
 | f+1,p,s,h=>by
  cases hl:p.length with
  | zero=>unfold vis;rw[hl,dT0 rfl,cT]
  | succ g=>
   have hd:(p.drop (2+(dg p 1).toNat)).length<=g:=by rw[List.length_drop];omega
   conv=>lhs;unfold vis
   conv=>rhs;unfold vis
   rw[hl,p9 F f _ _ (by omega),p9 F g _ _ hd]
def eI(F:Int->List SV->Cs->Bool × Cs)(p:List SV)(s:Cs):Bool × Cs:=vis F p.length p s
theorem js{F:Int->List SV->Cs->Bool × Cs}{p:List SV}{s:Cs}(h:p.length=0):eI F p s=(true,s):=by
 unfold eI;rw[h];rfl
theorem nh{F:Int->List SV->Cs->Bool × Cs}{p:List SV}{s:Cs}(h:p.length≠0):eI F p s=
  bif decide ((p.length:Int) < 2)then(false,s)else bif decide ((p.length:Int) < 2+dg p 1)then(false,s)else
  bif(F (dg p 0) (sl p 2 (dg p 1).toNat) s).1 then eI F (p.drop (2+(dg p 1).toNat)) (F (dg p 0) (sl p 2 (dg p 1).toNat) s).2 else(false,(F (dg p 0) (sl p 2 (dg p 1).toNat) s).2):=by
 unfold eI
 obtain⟨g,hg⟩:∃ g,p.length=g+1:=⟨p.length - 1,by omega⟩
 conv=>lhs;rw[hg];unfold vis
 rw[dF0 h,cF,p9 F g _ _ (by rw[List.length_drop];omega)]
theorem iy{p:List SV}{a b:Int}{i j:Nat}(ha:a=i)(hb:b=j)(h:i<=j)(hj:j<=p.length)(K:List SV->CTree):slI p a b K=K (sl p i (j - i)):=by
 subst ha;subst hb;exact wR h hj K
theorem eA{p:List SV}(h:byl p)(hl:p.length<=1000000)(K:CTree):l6 p K=K:=by
 unfold l6;rw[dec_iff.2 ⟨h,hl⟩,cT]
theorem jt{l:List SV}(h:byl l)(k:Nat):byl (l.drop k):=fun v hv=>h v (List.mem_of_mem_drop hv)
theorem yO(s t:Cs):∀ x,ad (csR t) (csH s).get x=(csH t).get x:=kQ rfl rfl rfl rfl rfl
theorem kR(p:List SV)(k:Nat):sl p k (p.length - k)=p.drop k:=by
 unfold sl;rw[List.take_of_length_le (by rw[List.length_drop];omega)]
theorem Kg    :Known Tryz.prog 73 ng    :=sv        (μ:=vz  ) ⟨Tryz.f73,Tryz.func73,bc       ap       Tryz.func73,rfl⟩ (fun N hN=>j9        (aj        (ac       hN (ac       Mw    ok0)) Tryz.func73 rfl) (by
 intro args H v' ups' h
 replace h:=eP h
 obtain⟨hb,h⟩:=h
 unfold ng at h
 split at h
 . rename_i p
   split at h
   . rename_i s hs
     rw[aa]at h
     cases hc:dec (byl p/\p.length<=1000000)with
     | false=>rw[hc]at h;cases h
     | true=>
      rw[hc,cT]at h
      obtain⟨hp,hl⟩:=dec_iff.1 hc
      rw[CP hs]
      have ht:=Kf N p s
      have hM:Nat.blt p.length (N+1)=true:=hb
      rw[bL]at hM
      have fin:∀ {b:Bool} {t:Cs} {u:List (Nat × Option Chunk)},opn (tbl [(73,az vz ng N),(72,vi)]) Tryz.f73 (MG p) (csH s)= .ret (.bool b) u->ae (.ret (.bool b) (csU t))=some (v',ups')->(∀ x,ad u (csH s).get x=(csH t).get x)->∃ ups,ae (opn (tbl [(73,az vz ng N),(72,vi)]) Tryz.f73 [.psl 5 p,.fn (.func 72) [] [.ptr 0 0,.ptr 1 0,.ptr 2 0,.ptr 3 0]] (csH s))=some (v',ups)/\ad ups' (csH s).get=ad ups (csH s).get:=by
       intro b t u h1 h2 h3
       cases h2
       exact⟨u,congrArg ae h1,funext fun x=>by rw[yF,h3]⟩
      change ae (.ret (.bool (eI eo p s).1) (csU (eI eo p s).2))=_ at h
      by_cases h0:p.length=0
      . rw[js h0]at h
        rw[show((p.length:Int)==0)=true by rw[beq_iff_eq];omega,cT]at ht
        exact fin ht h (fun x=>rfl)
      . rw[nh        h0]at h
        rw[show((p.length:Int)==0)=false by rw[beq_eq_false_iff_ne];omega,cF]at ht
        by_cases h2:(p.length:Int) < 2
        . rw[dT0 h2,cT]at ht h
          exact fin ht h (fun x=>rfl)
        . obtain⟨r1,r2⟩:=hp.ok 1
          have hw:w64 (2+w64 (dg p 1))=2+dg p 1:=by
           rw[show w64 (dg p 1)=dg p 1 from am (by omega) (by omega)];exact am (by omega) (by omega)
          rw[dF0 h2,cF]at ht h
          rw[cR (by omega) (by omega),cT,cT,hw]at ht
          by_cases h3:(p.length:Int) < 2+dg p 1
          . rw[dT0 h3,cT]at ht h
            exact fin ht h (fun x=>rfl)
          . rw[dF0 h3,cF]at ht h
            have hq:(p.drop (2+(dg p 1).toNat)).length=p.length - (2+(dg p 1).toNat):=List.length_drop
            unfold MH at ht
            rw[cR (by omega) (by omega),cT,iy (a:=2) (b:=2+dg p 1) (i:=2) (j:=2+(dg p 1).toNat) rfl (by omega) (by omega) (by omega),show 2+(dg p 1).toNat - 2=(dg p 1).toNat by omega,eA (hp.sl _ _) (by rw[eR (by omega)];omega)]at ht
            generalize eo (dg p 0) (sl p 2 (dg p 1).toNat) s=q at *
            cases hq1:q.1 with
            | true=>
             rw[hq1,cT]at ht h
             rw[iy (a:=2+dg p 1) (b:=(p.length:Int)) (i:=2+(dg p 1).toNat) (j:=p.length) (by omega) rfl (by omega) (by omega),kR,show Nat.blt (p.drop (2+(dg p 1).toNat)).length N=true by rw[bL,hq];omega,cT,eA (jt hp _) (by omega)]at ht
             exact fin ht h (yO s _)
            | false=>
             rw[hq1,cF]at ht h
             exact fin ht h (yO s _)
   . cases h
 . cases h))
def csO(s:Cs):HpL:=[(0,.cells 159 [.fn (.func 72) [] [.ptr 1 0,.ptr 2 0,.ptr 3 0,.ptr 4 0]]),(1,.cells 4 [.bool s.ev]),(2,.cells 4 [.bool s.nu]),(3,.cells 39 (oV s)),(4,.cells 4 [.bool s.rs])]
def csQ(s:Cs):List (Nat × Option Chunk):=[(4,some (.cells 4 [.bool s.rs])),(3,some (.cells 39 (oV s))),(2,some (.cells 4 [.bool s.nu])),(1,some (.cells 4 [.bool s.ev]))]
def csV(s:Cs):List (Nat × Option Chunk):=[(1,some (.cells 4 [.bool s.ev])),(2,some (.cells 4 [.bool s.nu])),(3,some (.cells 39 (oV s))),(4,some (.cells 4 [.bool s.rs]))]
def FI:HpL->Option Cs
 | [(0,.cells 159 [.fn (.func 72) [] [.ptr 1 0,.ptr 2 0,.ptr 3 0,.ptr 4 0]]),(1,.cells 4 [.bool ev]),(2,.cells 4 [.bool nu]),(3,.cells 39 [.int .u32 asn,.int .i64 hold,.int .u32 id,.int .i64 rst,.bool rsd]),(4,.cells 4 [.bool rs])]=>some ⟨ev,nu,rs,asn,hold,id,rst,rsd⟩
 | _=>none
theorem Cr{H:HpL}{s:Cs}(h:FI H=some s):H=csO s:=by
 unfold FI at h
 split at h
 . cases h;rfl
 . cases h
theorem HA(s:Cs)(x:Nat):(csO s).get (x+5)=none:=by
 have h2:∀ k,k < 5->Nat.beq k (x+5)=false:=fun k hk=>b8 (by omega)
 simp only[csO,HpL.get,h2 0 (by omega),h2 1 (by omega),h2 2 (by omega),h2 3 (by omega),h2 4 (by omega),cF]
theorem Ct{s t:Cs}{u:List (Nat × Option Chunk)}(ha:u.all (fun p=>decide (p.1 < 5))=true)(h0:ad u (csO s).get 0=(csO t).get 0)(h1:ad u (csO s).get 1=(csO t).get 1)(h2:ad u (csO s).get 2=(csO t).get 2)(h3:ad u (csO s).get 3=(csO t).get 3)(h4:ad u (csO s).get 4=(csO t).get 4):∀ x,ad u (csO s).get x=(csO t).get x
 | 0=>h0 | 1=>h1 | 2=>h2 | 3=>h3 | 4=>h4
 | x+5=>by rw[pO u _ ha,HA,HA]
theorem sV(s t:Cs):∀ x,ad (csV t) (csO s).get x=(csO t).get x:=Ct rfl rfl rfl rfl rfl rfl
theorem sW(s t:Cs):∀ x,ad (csQ t) (csO s).get x=(csO t).get x:=Ct rfl rfl rfl rfl rfl rfl
def gZ(c:Int)(v:List SV)(s:Cs):Bool × Cs:=bif c==2 then eI eo v s else(false,s)
def N3(c:Int)(v:List SV):List SV:=[.int .u8 c,.psl 5 v,.ptr 0 0]
theorem Mf(c:Int)(v:List SV)(s:Cs):opn (tbl [(73,ng)]) Tryz.f74 (N3 c v) (csO s)=bif c==2 then l6 v (.ret (.bool (eI eo v s).1) (csQ (eI eo v s).2))else .ret (.bool false) []:=by kernel_rfl
noncomputable def vb:ag:=fun args H=>match args with
 | [.int .u8 c,.psl 5 v,.ptr 0 0]=>match FI H with
  | some s=>.ite (dec (byl v/\v.length<=1000000)) (.ret (.bool (gZ c v s).1) (csV (gZ c v s).2)) .fail
  | none=>.fail
 | _=>.fail
theorem Mh   :Known Tryz.prog 74 vb   :=j9        (aj        (ac       Kg     ok0) Tryz.func74 rfl) (by
 intro args H v' ups' h
 unfold vb at h
 split at h
 . rename_i c v
   split at h
   . rename_i s hs
     rw[aa]at h
     cases hc:dec (byl v/\v.length<=1000000)with
     | false=>rw[hc]at h;cases h
     | true=>
      rw[hc,cT]at h
      obtain⟨hb,hl⟩:=dec_iff.1 hc
      rw[Cr hs]
      have ht:=Mf c v s
      rw[eA hb hl]at ht
      unfold gZ at h
      cases c2:c==2 with
      | true=>
       rw[c2,cT]at ht h
       cases h
       exact⟨_,congrArg ae ht,funext fun x=>by rw[sV,sW]⟩
      | false=>
       rw[c2,cF]at ht h
       cases h
       exact⟨_,congrArg ae ht,funext fun x=>sV s s x⟩
   . cases h
 . cases h)
def Mi(p:List SV):List SV:=[.psl 5 p,.fn (.func 74) [] [.ptr 0 0]]
noncomputable def nc:ag:=fun args H=>match args with
 | [.psl 5 p,.fn (.func 74) [] [.ptr 0 0]]=>match FI H with
  | some s=>.ite (dec (byl p/\p.length<=1000000)) (.ret (.bool (eI gZ p s).1) (csV (eI gZ p s).2)) .fail
  | none=>.fail
 | _=>.fail
noncomputable def HB(N:Nat)(p:List SV)(s:Cs)(e:Int):CTree:=
 bif inB 0 p.length then slI p 2 e fun v=>l6 v (bif(gZ (dg p 0) v s).1 then slI p e p.length fun q=>(bif Nat.blt q.length N then l6 q (.ret (.bool (eI gZ q (gZ (dg p 0) v s).2).1) (csQ (eI gZ q (gZ (dg p 0) v s).2).2))else .fail)else .ret (.bool false) (csQ (gZ (dg p 0) v s).2))else .fail
theorem Jx(N:Nat)(p:List SV)(s:Cs):opn (tbl [(73,az vz nc N),(74,vb)]) Tryz.f73 (Mi p) (csO s)=
 bif(p.length:Int)==0 then .ret (.bool true) []else bif decide ((p.length:Int) < 2)then .ret (.bool false) []else bif inB 1 p.length then bif decide ((p.length:Int) < w64 (2+w64 (dg p 1)))then .ret (.bool false) []else
  bif inB 1 p.length then HB N p s (w64 (2+w64 (dg p 1)))else .fail else .fail:=by kernel_rfl
theorem Jy    :Known Tryz.prog 73 nc    :=sv        (μ:=vz  ) ⟨Tryz.f73,Tryz.func73,bc       ap       Tryz.func73,rfl⟩ (fun N hN=>j9        (aj        (ac       hN (ac       Mh    ok0)) Tryz.func73 rfl) (by
 intro args H v' ups' h
 replace h:=eP h
 obtain⟨hb,h⟩:=h
 unfold nc at h
 split at h
 . rename_i p
   split at h
   . rename_i s hs
     rw[aa]at h
     cases hc:dec (byl p/\p.length<=1000000)with
     | false=>rw[hc]at h;cases h
     | true=>
      rw[hc,cT]at h
      obtain⟨hp,hl⟩:=dec_iff.1 hc
      rw[Cr hs]
      have ht:=Jx N p s
      have hM:Nat.blt p.length (N+1)=true:=hb
      rw[bL]at hM
      have fin:∀ {b:Bool} {t:Cs} {u:List (Nat × Option Chunk)},opn (tbl [(73,az vz nc N),(74,vb)]) Tryz.f73 (Mi p) (csO s)= .ret (.bool b) u->ae (.ret (.bool b) (csV t))=some (v',ups')->(∀ x,ad u (csO s).get x=(csO t).get x)->∃ ups,ae (opn (tbl [(73,az vz nc N),(74,vb)]) Tryz.f73 [.psl 5 p,.fn (.func 74) [] [.ptr 0 0]] (csO s))=some (v',ups)/\ad ups' (csO s).get=ad ups (csO s).get:=by
       intro b t u h1 h2 h3
       cases h2
       exact⟨u,congrArg ae h1,funext fun x=>by rw[sV,h3]⟩
      by_cases h0:p.length=0
      . rw[js h0]at h
        rw[show((p.length:Int)==0)=true by rw[beq_iff_eq];omega,cT]at ht
        exact fin ht h (fun x=>rfl)
      . rw[nh        h0]at h
        rw[show((p.length:Int)==0)=false by rw[beq_eq_false_iff_ne];omega,cF]at ht
        by_cases h2:(p.length:Int) < 2
        . rw[dT0 h2,cT]at ht h
          exact fin ht h (fun x=>rfl)
        . obtain⟨r1,r2⟩:=hp.ok 1
          have hw:w64 (2+w64 (dg p 1))=2+dg p 1:=by
           rw[show w64 (dg p 1)=dg p 1 from am (by omega) (by omega)];exact am (by omega) (by omega)
          rw[dF0 h2,cF]at ht h
          rw[cR (by omega) (by omega),cT,cT,hw]at ht
          by_cases h3:(p.length:Int) < 2+dg p 1
          . rw[dT0 h3,cT]at ht h
            exact fin ht h (fun x=>rfl)
          . rw[dF0 h3,cF]at ht h
            have hq:(p.drop (2+(dg p 1).toNat)).length=p.length - (2+(dg p 1).toNat):=List.length_drop
            unfold HB at ht
            rw[cR (by omega) (by omega),cT,iy (a:=2) (b:=2+dg p 1) (i:=2) (j:=2+(dg p 1).toNat) rfl (by omega) (by omega) (by omega),show 2+(dg p 1).toNat - 2=(dg p 1).toNat by omega,eA (hp.sl _ _) (by rw[eR (by omega)];omega)]at ht
            generalize gZ (dg p 0) (sl p 2 (dg p 1).toNat) s=q at *
            cases hq1:q.1 with
            | true=>
             rw[hq1,cT]at ht h
             rw[iy (a:=2+dg p 1) (b:=(p.length:Int)) (i:=2+(dg p 1).toNat) (j:=p.length) (by omega) rfl (by omega) (by omega),kR,show Nat.blt (p.drop (2+(dg p 1).toNat)).length N=true by rw[bL,hq];omega,cT,eA (jt hp _) (by omega)]at ht
             exact fin ht h (sW s _)
            | false=>
             rw[hq1,cF]at ht h
             exact fin ht h (sW s _)
   . cases h
 . cases h))
noncomputable abbrev κro:=tbl [(47,lT),(48,fx 2),(49,fx 1),(70,fx 4),(73,nc)]
theorem Od:KOk Tryz.prog κro:=ac rT (ac rS (ac AF (ac rY (ac Jy ok0))))
def cs0:Cs:=⟨false,false,false,0,0,0,0,false⟩
def opV(s:Cs):SV:=.agg (oV s)
def roR(s:Cs)(e:Int):CTree:=.ret (.tup [opV s,.int .i64 e]) []
noncomputable def roV(p:List SV)(s:Cs):CTree:=slI p 10 p.length fun q=>l6 q ((fun t:Bool × Cs=>bif(bif(bif !t.1 then true else !t.2.ev)then true else !t.2.nu)then roR cs0 3 else roR t.2 0) (eI gZ q s))
noncomputable def roW(p:List SV)(r:Rd)(hold id:Int):CTree:=unC r p 1 fun n r=>bif w64 n !=lfI r then roR cs0 3 else roV p {cs0 with hold:=w64 hold,id:=w3 id}
theorem Oe(p:List SV):opn κro Tryz.f51 [.psl 5 p] []=
 bif decide ((p.length:Int) < 10)then roR cs0 3 else wQ p fun r=>unC r p 1 fun ver r=>bif ver !=4 then roR cs0 15 else unC r p 2 fun _ r=>unC r p 2 fun hold r=>unC r p 4 fun id r=>
  bif w64 hold !=0 then bif decide (w64 hold < 3)then roR cs0 3 else roW p r hold id else roW p r hold id:=by kernel_rfl
def roP(p:List SV):Cs × Int:=
 bif decide (p.length < 10)then(cs0,3)else bif dg p 0 !=4 then(cs0,15)else bif(bif tkN p 3 2 !=0 then decide (tkN p 3 2 < 3)else false)then(cs0,3)else bif dg p 9 !=(p.length:Int) - 10 then(cs0,3)else
 (fun t:Bool × Cs=>bif(bif(bif !t.1 then true else !t.2.ev)then true else !t.2.nu)then(cs0,3)else(t.2,0)) (eI gZ (p.drop 10) {cs0 with hold:=tkN p 3 2,id:=tkN p 5 4})
noncomputable def th:ag:=fun args H=>match args,H with
 | [.psl 5 p],[]=>.ite (dec (byl p/\p.length<=1000000)) (roR (roP p).1 (roP p).2) .fail
 | _,_=>.fail
theorem p4:(256:Int) ^ 4=4294967296:=by decide
theorem Gi     :Known Tryz.prog 51 th     :=(aj        Od   Tryz.func51 rfl).weak (by
 intro args H v ups h
 unfold th at h
 split at h
 . rename_i p
   rw[aa]at h
   cases hc:dec (byl p/\p.length<=1000000)with
   | false=>rw[hc]at h;cases h
   | true=>
    rw[hc,cT]at h
    obtain⟨hb,hl⟩:=dec_iff.1 hc
    refine(congrArg ae (Oe p)).trans ?_
    unfold roP at h
    by_cases h10:p.length < 10
    . rw[dT0 (show(p.length:Int) < 10 by omega),cT]
      rw[dT0 h10]at h
      exact h
    . have ho:∀ s,s<=p.length->OkRd (RD s p.length) p:=fun s hs=>t9   hb hl hs
      obtain⟨a0,a1⟩:=bT hb.ok 3 2
      obtain⟨b0,b1⟩:=bT hb.ok 5 4
      obtain⟨d0,d1⟩:=hb.ok 9
      rw[p2]at a1
      rw[p4]at b1
      have hlf:lfI (RD 10 p.length)=(p.length:Int) - 10:=by
       have:=iR (s:=10) (t:=p.length) (k:=0) (by omega) hl
       rw[Nat.add_zero]at this
       rw[this];omega
      rw[dF0 h10,cF]at h
      rw[dF0 (show ¬ (p.length:Int) < 10 by omega),cF,lB hl,dX (ho 0 (by omega)),aY (by omega),aO (by omega),tk1]
      cases c1:dg p 0 !=4 with
      | true=>rw[c1,cT]at h;exact h
      | false=>
       rw[c1,cF]at h
       rw[cF,dX (ho 1 (by omega)),aO (by omega),dX (ho 3 (by omega)),aY (by omega),aO (by omega),dX (ho 5 (by omega)),aY (by omega),aO (by omega),show w64 (tkN p 3 2)=tkN p 3 2 from am (by omega) (by omega)]
       have hW:roW p (RD 9 p.length) (tkN p 3 2) (tkN p 5 4)=bif dg p 9 !=(p.length:Int) - 10 then roR cs0 3 else(fun t:Bool × Cs=>bif(bif(bif !t.1 then true else !t.2.ev)then true else !t.2.nu)then roR cs0 3 else roR t.2 0) (eI gZ (p.drop 10) {cs0 with hold:=tkN p 3 2,id:=tkN p 5 4}):=by
        unfold roW roV
        rw[dX (ho 9 (by omega)),aY (by omega),aO (by omega),tk1,hlf,show w64 (dg p 9)=dg p 9 from am (by omega) (by omega),show w64 (tkN p 3 2)=tkN p 3 2 from am (by omega) (by omega),bS b0 b1,iy (a:=10) (b:=(p.length:Int)) (i:=10) (j:=p.length) rfl rfl (by omega) (by omega),kR,eA (jt hb _) (by rw[List.length_drop];omega)]
       rw[hW]
       generalize eI gZ (p.drop 10) {cs0 with hold:=tkN p 3 2,id:=tkN p 5 4}=t at *
       have e:∀ x:Bool,ae (roR (bif x then(cs0,(3:Int))else bif dg p 9 !=(p.length:Int) - 10 then(cs0,3)else(bif(bif(bif !t.1 then true else !t.2.ev)then true else !t.2.nu)then(cs0,3)else(t.2,0))).1 (bif x then(cs0,(3:Int))else bif dg p 9 !=(p.length:Int) - 10 then(cs0,3)else(bif(bif(bif !t.1 then true else !t.2.ev)then true else !t.2.nu)then(cs0,3)else(t.2,0))).2)=
         ae (bif x then roR cs0 3 else bif dg p 9 !=(p.length:Int) - 10 then roR cs0 3 else(bif(bif(bif !t.1 then true else !t.2.ev)then true else !t.2.nu)then roR cs0 3 else roR t.2 0)):=fun x=>by
        cases x <;> cases(dg p 9 !=(p.length:Int) - 10) <;> cases(bif(bif !t.1 then true else !t.2.ev)then true else !t.2.nu) <;> rfl
       cases c2:tkN p 3 2 !=0 with
       | true=>
        rw[c2,cT]at h
        rw[cT]
        cases c3:decide (tkN p 3 2 < 3)with
        | true=>rw[c3]at h;exact h
        | false=>rw[c3]at h;exact(e false).symm.trans h
       | false=>
        rw[c2,cF]at h
        exact(e false).symm.trans h
 . cases h)
theorem wh{o:Int × Int × List (Int × Bool) × Dz}{n:Nat}{H:HpL}{v':SV}{ups':List (Nat × Option Chunk)}(h:ae (.ret (rdV (rdO bj o n)) [])=some (v',ups')):∃ v ups,ae (rdK o n)=some (v,ups)/\Am.Told Tryz.prog H v ups v' ups':=by
 have same:∀ {x:Nat} {c':Chunk},ad [] (HpL.get H) x=some c'->∃ c,ad [] (HpL.get H) x=some c/\CoC Tryz.prog x c c':=fun hx=>⟨_,hx,.rfl'⟩
 unfold rdK
 unfold rdO at h
 cases h0:o.1==0 with
 | true=>
  rw[h0,cT]at h
  rw[cT]
  cases h14:bj o.2.2.1 14 with
  | true=>
   rw[h14,cT]at h
   rw[cT,Bool.not_true,cF]
   cases h12:(bif bj o.2.2.1 1 then bj o.2.2.1 2 else false)with
   | true=>
    rw[h12]at h;cases h
    exact⟨_,_,rfl,.rfl',fun x c' hx=>same hx⟩
   | false=>
    rw[h12]at h;cases h
    exact⟨_,_,rfl,.tup (.cons Et (.cons .nils (.cons .nils .rfl'))),fun x c' hx=>same hx⟩
  | false=>
   rw[h14]at h
   cases h
   exact⟨_,_,rfl,.tup (.cons Et (.cons .nils .rfl')),fun x c' hx=>same hx⟩
 | false=>
  rw[h0]at h
  rw[cF,cF,show(o.1 !=0)=true by unfold bne;rw[h0];rfl]
  cases h
  exact⟨_,_,rfl,.tup (.cons Et (.cons .nils (.cons .nils .rfl'))),fun x c' hx=>same hx⟩
theorem M0(l n:Nat)(es:List SV):Nd [.qs 0 1 l n] [(0,.seq 5 es)]=
 bif decide (l+n<=es.length/\n<=1000000)then bif dec (mH 0 0 dI [] (RD 0 n) n (sl es l n)=mH 0 0 dI [] (RD 0 n) n (sl es l n)/\byl (sl es l n)/\n=(sl es l n).length/\n<=1000000)then rdK (gq (sl es l n) n 0 0 [] zI) n else .fail else .fail:=by kernel_rfl
noncomputable abbrev κr9p:=bt Tryz.prog (tbl [(47,lT)]) 300 5
noncomputable abbrev ιr9p:Nat->Bool:=fun g=>inl (tbl [(47,lT)]) g&&bJ Tryz.prog g
noncomputable def H4:ag:=bV Tryz.prog κr9p ιr9p T9 true 300 Tryz.f76 m9
theorem KB:Known Tryz.prog 76 H4:=⟨⟨Tryz.f76,Tryz.func76,bc ap Tryz.func76,rfl⟩,aZ (aG ap ax (ac rT ok0) 300 5) ax (bf ww aE) Tryz.func76 (show Tryz.f76.body=some (aM T9 m9)by kernel_rfl)⟩
theorem M1(es:List SV):H4 [.psl 5 es] []=
 bif decide (es.length<=1000000)then bif dec (mH 0 0 dI [] (RD 0 es.length) es.length es=mH 0 0 dI [] (RD 0 es.length) es.length es/\byl es/\es.length=es.length/\es.length<=1000000)then rdK (gq es es.length 0 0 [] zI) es.length else .fail else .fail:=by kernel_rfl
noncomputable def qn:ag:=fun args H=>match args,H with
 | [.qs 0 1 l n],[(0,.seq 5 es)]=>.ite (dec (byl es/\l+n<=es.length/\es.length<=1000000)) (.ret (rdV (rdQ (sl es l n) n)) []) .fail
 | _,_=>.fail
theorem DY:Known Tryz.prog 76 qn:=bw Nf (by
 intro args H v' ups' h
 unfold qn at h
 split at h
 . rename_i l n es
   rw[aa]at h
   cases hc:dec (byl es/\l+n<=es.length/\es.length<=1000000)with
   | false=>rw[hc]at h;cases h
   | true=>
    rw[hc,cT]at h
    obtain⟨h1,h2,h3⟩:=dec_iff.1 hc
    have ht:=M0 l n es
    rw[dT0 (show l+n<=es.length/\n<=1000000 by omega),cT,dec_iff.2 ⟨rfl,h1.sl _ _,(eR h2).symm,by omega⟩,cT]at ht
    obtain⟨v,ups,e1,e2⟩:=wh (H:=[(0,.seq 5 es)]) h
    exact⟨v,ups,(congrArg ae ht).trans e1,.inr e2⟩
 . cases h)
noncomputable def qo:ag:=fun args H=>match args,H with
 | [.psl 5 es],[]=>.ite (dec (byl es/\es.length<=1000000)) (.ret (rdV (rdQ es es.length)) []) .fail
 | _,_=>.fail
theorem DZ:Known Tryz.prog 76 qo:=bw KB (by
 intro args H v' ups' h
 unfold qo at h
 split at h
 . rename_i es
   rw[aa]at h
   cases hc:dec (byl es/\es.length<=1000000)with
   | false=>rw[hc]at h;cases h
   | true=>
    rw[hc,cT]at h
    obtain⟨h1,h3⟩:=dec_iff.1 hc
    have ht:=M1 es
    rw[dT0 h3,cT,dec_iff.2 ⟨rfl,h1,rfl,h3⟩,cT]at ht
    obtain⟨v,ups,e1,e2⟩:=wh (H:=[]) h
    exact⟨v,ups,(congrArg ae ht).trans e1,.inr e2⟩
 . cases h)
/- Messages. -/
structure Mg where
 (k:Int) (s:Cs) (code sub:Int) (d:Ds)
def mg0:Mg:=⟨0,cs0,0,0,dI0⟩
def atL(d:Ds):List SV:=[.int .i64 d.ori,.psl 36 d.path,.int .u32 d.nx,.bool d.hm,.int .u32 d.med,.bool d.hp,.int .u32 d.prf,.bool d.ho,.int .u32 d.orr,.psl 37 d.cl,.psl 136 d.cm,.int .i64 d.tk,.int .u32 d.tl,.int .u32 d.tr,.int .u32 d.tg]
def mgV(m:Mg):SV:=.agg (.int .i64 m.k :: oV m.s++(.int .i64 m.code :: .int .i64 m.sub :: atL m.d)++[.psl 88 m.d.rch,.psl 88 m.d.unr])
def atZ:List SV:=[.int .i64 0,.nils,.int .u32 0,.bool false,.int .u32 0,.bool false,.int .u32 0,.bool false,.int .u32 0,.nils,.nils,.int .i64 0,.int .u32 0,.int .u32 0,.int .u32 0]
def mgZ(k:Int)(s:Cs)(code sub:Int):SV:=.agg (.int .i64 k :: oV s++(.int .i64 code :: .int .i64 sub :: atZ)++[.nils,.nils])
def mgR(m:SV)(e:Int):CTree:=.ret (.tup [m,.int .i64 e]) []
end Go.Proofs.YtnlmhpancboddaaGreat
