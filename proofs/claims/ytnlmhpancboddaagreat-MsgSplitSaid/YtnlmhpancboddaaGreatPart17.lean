/- Messages: the head of a message. -/
import Derived.Test.YtnlmhpancboddaaGreatPart16
set_option linter.unusedVariables false
set_option linter.unusedSimpArgs false
namespace Go.Proofs.YtnlmhpancboddaaGreat
open Go.Am
set_option maxRecDepth 100000
theorem p2:(256:Int) ^ 2=65536:=by decide
noncomputable abbrev κhd:=tbl [(47,ly),(48,fj 2),(49,fj 1),(50,pu)]
theorem NH:KOk Tryz.prog κhd:=af rG (af rF (af AK (af CU ok0)))
noncomputable def wy(q:List SV)(K:Rd->CTree):CTree:=bif decide (q.length<=1000000)then K ⟨0,q.length,0,0⟩else .fail
noncomputable def unC(r:Rd)(q:List SV)(k:Nat)(K:Int->Rd->CTree):CTree:=bif dec (OkRd r q/\q.length=q.length)then K (r.num q k) (r.adv k)else .fail
noncomputable def slI(p:List SV)(a b:Int)(K:List SV->CTree):CTree:=bif decide (0<=a)&&decide (a<=b)&&decide (b<=(p.length:Int))then K ((p.drop a.toNat).take (b.toNat - a.toNat))else .fail
noncomputable def slC(p:List SV)(a b:Nat)(K:List SV->CTree):CTree:=slI p a b K
def hr(n e:Int):CTree:=.ret (.tup [.int .i64 n,.int .i64 e]) []
theorem IQ(p:List SV):opn κhd Tryz.f32 [.psl 5 p] []=
 bif decide ((p.length:Int) < 19)then hr 0 0 else slC p 16 19 fun q=>wy q fun r=>unC r q 2 fun sz r=>unC r q 1 fun kd _=>slC p 0 16 fun m=>bif dec (m.length<=1000000)then
  bif !mkd m then hr 0 16 else bif(bif decide (w64 sz < 19)then true else decide (w64 sz > 4096))then hr 0 5 else bif(bif decide (w64 kd < 1)then true else decide (w64 kd > 5))then hr 0 6 else
  bif decide ((p.length:Int) < w64 sz)then hr 0 0 else hr (w64 sz) 0 else .fail:=by kernel_rfl
def hdP(p:List SV):Int × Int:=
 bif decide (p.length < 19)then(0,0)else bif !mkd (p.take 16)then(0,16)else bif(bif decide (tkN p 16 2 < 19)then true else decide (tkN p 16 2 > 4096))then(0,5)else
 bif(bif decide (dg p 18 < 1)then true else decide (dg p 18 > 5))then(0,6)else bif decide ((p.length:Int) < tkN p 16 2)then(0,0)else(tkN p 16 2,0)
theorem k9{q:List SV}(h:q.length<=1000000)(K:Rd->CTree):wy q K=K (RD 0 q.length):=by
 unfold wy;rw[dT0 h];rfl
theorem t9{q:List SV}(hb:byl q)(hl:q.length<=1000000){s:Nat}(hs:s<=q.length):OkRd (RD s q.length) q:=
 ⟨by show(0:Int)<=s;omega,by show(s:Int)<=q.length;omega,by show(q.length:Int)<=q.length;omega,hl,hb.ok⟩
theorem dH{r:Rd}{q:List SV}(h:OkRd r q)(k:Nat)(K:Int->Rd->CTree):unC r q k K=K (r.num q k) (r.adv k):=by
 unfold unC;rw[dec_iff.2 ⟨h,rfl⟩,cT]
theorem wz{p:List SV}{a b:Nat}(h:a<=b)(hb:b<=p.length)(K:List SV->CTree):slC p a b K=K (sl p a (b - a)):=by
 unfold slC slI
 rw[dT0 (show(0:Int)<=a by omega),dT0 (show(a:Int)<=b by omega),dT0 (show(b:Int)<=p.length by omega)]
 rfl
noncomputable def BF:ag:=fun args H=>match args,H with
 | [.psl 5 p],[]=>.ite (dec (byl p/\p.length<=1000000)) (hr (hdP p).1 (hdP p).2) .fail
 | _,_=>.fail
theorem BG    :Known Tryz.prog 32 BF    :=(am        NH   Tryz.func32 rfl).weak (by
 intro args H v ups h
 unfold BF at h
 split at h
 . rename_i p
   rw[aa]at h
   cases hc:dec (byl p/\p.length<=1000000)with
   | false=>rw[hc]at h;cases h
   | true=>
    rw[hc,cT]at h
    obtain⟨hb,hl⟩:=dec_iff.1 hc
    refine(congrArg ac (IQ p)).trans ?_
    by_cases h19:p.length < 19
    . rw[dT0 (show(p.length:Int) < 19 by omega),cT]
      unfold hdP at h
      rw[dT0 h19]at h
      exact h
    . have hq:(sl p 16 3).length=3:=dK     (by omega)
      have hbq:byl (sl p 16 3):=hb.sl _ _
      have hm:sl p 0 16=p.take 16:=rfl
      have t2:tkN (sl p 16 3) 0 2=tkN p 16 2:=by have:=lD (es:=p) (s:=16) (m:=3) (j:=0) 2 (by omega);simpa using this.symm
      have t3:tkN (sl p 16 3) 2 1=dg p 18:=by
       have:=lD (es:=p) (s:=16) (m:=3) (j:=2) 1 (by omega)
       rw[<- this,tk1]
      obtain⟨a0,a1⟩:=aX hb.ok 16 2
      obtain⟨b0,b1⟩:=hb.ok 18
      rw[p2]at a1
      rw[dF (show ¬ (p.length:Int) < 19 by omega),cF,wz (by omega) (by omega),show 19 - 16=3 from rfl,k9 (by omega),dH (t9 hbq (by omega) (by omega)),bi (by omega),aW (by omega),dH (t9 hbq (by omega) (by omega)),bi (by omega),wz (by omega) (by omega),Nat.sub_zero,dec_iff.2 (show(sl p 0 16).length<=1000000 by unfold sl;rw[List.length_take];omega),cT,hm,t2,t3,
       show w64 (tkN p 16 2)=tkN p 16 2 from ai (by omega) (by omega),show w64 (dg p 18)=dg p 18 from ai (by omega) (by omega)]
      unfold hdP at h
      rw[dF h19,cF]at h
      cases c1: !mkd (p.take 16)with
      | true=>rw[c1]at h;exact h
      | false=>
       rw[c1,cF]at h
       rw[cF]
       cases c2:(bif decide (tkN p 16 2 < 19)then true else decide (tkN p 16 2 > 4096))with
       | true=>rw[c2]at h;exact h
       | false=>
        rw[c2,cF]at h
        rw[cF]
        cases c3:(bif decide (dg p 18 < 1)then true else decide (dg p 18 > 5))with
        | true=>rw[c3]at h;exact h
        | false=>
         rw[c3,cF]at h
         rw[cF]
         cases c4:decide ((p.length:Int) < tkN p 16 2) <;> rw[c4]at h <;> exact h
 . cases h)
theorem cells5:Tryz.prog.cellsOf 5=1:=by kernel_rfl
noncomputable def n9:ag:=fun args H=>match args,H with
 | [.psl 5 p],[]=>.ite (dec (byl p/\p.length<=1000000)) (hr (hdP p).1 (hdP p).2) .fail
 | [.qs 0 1 l n],[(0,.seq 5 es)]=>.ite (dec (byl es/\l+n<=es.length/\es.length<=1000000)) (hr (hdP (sl es l n)).1 (hdP (sl es l n)).2) .fail
 | _,_=>.fail
theorem iU{f:FuncId}{s1 s2 s':ag}(h1:Known Tryz.prog f s1)(h2:Known Tryz.prog f s2)(hs:∀ args H v ups,ac (s' args H)=some (v,ups)->ac (s1 args H)=some (v,ups)\/ac (s2 args H)=some (v,ups)):Known Tryz.prog f s':=
 ⟨h1.fn,fun args H v ups h=>by
  rcases hs args H v ups h with h | h
  . exact h1.ok args H v ups h
  . exact h2.ok args H v ups h⟩
noncomputable def xM:ag:=fun args H=>match args,H with
 | [.qs 0 1 l n],[(0,.seq 5 es)]=>.ite (dec (byl es/\l+n<=es.length/\es.length<=1000000)) (hr (hdP (sl es l n)).1 (hdP (sl es l n)).2) .fail
 | _,_=>.fail
theorem Fh:Known Tryz.prog 32 xM:=qO BG (by
 intro args H v ups h
 unfold xM at h
 split at h
 . rename_i l n es
   rw[aa]at h
   cases hc:dec (byl es/\l+n<=es.length/\es.length<=1000000)with
   | false=>rw[hc]at h;cases h
   | true=>
    rw[hc,cT]at h
    obtain⟨hb,hl,hm⟩:=dec_iff.1 hc
    cases h
    refine⟨[],5,es,l,n,1,rfl,rfl,cells5.symm,hl,rfl,rfl,fun _=>rfl,?_⟩
    show ac (.ite (dec (byl (sl es l n)/\(sl es l n).length<=1000000)) (hr (hdP (sl es l n)).1 (hdP (sl es l n)).2) .fail)=_
    rw[aa,dec_iff.2 ⟨hb.sl _ _,by rw[dK hl];omega⟩];rfl
 . cases h)
theorem Fi:Known Tryz.prog 32 n9:=iU BG Fh (by
 intro args H v ups h
 unfold n9 at h
 split at h
 . exact .inl h
 . exact .inr h
 . cases h)
structure Cs where
 (ev nu rs:Bool) (asn hold id rst:Int) (rsd:Bool)
def oV(s:Cs):List SV:=[.int .u32 s.asn,.int .i64 s.hold,.int .u32 s.id,.int .i64 s.rst,.bool s.rsd]
def csH(s:Cs):HpL:=[(0,.cells 4 [.bool s.ev]),(1,.cells 4 [.bool s.nu]),(2,.cells 39 (oV s)),(3,.cells 4 [.bool s.rs])]
def csU(s:Cs):List (Nat × Option Chunk):=[(0,some (.cells 4 [.bool s.ev])),(1,some (.cells 4 [.bool s.nu])),(2,some (.cells 39 (oV s))),(3,some (.cells 4 [.bool s.rs]))]
def F9:HpL->Option Cs
 | [(0,.cells 4 [.bool ev]),(1,.cells 4 [.bool nu]),(2,.cells 39 [.int .u32 asn,.int .i64 hold,.int .u32 id,.int .i64 rst,.bool rsd]),(3,.cells 4 [.bool rs])]=>some ⟨ev,nu,rs,asn,hold,id,rst,rsd⟩
 | _=>none
theorem CP{H:HpL}{s:Cs}(h:F9 H=some s):H=csH s:=by
 unfold F9 at h
 split at h
 . cases h;rfl
 . cases h
def cQ(c:Int)(v:List SV)(s:Cs):Bool × Cs:=
 bif c==1 then(true,{s with ev:=bif s.ev then true else bif decide (v.length=4)then tkN v 0 4==1638470 else false})
 else bif(bif(bif c==65 then decide (v.length=4)else false)then !s.nu else false)then(true,{s with nu:=true,asn:=tkN v 0 4})
 else bif(bif c==64 then !s.rs else false)then(decide (2<=v.length),{s with rs:=true,rst:=cz .i64 (bif decide (2<=v.length)then tkN v 0 2 else 0) 4095,rsd:=cz .i64 (bif decide (2<=v.length)then tkN v 0 2 else 0) 32768 !=0})
 else(true,s)
noncomputable abbrev κcap:=tbl [(47,ly),(48,fj 2),(70,fj 4)]
theorem Mc:KOk Tryz.prog κcap:=af rG (af rF (af rO ok0))
def Md(c:Int)(v:List SV):List SV:=[.int .u8 c,.psl 5 v,.ptr 0 0,.ptr 1 0,.ptr 2 0,.ptr 3 0]
theorem Me(c:Int)(v:List SV)(s:Cs):opn κcap Tryz.f72 (Md c v) (csH s)=wy v fun r=>
 bif c==1 then(bif s.ev then .ret (.bool true) [(0,some (.cells 4 [.bool true]))]else bif(v.length:Int)==4 then unC r v 4 (fun n _=>.ret (.bool true) [(0,some (.cells 4 [.bool (n==1638470)]))])else .ret (.bool true) [(0,some (.cells 4 [.bool false]))])
 else bif(bif(bif c==65 then(v.length:Int)==4 else false)then !s.nu else false)then unC r v 4 (fun n _=>.ret (.bool true) [(2,some (.cells 39 (oV {s with asn:=w3 n}))),(1,some (.cells 4 [.bool true]))])
 else bif(bif c==64 then !s.rs else false)then unC r v 2 (fun n _=>.ret (.bool (decide ((v.length:Int)>=2))) [(2,some (.cells 39 (oV {s with rst:=cz .i64 (w64 n) 4095,rsd:=cz .i64 (w64 n) 32768 !=0}))),(3,some (.cells 4 [.bool true]))])
 else .ret (.bool true) []:=by kernel_rfl
theorem Jk{q:List SV}{k:Nat}(h:¬ k<=q.length):(RD 0 q.length).num q k=0:=by
 unfold Rd.num Rd.few RD
 rw[show decide ((k:Int) > (q.length:Int) - ((0:Nat):Int))=true from dT0 (by omega)];rfl
theorem yk(s t:Cs):∀ x,ad (csU t) (csH s).get x=(csH t).get x
 | 0=>rfl | 1=>rfl | 2=>rfl | 3=>rfl
 | x+4=>by
  have h2:∀ k,k < 4->Nat.beq k (x+4)=false:=fun k hk=>bK (by omega)
  simp only[csU,csH,ad,HpL.get,show ¬ (x+4=0)by omega,show ¬ (x+4=1)by omega,show ¬ (x+4=2)by omega,show ¬ (x+4=3)by omega,if_false,h2 0 (by omega),h2 1 (by omega),h2 2 (by omega),h2 3 (by omega),cF]
theorem pp{x k:Nat}:∀ (u:List (Nat × Option Chunk)) (h:HpF),(u.all (fun p=>decide (p.1 < k))=true)->ad u h (x+k)=h (x+k)
 | [],_,_=>rfl
 | p :: u,h,ha=>by
  rw[List.all_cons,bA,decide_eq_true_eq]at ha
  obtain⟨y,c⟩:=p
  rw[ad,pp u _ ha.2,if_neg (show ¬ (x+k=y)by have:y < k:=ha.1;omega)]
theorem HL(s:Cs)(x:Nat):(csH s).get (x+4)=none:=by
 have h2:∀ k,k < 4->Nat.beq k (x+4)=false:=fun k hk=>bK (by omega)
 simp only[csH,HpL.get,h2 0 (by omega),h2 1 (by omega),h2 2 (by omega),h2 3 (by omega),cF]
theorem kz{s t:Cs}{u:List (Nat × Option Chunk)}(ha:u.all (fun p=>decide (p.1 < 4))=true)(h0:ad u (csH s).get 0=(csH t).get 0)(h1:ad u (csH s).get 1=(csH t).get 1)(h2:ad u (csH s).get 2=(csH t).get 2)(h3:ad u (csH s).get 3=(csH t).get 3):∀ x,ad u (csH s).get x=(csH t).get x
 | 0=>h0 | 1=>h1 | 2=>h2 | 3=>h3
 | x+4=>by rw[pp u _ ha,HL,HL]
noncomputable def va:ag:=fun args H=>match args with
 | [.int .u8 c,.psl 5 v,.ptr 0 0,.ptr 1 0,.ptr 2 0,.ptr 3 0]=>match F9 H with
  | some s=>.ite (dec (byl v/\v.length<=1000000)) (.ret (.bool (cQ c v s).1) (csU (cQ c v s).2)) .fail
  | none=>.fail
 | _=>.fail
theorem Mf   :Known Tryz.prog 72 va   :=jT        (am        Mc    Tryz.func72 rfl) (by
 intro args H v' ups' h
 unfold va at h
 split at h
 . rename_i c v
   split at h
   . rename_i s hs
     rw[aa]at h
     cases hc:dec (byl v/\v.length<=1000000)with
     | false=>rw[hc]at h;cases h
     | true=>
      rw[hc,cT]at h
      obtain⟨hb,hl⟩:=dec_iff.1 hc
      rw[CP hs]
      have ht:=Me c v s
      have ho:=t9 hb hl (s:=0) (by omega)
      rw[k9 hl,dH ho,dH ho,dH ho]at ht
      have n4:∀ h4:v.length=4,(RD 0 v.length).num v 4=tkN v 0 4:=fun h4=>bi (by omega)
      have n2:(RD 0 v.length).num v 2=bif decide (2<=v.length)then tkN v 0 2 else 0:=by
       by_cases h2:2<=v.length
       . rw[dT0 h2];exact bi (by omega)
       . rw[dF h2];exact Jk h2
      obtain⟨k0,k1⟩:=aX hb.ok 0 4
      obtain⟨j0,j1⟩:=aX hb.ok 0 2
      rw[p2]at j1
      have hL:((v.length:Int)==4)=decide (v.length=4):=by
       by_cases h4:v.length=4
       . rw[dT0 h4,beq_iff_eq];omega
       . rw[dF h4,beq_eq_false_iff_ne];omega
      rw[hL,n2]at ht
      have hw2:w64 (bif decide (2<=v.length)then tkN v 0 2 else 0)=bif decide (2<=v.length)then tkN v 0 2 else 0:=by
       cases decide (2<=v.length)
       . rfl
       . exact ai (by rw[cT];omega) (by rw[cT];omega)
      rw[hw2]at ht
      have hge:decide ((v.length:Int)>=2)=decide (2<=v.length):=by
       by_cases h2:2<=v.length
       . rw[dT0 h2,dT0 (by omega)]
       . rw[dF h2,dF (by omega)]
      rw[hge]at ht
      unfold cQ at h
      have fin:∀ {b:Bool} {t:Cs} {u:List (Nat × Option Chunk)},opn κcap Tryz.f72 (Md c v) (csH s)= .ret (.bool b) u->ac (.ret (.bool b) (csU t))=some (v',ups')->(∀ x,ad u (csH s).get x=(csH t).get x)->∃ ups,ac (opn κcap Tryz.f72 [.int .u8 c,.psl 5 v,.ptr 0 0,.ptr 1 0,.ptr 2 0,.ptr 3 0] (csH s))=some (v',ups)/\ad ups' (csH s).get=ad ups (csH s).get:=by
       intro b t u h1 h2 h3
       cases h2
       exact⟨u,congrArg ac h1,funext fun x=>by rw[yk,h3]⟩
      by_cases c1:c=1
      . rw[show(c==1)=true by simpa using c1,cT       ]at ht h
        cases he:s.ev with
        | true=>rw[he]at ht h;exact fin ht h (kz rfl rfl rfl rfl rfl)
        | false=>
         rw[he,cF]at ht h
         by_cases h4:v.length=4
         . rw[dT0 h4,cT]at ht h
           rw[n4 h4]at ht
           exact fin ht h (kz rfl rfl rfl rfl rfl)
         . rw[dF h4,cF]at ht h
           exact fin ht h (kz rfl rfl rfl rfl rfl)
      . rw[show(c==1)=false by simpa using c1,cF        ]at ht h
        cases c2:(bif(bif c==65 then decide (v.length=4)else false)then !s.nu else false)with
        | true=>
         rw[c2,cT]at ht h
         have h4:v.length=4:=by
          cases x1:(bif c==65 then decide (v.length=4)else false)with
          | false=>rw[x1]at c2;cases c2
          | true=>
           cases x2:c==65 with
           | false=>rw[x2]at x1;cases x1
           | true=>rw[x2]at x1;exact of_decide_eq_true x1
         have hk:(256:Int) ^ 4=4294967296:=by decide
         rw[hk]at k1
         rw[n4 h4,bc k0 k1]at ht
         exact fin ht h (kz rfl rfl rfl rfl rfl)
        | false=>
         rw[c2,cF]at ht h
         cases c3:(bif c==64 then !s.rs else false)with
         | true=>rw[c3,cT]at ht h;exact fin ht h (kz rfl rfl rfl rfl rfl)
         | false=>rw[c3,cF]at ht h;exact fin ht h (kz rfl rfl rfl rfl rfl)
   . cases h
 . cases h)
def vis(F:Int->List SV->Cs->Bool × Cs):Nat->List SV->Cs->Bool × Cs
 | 0,_,s=>(true,s)
 | f+1,p,s=>
  bif decide (p.length=0)then(true,s)else bif decide ((p.length:Int) < 2)then(false,s)else bif decide ((p.length:Int) < 2+dg p 1)then(false,s)else
  bif(F (dg p 0) (sl p 2 (dg p 1).toNat) s).1 then vis F f (p.drop (2+(dg p 1).toNat)) (F (dg p 0) (sl p 2 (dg p 1).toNat) s).2 else(false,(F (dg p 0) (sl p 2 (dg p 1).toNat) s).2)
def Mq(p:List SV):List SV:=[.psl 5 p,.fn (.func 72) [] [.ptr 0 0,.ptr 1 0,.ptr 2 0,.ptr 3 0]]
noncomputable def mI:ag:=fun args H=>match args with
 | [.psl 5 p,.fn (.func 72) [] [.ptr 0 0,.ptr 1 0,.ptr 2 0,.ptr 3 0]]=>match F9 H with
  | some s=>.ite (dec (byl p/\p.length<=1000000)) (.ret (.bool (vis cQ p.length p s).1) (csU (vis cQ p.length p s).2)) .fail
  | none=>.fail
 | _=>.fail
def vo:List SV->HpL->Nat
 | .psl _ p :: _,_=>p.length
 | _,_=>0
def csR(s:Cs):List (Nat × Option Chunk):=[(3,some (.cells 4 [.bool s.rs])),(2,some (.cells 39 (oV s))),(1,some (.cells 4 [.bool s.nu])),(0,some (.cells 4 [.bool s.ev]))]
noncomputable def lF(p:List SV)(K:CTree):CTree:=bif dec (byl p/\p.length<=1000000)then K else .fail
noncomputable def Mr(N:Nat)(p:List SV)(s:Cs)(e:Int):CTree:=
 bif inB 0 p.length then slI p 2 e fun v=>lF v (bif(cQ (dg p 0) v s).1 then slI p e p.length fun q=>(bif Nat.blt q.length N then lF q (.ret (.bool (vis cQ q.length q (cQ (dg p 0) v s).2).1) (csR (vis cQ q.length q (cQ (dg p 0) v s).2).2))else .fail)else .ret (.bool false) (csR (cQ (dg p 0) v s).2))else .fail
theorem Jv(N:Nat)(p:List SV)(s:Cs):opn (tbl [(73,ay vo mI N),(72,va)]) Tryz.f73 (Mq p) (csH s)=
 bif(p.length:Int)==0 then .ret (.bool true) []else bif decide ((p.length:Int) < 2)then .ret (.bool false) []else bif inB 1 p.length then bif decide ((p.length:Int) < w64 (2+w64 (dg p 1)))then .ret (.bool false) []else
  bif inB 1 p.length then Mr N p s (w64 (2+w64 (dg p 1)))else .fail else .fail:=by kernel_rfl
theorem pL(F:Int->List SV->Cs->Bool × Cs):∀ (f:Nat) (p:List SV) (s:Cs),p.length<=f->vis F f p s=vis F p.length p s
 | 0,p,s,h=>by rw[show p.length=0 by omega]
 | f+1,p,s,h=>by
  cases hl:p.length with
  | zero=>unfold vis;rw[hl,dT0 rfl,cT]
  | succ g=>
   have hd:(p.drop (2+(dg p 1).toNat)).length<=g:=by rw[List.length_drop];omega
   conv=>lhs;unfold vis
   conv=>rhs;unfold vis
   rw[hl,pL F f _ _ (by omega),pL F g _ _ hd]
def eJ(F:Int->List SV->Cs->Bool × Cs)(p:List SV)(s:Cs):Bool × Cs:=vis F p.length p s
theorem lG{F:Int->List SV->Cs->Bool × Cs}{p:List SV}{s:Cs}(h:p.length=0):eJ F p s=(true,s):=by
 unfold eJ;rw[h];rfl
theorem mJ{F:Int->List SV->Cs->Bool × Cs}{p:List SV}{s:Cs}(h:p.length≠0):eJ F p s=
  bif decide ((p.length:Int) < 2)then(false,s)else bif decide ((p.length:Int) < 2+dg p 1)then(false,s)else
  bif(F (dg p 0) (sl p 2 (dg p 1).toNat) s).1 then eJ F (p.drop (2+(dg p 1).toNat)) (F (dg p 0) (sl p 2 (dg p 1).toNat) s).2 else(false,(F (dg p 0) (sl p 2 (dg p 1).toNat) s).2):=by
 unfold eJ
 obtain⟨g,hg⟩:∃ g,p.length=g+1:=⟨p.length - 1,by omega⟩
 conv=>lhs;rw[hg];unfold vis
 rw[dF h,cF,pL F g _ _ (by rw[List.length_drop];omega)]
theorem eK{p:List SV}{a b:Int}{i j:Nat}(ha:a=i)(hb:b=j)(h:i<=j)(hj:j<=p.length)(K:List SV->CTree):slI p a b K=K (sl p i (j - i)):=by
 subst ha;subst hb;exact wz h hj K
theorem eg{p:List SV}(h:byl p)(hl:p.length<=1000000)(K:CTree):lF p K=K:=by
 unfold lF;rw[dec_iff.2 ⟨h,hl⟩,cT]
theorem jl{l:List SV}(h:byl l)(k:Nat):byl (l.drop k):=fun v hv=>h v (List.mem_of_mem_drop hv)
theorem yw(s t:Cs):∀ x,ad (csR t) (csH s).get x=(csH t).get x:=kz rfl rfl rfl rfl rfl
theorem ia(p:List SV)(k:Nat):sl p k (p.length - k)=p.drop k:=by
 unfold sl;rw[List.take_of_length_le (by rw[List.length_drop];omega)]
theorem Jw    :Known Tryz.prog 73 mI    :=sn        (μ:=vo  ) ⟨Tryz.f73,Tryz.func73,bf       ak       Tryz.func73,rfl⟩ (fun N hN=>jT        (am        (af       hN (af       Mf    ok0)) Tryz.func73 rfl) (by
 intro args H v' ups' h
 replace h:=eD h
 obtain⟨hb,h⟩:=h
 unfold mI at h
 split at h
 . rename_i p
   split at h
   . rename_i s hs
     rw[aa]at h
     cases hc:dec (byl p/\p.length<=1000000)with
     | false=>rw[hc]at h;cases h
     | true=>
      rw[hc,cT]at h
      obtain⟨hp,hl⟩:=dec_iff.1 hc
      rw[CP hs]
      have ht:=Jv N p s
      have hM:Nat.blt p.length (N+1)=true:=hb
      rw[bL]at hM
      have fin:∀ {b:Bool} {t:Cs} {u:List (Nat × Option Chunk)},opn (tbl [(73,ay vo mI N),(72,va)]) Tryz.f73 (Mq p) (csH s)= .ret (.bool b) u->ac (.ret (.bool b) (csU t))=some (v',ups')->(∀ x,ad u (csH s).get x=(csH t).get x)->∃ ups,ac (opn (tbl [(73,ay vo mI N),(72,va)]) Tryz.f73 [.psl 5 p,.fn (.func 72) [] [.ptr 0 0,.ptr 1 0,.ptr 2 0,.ptr 3 0]] (csH s))=some (v',ups)/\ad ups' (csH s).get=ad ups (csH s).get:=by
       intro b t u h1 h2 h3
       cases h2
       exact⟨u,congrArg ac h1,funext fun x=>by rw[yk,h3]⟩
      change ac (.ret (.bool (eJ cQ p s).1) (csU (eJ cQ p s).2))=_ at h
      by_cases h0:p.length=0
      . rw[lG h0]at h
        rw[show((p.length:Int)==0)=true by rw[beq_iff_eq];omega,cT]at ht
        exact fin ht h (fun x=>rfl)
      . rw[mJ        h0]at h
        rw[show((p.length:Int)==0)=false by rw[beq_eq_false_iff_ne];omega,cF]at ht
        by_cases h2:(p.length:Int) < 2
        . rw[dT0 h2,cT]at ht h
          exact fin ht h (fun x=>rfl)
        . obtain⟨r1,r2⟩:=hp.ok 1
          have hw:w64 (2+w64 (dg p 1))=2+dg p 1:=by
           rw[show w64 (dg p 1)=dg p 1 from ai (by omega) (by omega)];exact ai (by omega) (by omega)
          rw[dF h2,cF]at ht h
          rw[bJ (by omega) (by omega),cT,cT,hw]at ht
          by_cases h3:(p.length:Int) < 2+dg p 1
          . rw[dT0 h3,cT]at ht h
            exact fin ht h (fun x=>rfl)
          . rw[dF h3,cF]at ht h
            have hq:(p.drop (2+(dg p 1).toNat)).length=p.length - (2+(dg p 1).toNat):=List.length_drop
            unfold Mr at ht
            rw[bJ (by omega) (by omega),cT,eK (a:=2) (b:=2+dg p 1) (i:=2) (j:=2+(dg p 1).toNat) rfl (by omega) (by omega) (by omega),show 2+(dg p 1).toNat - 2=(dg p 1).toNat by omega,eg (hp.sl _ _) (by rw[dK (by omega)];omega)]at ht
            generalize cQ (dg p 0) (sl p 2 (dg p 1).toNat) s=q at *
            cases hq1:q.1 with
            | true=>
             rw[hq1,cT]at ht h
             rw[eK (a:=2+dg p 1) (b:=(p.length:Int)) (i:=2+(dg p 1).toNat) (j:=p.length) (by omega) rfl (by omega) (by omega),ia,show Nat.blt (p.drop (2+(dg p 1).toNat)).length N=true by rw[bL,hq];omega,cT,eg (jl hp _) (by omega)]at ht
             exact fin ht h (yw s _)
            | false=>
             rw[hq1,cF]at ht h
             exact fin ht h (yw s _)
   . cases h
 . cases h))
def csO(s:Cs):HpL:=[(0,.cells 159 [.fn (.func 72) [] [.ptr 1 0,.ptr 2 0,.ptr 3 0,.ptr 4 0]]),(1,.cells 4 [.bool s.ev]),(2,.cells 4 [.bool s.nu]),(3,.cells 39 (oV s)),(4,.cells 4 [.bool s.rs])]
def csQ(s:Cs):List (Nat × Option Chunk):=[(4,some (.cells 4 [.bool s.rs])),(3,some (.cells 39 (oV s))),(2,some (.cells 4 [.bool s.nu])),(1,some (.cells 4 [.bool s.ev]))]
def csV(s:Cs):List (Nat × Option Chunk):=[(1,some (.cells 4 [.bool s.ev])),(2,some (.cells 4 [.bool s.nu])),(3,some (.cells 39 (oV s))),(4,some (.cells 4 [.bool s.rs]))]
def FN:HpL->Option Cs
 | [(0,.cells 159 [.fn (.func 72) [] [.ptr 1 0,.ptr 2 0,.ptr 3 0,.ptr 4 0]]),(1,.cells 4 [.bool ev]),(2,.cells 4 [.bool nu]),(3,.cells 39 [.int .u32 asn,.int .i64 hold,.int .u32 id,.int .i64 rst,.bool rsd]),(4,.cells 4 [.bool rs])]=>some ⟨ev,nu,rs,asn,hold,id,rst,rsd⟩
 | _=>none
theorem Ct{H:HpL}{s:Cs}(h:FN H=some s):H=csO s:=by
 unfold FN at h
 split at h
 . cases h;rfl
 . cases h
theorem HB(s:Cs)(x:Nat):(csO s).get (x+5)=none:=by
 have h2:∀ k,k < 5->Nat.beq k (x+5)=false:=fun k hk=>bK (by omega)
 simp only[csO,HpL.get,h2 0 (by omega),h2 1 (by omega),h2 2 (by omega),h2 3 (by omega),h2 4 (by omega),cF]
theorem Cu{s t:Cs}{u:List (Nat × Option Chunk)}(ha:u.all (fun p=>decide (p.1 < 5))=true)(h0:ad u (csO s).get 0=(csO t).get 0)(h1:ad u (csO s).get 1=(csO t).get 1)(h2:ad u (csO s).get 2=(csO t).get 2)(h3:ad u (csO s).get 3=(csO t).get 3)(h4:ad u (csO s).get 4=(csO t).get 4):∀ x,ad u (csO s).get x=(csO t).get x
 | 0=>h0 | 1=>h1 | 2=>h2 | 3=>h3 | 4=>h4
 | x+5=>by rw[pp u _ ha,HB,HB]
theorem sN(s t:Cs):∀ x,ad (csV t) (csO s).get x=(csO t).get x:=Cu rfl rfl rfl rfl rfl rfl
theorem sO(s t:Cs):∀ x,ad (csQ t) (csO s).get x=(csO t).get x:=Cu rfl rfl rfl rfl rfl rfl
def fV(c:Int)(v:List SV)(s:Cs):Bool × Cs:=bif c==2 then eJ cQ v s else(false,s)
def N9(c:Int)(v:List SV):List SV:=[.int .u8 c,.psl 5 v,.ptr 0 0]
theorem L0(c:Int)(v:List SV)(s:Cs):opn (tbl [(73,mI)]) Tryz.f74 (N9 c v) (csO s)=bif c==2 then lF v (.ret (.bool (eJ cQ v s).1) (csQ (eJ cQ v s).2))else .ret (.bool false) []:=by kernel_rfl
noncomputable def uV:ag:=fun args H=>match args with
 | [.int .u8 c,.psl 5 v,.ptr 0 0]=>match FN H with
  | some s=>.ite (dec (byl v/\v.length<=1000000)) (.ret (.bool (fV c v s).1) (csV (fV c v s).2)) .fail
  | none=>.fail
 | _=>.fail
theorem L1   :Known Tryz.prog 74 uV   :=jT        (am        (af       Jw     ok0) Tryz.func74 rfl) (by
 intro args H v' ups' h
 unfold uV at h
 split at h
 . rename_i c v
   split at h
   . rename_i s hs
     rw[aa]at h
     cases hc:dec (byl v/\v.length<=1000000)with
     | false=>rw[hc]at h;cases h
     | true=>
      rw[hc,cT]at h
      obtain⟨hb,hl⟩:=dec_iff.1 hc
      rw[Ct hs]
      have ht:=L0 c v s
      rw[eg hb hl]at ht
      unfold fV at h
      cases c2:c==2 with
      | true=>
       rw[c2,cT]at ht h
       cases h
       exact⟨_,congrArg ac ht,funext fun x=>by rw[sN,sO]⟩
      | false=>
       rw[c2,cF]at ht h
       cases h
       exact⟨_,congrArg ac ht,funext fun x=>sN s s x⟩
   . cases h
 . cases h)
def L2(p:List SV):List SV:=[.psl 5 p,.fn (.func 74) [] [.ptr 0 0]]
noncomputable def mF:ag:=fun args H=>match args with
 | [.psl 5 p,.fn (.func 74) [] [.ptr 0 0]]=>match FN H with
  | some s=>.ite (dec (byl p/\p.length<=1000000)) (.ret (.bool (eJ fV p s).1) (csV (eJ fV p s).2)) .fail
  | none=>.fail
 | _=>.fail
noncomputable def HC(N:Nat)(p:List SV)(s:Cs)(e:Int):CTree:=
 bif inB 0 p.length then slI p 2 e fun v=>lF v (bif(fV (dg p 0) v s).1 then slI p e p.length fun q=>(bif Nat.blt q.length N then lF q (.ret (.bool (eJ fV q (fV (dg p 0) v s).2).1) (csQ (eJ fV q (fV (dg p 0) v s).2).2))else .fail)else .ret (.bool false) (csQ (fV (dg p 0) v s).2))else .fail
theorem I9(N:Nat)(p:List SV)(s:Cs):opn (tbl [(73,ay vo mF N),(74,uV)]) Tryz.f73 (L2 p) (csO s)=
 bif(p.length:Int)==0 then .ret (.bool true) []else bif decide ((p.length:Int) < 2)then .ret (.bool false) []else bif inB 1 p.length then bif decide ((p.length:Int) < w64 (2+w64 (dg p 1)))then .ret (.bool false) []else
  bif inB 1 p.length then HC N p s (w64 (2+w64 (dg p 1)))else .fail else .fail:=by kernel_rfl
theorem Ja    :Known Tryz.prog 73 mF    :=sn        (μ:=vo  ) ⟨Tryz.f73,Tryz.func73,bf       ak       Tryz.func73,rfl⟩ (fun N hN=>jT        (am        (af       hN (af       L1    ok0)) Tryz.func73 rfl) (by
 intro args H v' ups' h
 replace h:=eD h
 obtain⟨hb,h⟩:=h
 unfold mF at h
 split at h
 . rename_i p
   split at h
   . rename_i s hs
     rw[aa]at h
     cases hc:dec (byl p/\p.length<=1000000)with
     | false=>rw[hc]at h;cases h
     | true=>
      rw[hc,cT]at h
      obtain⟨hp,hl⟩:=dec_iff.1 hc
      rw[Ct hs]
      have ht:=I9 N p s
      have hM:Nat.blt p.length (N+1)=true:=hb
      rw[bL]at hM
      have fin:∀ {b:Bool} {t:Cs} {u:List (Nat × Option Chunk)},opn (tbl [(73,ay vo mF N),(74,uV)]) Tryz.f73 (L2 p) (csO s)= .ret (.bool b) u->ac (.ret (.bool b) (csV t))=some (v',ups')->(∀ x,ad u (csO s).get x=(csO t).get x)->∃ ups,ac (opn (tbl [(73,ay vo mF N),(74,uV)]) Tryz.f73 [.psl 5 p,.fn (.func 74) [] [.ptr 0 0]] (csO s))=some (v',ups)/\ad ups' (csO s).get=ad ups (csO s).get:=by
       intro b t u h1 h2 h3
       cases h2
       exact⟨u,congrArg ac h1,funext fun x=>by rw[sN,h3]⟩
      by_cases h0:p.length=0
      . rw[lG h0]at h
        rw[show((p.length:Int)==0)=true by rw[beq_iff_eq];omega,cT]at ht
        exact fin ht h (fun x=>rfl)
      . rw[mJ        h0]at h
        rw[show((p.length:Int)==0)=false by rw[beq_eq_false_iff_ne];omega,cF]at ht
        by_cases h2:(p.length:Int) < 2
        . rw[dT0 h2,cT]at ht h
          exact fin ht h (fun x=>rfl)
        . obtain⟨r1,r2⟩:=hp.ok 1
          have hw:w64 (2+w64 (dg p 1))=2+dg p 1:=by
           rw[show w64 (dg p 1)=dg p 1 from ai (by omega) (by omega)];exact ai (by omega) (by omega)
          rw[dF h2,cF]at ht h
          rw[bJ (by omega) (by omega),cT,cT,hw]at ht
          by_cases h3:(p.length:Int) < 2+dg p 1
          . rw[dT0 h3,cT]at ht h
            exact fin ht h (fun x=>rfl)
          . rw[dF h3,cF]at ht h
            have hq:(p.drop (2+(dg p 1).toNat)).length=p.length - (2+(dg p 1).toNat):=List.length_drop
            unfold HC at ht
            rw[bJ (by omega) (by omega),cT,eK (a:=2) (b:=2+dg p 1) (i:=2) (j:=2+(dg p 1).toNat) rfl (by omega) (by omega) (by omega),show 2+(dg p 1).toNat - 2=(dg p 1).toNat by omega,eg (hp.sl _ _) (by rw[dK (by omega)];omega)]at ht
            generalize fV (dg p 0) (sl p 2 (dg p 1).toNat) s=q at *
            cases hq1:q.1 with
            | true=>
             rw[hq1,cT]at ht h
             rw[eK (a:=2+dg p 1) (b:=(p.length:Int)) (i:=2+(dg p 1).toNat) (j:=p.length) (by omega) rfl (by omega) (by omega),ia,show Nat.blt (p.drop (2+(dg p 1).toNat)).length N=true by rw[bL,hq];omega,cT,eg (jl hp _) (by omega)]at ht
             exact fin ht h (sO s _)
            | false=>
             rw[hq1,cF]at ht h
             exact fin ht h (sO s _)
   . cases h
 . cases h))
end Go.Proofs.YtnlmhpancboddaaGreat
