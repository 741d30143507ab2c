/- Messages: the head of a message. -/
import Derived.Test.YtnlmhpancboddaaGreatPart16
set_option linter.unusedVariables false
set_option linter.unusedSimpArgs false
namespace Go.Proofs.YtnlmhpancboddaaGreat
open Go.Am
set_option maxRecDepth 100000
theorem p2:(256:Int) ^ 2=65536:=by decide
noncomputable abbrev κhd:=tbl [(47,nrp_s),(48,un_s 2),(49,un_s 1),(50,marked_s)]
theorem hdOk:KOk Tryz.prog κhd:=tbl_cons nrp_k(tbl_cons u16_n(tbl_cons u8_n(tbl_cons marked_k ok0)))
noncomputable def newC(q:List SV)(K:Rd->CTree):CTree:=bif decide(q.length<=1000000)then K⟨0,q.length,0,0⟩else .fail
noncomputable def unC(r:Rd)(q:List SV)(k:Nat)(K:Int->Rd->CTree):CTree:=bif dec(OkRd r q/\q.length=q.length)then K(r.num q k)(r.adv k)else .fail
noncomputable def slI(p:List SV)(a b:Int)(K:List SV->CTree):CTree:=bif decide(0<=a)&&decide(a<=b)&&decide(b<=(p.length:Int))then K((p.drop a.toNat).take(b.toNat - a.toNat))else .fail
noncomputable def slC(p:List SV)(a b:Nat)(K:List SV->CTree):CTree:=slI p a b K
def hr(n e:Int):CTree:=.ret(.tup [.int .i64 n,.int .i64 e]) []
theorem head_t(p:List SV):opn κhd Tryz.f32 [.psl 5 p] []=
 bif decide((p.length:Int) < 19)then hr 0 0 else slC p 16 19 fun q=>newC q fun r=>unC r q 2 fun sz r=>unC r q 1 fun kd _=>slC p 0 16 fun m=>bif dec(m.length<=1000000)then
  bif !mkd m then hr 0 16 else bif(bif decide(w64 sz < 19)then true else decide(w64 sz > 4096))then hr 0 5 else bif(bif decide(w64 kd < 1)then true else decide(w64 kd > 5))then hr 0 6 else
  bif decide((p.length:Int) < w64 sz)then hr 0 0 else hr(w64 sz)0 else .fail:=by kernel_rfl
def hdP(p:List SV):Int × Int:=
 bif decide(p.length < 19)then(0,0)else bif !mkd(p.take 16)then(0,16)else bif(bif decide(tkN p 16 2 < 19)then true else decide(tkN p 16 2 > 4096))then(0,5)else
 bif(bif decide(dg p 18 < 1)then true else decide(dg p 18 > 5))then(0,6)else bif decide((p.length:Int) < tkN p 16 2)then(0,0)else(tkN p 16 2,0)
theorem newC_ok{q:List SV}(h:q.length<=1000000)(K:Rd->CTree):newC q K=K(RD 0 q.length):=by
 unfold newC;rw[dT0 h];rfl
theorem okRD{q:List SV}(hb:byl q)(hl:q.length<=1000000){s:Nat}(hs:s<=q.length):OkRd(RD s q.length)q:=
 ⟨by show(0:Int)<=s;omega,by show(s:Int)<=q.length;omega,by show(q.length:Int)<=q.length;omega,hl,hb.ok⟩
theorem unC_ok{r:Rd}{q:List SV}(h:OkRd r q)(k:Nat)(K:Int->Rd->CTree):unC r q k K=K(r.num q k)(r.adv k):=by
 unfold unC;rw[dec_iff.2⟨h,rfl⟩,cT]
theorem slC_ok{p:List SV}{a b:Nat}(h:a<=b)(hb:b<=p.length)(K:List SV->CTree):slC p a b K=K(sl p a(b - a)):=by
 unfold slC slI
 rw[dT0(show(0:Int)<=a by omega),dT0(show(a:Int)<=b by omega),dT0(show(b:Int)<=p.length by omega)]
 rfl
noncomputable def head_s:CSumm:=fun args H=>match args,H with
 | [.psl 5 p],[]=>.ite(dec(byl p/\p.length<=1000000))(hr(hdP p).1(hdP p).2) .fail
 | _,_=>.fail
theorem head_k:Known Tryz.prog 32 head_s:=(openKnown hdOk Tryz.func32 rfl).weak(by
 intro args H v ups h
 unfold head_s at h
 split at h
 . rename_i p
   rw[crun_ite]at h
   cases hc:dec(byl p/\p.length<=1000000)with
   | false=>rw[hc]at h;cases h
   | true=>
    rw[hc,cT]at h
    obtain⟨hb,hl⟩:=dec_iff.1 hc
    refine(congrArg crun(head_t p)).trans ?_
    by_cases h19:p.length < 19
    . rw[dT0(show(p.length:Int) < 19 by omega),cT]
      unfold hdP at h
      rw[dT0 h19]at h
      exact h
    . have hq:(sl p 16 3).length=3:=sl_len(by omega)
      have hbq:byl(sl p 16 3):=hb.sl _ _
      have hm:sl p 0 16=p.take 16:=rfl
      have t2:tkN(sl p 16 3)0 2=tkN p 16 2:=by have:=tkN_slj(es:=p)(s:=16)(m:=3)(j:=0)2(by omega);simpa using this.symm
      have t3:tkN(sl p 16 3)2 1=dg p 18:=by
       have:=tkN_slj(es:=p)(s:=16)(m:=3)(j:=2)1(by omega)
       rw[<- this,tk1]
      obtain⟨a0,a1⟩:=tkN_rng hb.ok 16 2
      obtain⟨b0,b1⟩:=hb.ok 18
      rw[p2]at a1
      rw[dF(show ¬ (p.length:Int) < 19 by omega),cF,slC_ok(by omega)(by omega),show 19 - 16=3 from rfl,newC_ok(by omega),unC_ok(okRD hbq(by omega)(by omega)),num_RD(by omega),adv_RD(by omega),unC_ok(okRD hbq(by omega)(by omega)),num_RD(by omega),slC_ok(by omega)(by omega),Nat.sub_zero,dec_iff.2(show(sl p 0 16).length<=1000000 by unfold sl;rw[List.length_take];omega),cT,hm,t2,t3,
       show w64(tkN p 16 2)=tkN p 16 2 from w64_id(by omega)(by omega),show w64(dg p 18)=dg p 18 from w64_id(by omega)(by omega)]
      unfold hdP at h
      rw[dF h19,cF]at h
      cases c1: !mkd(p.take 16)with
      | true=>rw[c1]at h;exact h
      | false=>
       rw[c1,cF]at h
       rw[cF]
       cases c2:(bif decide(tkN p 16 2 < 19)then true else decide(tkN p 16 2 > 4096))with
       | true=>rw[c2]at h;exact h
       | false=>
        rw[c2,cF]at h
        rw[cF]
        cases c3:(bif decide(dg p 18 < 1)then true else decide(dg p 18 > 5))with
        | true=>rw[c3]at h;exact h
        | false=>
         rw[c3,cF]at h
         rw[cF]
         cases c4:decide((p.length:Int) < tkN p 16 2) <;> rw[c4]at h <;> exact h
 . cases h)
theorem cells5:Tryz.prog.cellsOf 5=1:=by kernel_rfl
noncomputable def head2_s:CSumm:=fun args H=>match args,H with
 | [.psl 5 p],[]=>.ite(dec(byl p/\p.length<=1000000))(hr(hdP p).1(hdP p).2) .fail
 | [.qs 0 1 l n],[(0,.seq 5 es)]=>.ite(dec(byl es/\l+n<=es.length/\es.length<=1000000))(hr(hdP(sl es l n)).1(hdP(sl es l n)).2) .fail
 | _,_=>.fail
theorem known_or{f:FuncId}{s1 s2 s':CSumm}(h1:Known Tryz.prog f s1)(h2:Known Tryz.prog f s2)(hs:∀ args H v ups,crun(s' args H)=some(v,ups)->crun(s1 args H)=some(v,ups)\/crun(s2 args H)=some(v,ups)):Known Tryz.prog f s':=
 ⟨h1.fn,fun args H v ups h=>by
  rcases hs args H v ups h with h | h
  . exact h1.ok args H v ups h
  . exact h2.ok args H v ups h⟩
noncomputable def headq_s:CSumm:=fun args H=>match args,H with
 | [.qs 0 1 l n],[(0,.seq 5 es)]=>.ite(dec(byl es/\l+n<=es.length/\es.length<=1000000))(hr(hdP(sl es l n)).1(hdP(sl es l n)).2) .fail
 | _,_=>.fail
theorem headq_k:Known Tryz.prog 32 headq_s:=known_view head_k(by
 intro args H v ups h
 unfold headq_s at h
 split at h
 . rename_i l n es
   rw[crun_ite]at h
   cases hc:dec(byl es/\l+n<=es.length/\es.length<=1000000)with
   | false=>rw[hc]at h;cases h
   | true=>
    rw[hc,cT]at h
    obtain⟨hb,hl,hm⟩:=dec_iff.1 hc
    cases h
    refine⟨[],5,es,l,n,1,rfl,rfl,cells5.symm,hl,rfl,rfl,fun _=>rfl,?_⟩
    show crun(.ite(dec(byl(sl es l n)/\(sl es l n).length<=1000000))(hr(hdP(sl es l n)).1(hdP(sl es l n)).2) .fail)=_
    rw[crun_ite,dec_iff.2⟨hb.sl _ _,by rw[sl_len hl];omega⟩];rfl
 . cases h)
theorem head2_k:Known Tryz.prog 32 head2_s:=known_or head_k headq_k(by
 intro args H v ups h
 unfold head2_s at h
 split at h
 . exact .inl h
 . exact .inr h
 . cases h)
structure Cs where
 (ev nu rs:Bool)(asn hold id rst:Int)(rsd:Bool)
def oV(s:Cs):List SV:=[.int .u32 s.asn,.int .i64 s.hold,.int .u32 s.id,.int .i64 s.rst,.bool s.rsd]
def csH(s:Cs):HpL:=[(0,.cells 4 [.bool s.ev]),(1,.cells 4 [.bool s.nu]),(2,.cells 39(oV s)),(3,.cells 4 [.bool s.rs])]
def csU(s:Cs):List(Nat × Option Chunk):=[(0,some(.cells 4 [.bool s.ev])),(1,some(.cells 4 [.bool s.nu])),(2,some(.cells 39(oV s))),(3,some(.cells 4 [.bool s.rs]))]
def csOf:HpL->Option Cs
 | [(0,.cells 4 [.bool ev]),(1,.cells 4 [.bool nu]),(2,.cells 39 [.int .u32 asn,.int .i64 hold,.int .u32 id,.int .i64 rst,.bool rsd]),(3,.cells 4 [.bool rs])]=>some⟨ev,nu,rs,asn,hold,id,rst,rsd⟩
 | _=>none
theorem csOf_h{H:HpL}{s:Cs}(h:csOf H=some s):H=csH s:=by
 unfold csOf at h
 split at h
 . cases h;rfl
 . cases h
def capF(c:Int)(v:List SV)(s:Cs):Bool × Cs:=
 bif c==1 then(true,{s with ev:=bif s.ev then true else bif decide(v.length=4)then tkN v 0 4==1638470 else false})
 else bif(bif(bif c==65 then decide(v.length=4)else false)then !s.nu else false)then(true,{s with nu:=true,asn:=tkN v 0 4})
 else bif(bif c==64 then !s.rs else false)then(decide(2<=v.length),{s with rs:=true,rst:=andI .i64(bif decide(2<=v.length)then tkN v 0 2 else 0)4095,rsd:=andI .i64(bif decide(2<=v.length)then tkN v 0 2 else 0)32768!=0})
 else(true,s)
noncomputable abbrev κcap:=tbl [(47,nrp_s),(48,un_s 2),(70,un_s 4)]
theorem capOk:KOk Tryz.prog κcap:=tbl_cons nrp_k(tbl_cons u16_n(tbl_cons u32_n ok0))
def capA(c:Int)(v:List SV):List SV:=[.int .u8 c,.psl 5 v,.ptr 0 0,.ptr 1 0,.ptr 2 0,.ptr 3 0]
theorem cap_t(c:Int)(v:List SV)(s:Cs):opn κcap Tryz.f72(capA c v)(csH s)=newC v fun r=>
 bif c==1 then(bif s.ev then .ret(.bool true) [(0,some(.cells 4 [.bool true]))]else bif(v.length:Int)==4 then unC r v 4(fun n _=>.ret(.bool true) [(0,some(.cells 4 [.bool(n==1638470)]))])else .ret(.bool true) [(0,some(.cells 4 [.bool false]))])
 else bif(bif(bif c==65 then(v.length:Int)==4 else false)then !s.nu else false)then unC r v 4(fun n _=>.ret(.bool true) [(2,some(.cells 39(oV{s with asn:=w3 n}))),(1,some(.cells 4 [.bool true]))])
 else bif(bif c==64 then !s.rs else false)then unC r v 2(fun n _=>.ret(.bool(decide((v.length:Int)>=2))) [(2,some(.cells 39(oV{s with rst:=andI .i64(w64 n)4095,rsd:=andI .i64(w64 n)32768!=0}))),(3,some(.cells 4 [.bool true]))])
 else .ret(.bool true) []:=by kernel_rfl
theorem num_no{q:List SV}{k:Nat}(h:¬ k<=q.length):(RD 0 q.length).num q k=0:=by
 unfold Rd.num Rd.few RD
 rw[show decide((k:Int) > (q.length:Int) - ((0:Nat):Int))=true from dT0(by omega)];rfl
theorem csU_all(s t:Cs):∀ x,updF(csU t)(csH s).get x=(csH t).get x
 | 0=>rfl | 1=>rfl | 2=>rfl | 3=>rfl
 | x+4=>by
  have h2:∀ k,k < 4->Nat.beq k(x+4)=false:=fun k hk=>nb_f(by omega)
  simp only[csU,csH,updF,HpL.get,show ¬ (x+4=0)by omega,show ¬ (x+4=1)by omega,show ¬ (x+4=2)by omega,show ¬ (x+4=3)by omega,if_false,h2 0(by omega),h2 1(by omega),h2 2(by omega),h2 3(by omega),cF]
theorem upd_hi{x k:Nat}:∀ (u:List(Nat × Option Chunk))(h:HpF),(u.all(fun p=>decide(p.1 < k))=true)->updF u h(x+k)=h(x+k)
 | [],_,_=>rfl
 | p :: u,h,ha=>by
  rw[List.all_cons,bA,decide_eq_true_eq]at ha
  obtain⟨y,c⟩:=p
  rw[updF,upd_hi u _ ha.2,if_neg(show ¬ (x+k=y)by have:y < k:=ha.1;omega)]
theorem cs_hi(s:Cs)(x:Nat):(csH s).get(x+4)=none:=by
 have h2:∀ k,k < 4->Nat.beq k(x+4)=false:=fun k hk=>nb_f(by omega)
 simp only[csH,HpL.get,h2 0(by omega),h2 1(by omega),h2 2(by omega),h2 3(by omega),cF]
theorem cs_ext{s t:Cs}{u:List(Nat × Option Chunk)}(ha:u.all(fun p=>decide(p.1 < 4))=true)(h0:updF u(csH s).get 0=(csH t).get 0)(h1:updF u(csH s).get 1=(csH t).get 1)(h2:updF u(csH s).get 2=(csH t).get 2)(h3:updF u(csH s).get 3=(csH t).get 3):∀ x,updF u(csH s).get x=(csH t).get x
 | 0=>h0 | 1=>h1 | 2=>h2 | 3=>h3
 | x+4=>by rw[upd_hi u _ ha,cs_hi,cs_hi]
noncomputable def cap_s:CSumm:=fun args H=>match args with
 | [.int .u8 c,.psl 5 v,.ptr 0 0,.ptr 1 0,.ptr 2 0,.ptr 3 0]=>match csOf H with
  | some s=>.ite(dec(byl v/\v.length<=1000000))(.ret(.bool(capF c v s).1)(csU(capF c v s).2)) .fail
  | none=>.fail
 | _=>.fail
theorem cap_k:Known Tryz.prog 72 cap_s:=known_ups(openKnown capOk Tryz.func72 rfl)(by
 intro args H v' ups' h
 unfold cap_s at h
 split at h
 . rename_i c v
   split at h
   . rename_i s hs
     rw[crun_ite]at h
     cases hc:dec(byl v/\v.length<=1000000)with
     | false=>rw[hc]at h;cases h
     | true=>
      rw[hc,cT]at h
      obtain⟨hb,hl⟩:=dec_iff.1 hc
      rw[csOf_h hs]
      have ht:=cap_t c v s
      have ho:=okRD hb hl(s:=0)(by omega)
      rw[newC_ok hl,unC_ok ho,unC_ok ho,unC_ok ho]at ht
      have n4:∀ h4:v.length=4,(RD 0 v.length).num v 4=tkN v 0 4:=fun h4=>num_RD(by omega)
      have n2:(RD 0 v.length).num v 2=bif decide(2<=v.length)then tkN v 0 2 else 0:=by
       by_cases h2:2<=v.length
       . rw[dT0 h2];exact num_RD(by omega)
       . rw[dF h2];exact num_no h2
      obtain⟨k0,k1⟩:=tkN_rng hb.ok 0 4
      obtain⟨j0,j1⟩:=tkN_rng hb.ok 0 2
      rw[p2]at j1
      have hL:((v.length:Int)==4)=decide(v.length=4):=by
       by_cases h4:v.length=4
       . rw[dT0 h4,beq_iff_eq];omega
       . rw[dF h4,beq_eq_false_iff_ne];omega
      rw[hL,n2]at ht
      have hw2:w64(bif decide(2<=v.length)then tkN v 0 2 else 0)=bif decide(2<=v.length)then tkN v 0 2 else 0:=by
       cases decide(2<=v.length)
       . rfl
       . exact w64_id(by rw[cT];omega)(by rw[cT];omega)
      rw[hw2]at ht
      have hge:decide((v.length:Int)>=2)=decide(2<=v.length):=by
       by_cases h2:2<=v.length
       . rw[dT0 h2,dT0(by omega)]
       . rw[dF h2,dF(by omega)]
      rw[hge]at ht
      unfold capF at h
      have fin:∀ {b:Bool}{t:Cs}{u:List(Nat × Option Chunk)},opn κcap Tryz.f72(capA c v)(csH s)= .ret(.bool b)u->crun(.ret(.bool b)(csU t))=some(v',ups')->(∀ x,updF u(csH s).get x=(csH t).get x)->∃ ups,crun(opn κcap Tryz.f72 [.int .u8 c,.psl 5 v,.ptr 0 0,.ptr 1 0,.ptr 2 0,.ptr 3 0] (csH s))=some(v',ups)/\updF ups'(csH s).get=updF ups(csH s).get:=by
       intro b t u h1 h2 h3
       cases h2
       exact⟨u,congrArg crun h1,funext fun x=>by rw[csU_all,h3]⟩
      by_cases c1:c=1
      . rw[show(c==1)=true by simpa using c1,cT]at ht h
        cases he:s.ev with
        | true=>rw[he]at ht h;exact fin ht h(cs_ext rfl rfl rfl rfl rfl)
        | false=>
         rw[he,cF]at ht h
         by_cases h4:v.length=4
         . rw[dT0 h4,cT]at ht h
           rw[n4 h4]at ht
           exact fin ht h(cs_ext rfl rfl rfl rfl rfl)
         . rw[dF h4,cF]at ht h
           exact fin ht h(cs_ext rfl rfl rfl rfl rfl)
      . rw[show(c==1)=false by simpa using c1,cF]at ht h
        cases c2:(bif(bif c==65 then decide(v.length=4)else false)then !s.nu else false)with
        | true=>
         rw[c2,cT]at ht h
         have h4:v.length=4:=by
          cases x1:(bif c==65 then decide(v.length=4)else false)with
          | false=>rw[x1]at c2;cases c2
          | true=>
           cases x2:c==65 with
           | false=>rw[x2]at x1;cases x1
           | true=>rw[x2]at x1;exact of_decide_eq_true x1
         have hk:(256:Int) ^ 4=4294967296:=by decide
         rw[hk]at k1
         rw[n4 h4,w3_id k0 k1]at ht
         exact fin ht h(cs_ext rfl rfl rfl rfl rfl)
        | false=>
         rw[c2,cF]at ht h
         cases c3:(bif c==64 then !s.rs else false)with
         | true=>rw[c3,cT]at ht h;exact fin ht h(cs_ext rfl rfl rfl rfl rfl)
         | false=>rw[c3,cF]at ht h;exact fin ht h(cs_ext rfl rfl rfl rfl rfl)
   . cases h
 . cases h)
def vis(F:Int->List SV->Cs->Bool × Cs):Nat->List SV->Cs->Bool × Cs
 | 0,_,s=>(true,s)
 | f+1,p,s=>
  bif decide(p.length=0)then(true,s)else bif decide((p.length:Int) < 2)then(false,s)else bif decide((p.length:Int) < 2+dg p 1)then(false,s)else
  bif(F(dg p 0)(sl p 2(dg p 1).toNat)s).1 then vis F f(p.drop(2+(dg p 1).toNat))(F(dg p 0)(sl p 2(dg p 1).toNat)s).2 else(false,(F(dg p 0)(sl p 2(dg p 1).toNat)s).2)
def visA(p:List SV):List SV:=[.psl 5 p,.fn(.func 72) [] [.ptr 0 0,.ptr 1 0,.ptr 2 0,.ptr 3 0]]
noncomputable def visI_s:CSumm:=fun args H=>match args with
 | [.psl 5 p,.fn(.func 72) [] [.ptr 0 0,.ptr 1 0,.ptr 2 0,.ptr 3 0]]=>match csOf H with
  | some s=>.ite(dec(byl p/\p.length<=1000000))(.ret(.bool(vis capF p.length p s).1)(csU(vis capF p.length p s).2)) .fail
  | none=>.fail
 | _=>.fail
def visM:List SV->HpL->Nat
 | .psl _ p :: _,_=>p.length
 | _,_=>0
def csR(s:Cs):List(Nat × Option Chunk):=[(3,some(.cells 4 [.bool s.rs])),(2,some(.cells 39(oV s))),(1,some(.cells 4 [.bool s.nu])),(0,some(.cells 4 [.bool s.ev]))]
noncomputable def bylC(p:List SV)(K:CTree):CTree:=bif dec(byl p/\p.length<=1000000)then K else .fail
noncomputable def visK(N:Nat)(p:List SV)(s:Cs)(e:Int):CTree:=
 bif inB 0 p.length then slI p 2 e fun v=>bylC v(bif(capF(dg p 0)v s).1 then slI p e p.length fun q=>(bif Nat.blt q.length N then bylC q(.ret(.bool(vis capF q.length q(capF(dg p 0)v s).2).1)(csR(vis capF q.length q(capF(dg p 0)v s).2).2))else .fail)else .ret(.bool false)(csR(capF(dg p 0)v s).2))else .fail
theorem visI_t(N:Nat)(p:List SV)(s:Cs):opn(tbl [(73,boundT visM visI_s N),(72,cap_s)])Tryz.f73(visA p)(csH s)=
 bif(p.length:Int)==0 then .ret(.bool true) []else bif decide((p.length:Int) < 2)then .ret(.bool false) []else bif inB 1 p.length then bif decide((p.length:Int) < w64(2+w64(dg p 1)))then .ret(.bool false) []else
  bif inB 1 p.length then visK N p s(w64(2+w64(dg p 1)))else .fail else .fail:=by kernel_rfl
theorem vis_fuel(F:Int->List SV->Cs->Bool × Cs):∀ (f:Nat)(p:List SV)(s:Cs),p.length<=f->vis F f p s=vis F p.length p s
 | 0,p,s,h=>by rw[show p.length=0 by omega]
 | f+1,p,s,h=>by
  cases hl:p.length with
  | zero=>unfold vis;rw[hl,dT0 rfl,cT]
  | succ g=>
   have hd:(p.drop(2+(dg p 1).toNat)).length<=g:=by rw[List.length_drop];omega
   conv=>lhs;unfold vis
   conv=>rhs;unfold vis
   rw[hl,vis_fuel F f _ _(by omega),vis_fuel F g _ _ hd]
def visL(F:Int->List SV->Cs->Bool × Cs)(p:List SV)(s:Cs):Bool × Cs:=vis F p.length p s
theorem visL_nil{F:Int->List SV->Cs->Bool × Cs}{p:List SV}{s:Cs}(h:p.length=0):visL F p s=(true,s):=by
 unfold visL;rw[h];rfl
theorem visL_step{F:Int->List SV->Cs->Bool × Cs}{p:List SV}{s:Cs}(h:p.length≠0):visL F p s=
  bif decide((p.length:Int) < 2)then(false,s)else bif decide((p.length:Int) < 2+dg p 1)then(false,s)else
  bif(F(dg p 0)(sl p 2(dg p 1).toNat)s).1 then visL F(p.drop(2+(dg p 1).toNat))(F(dg p 0)(sl p 2(dg p 1).toNat)s).2 else(false,(F(dg p 0)(sl p 2(dg p 1).toNat)s).2):=by
 unfold visL
 obtain⟨g,hg⟩:∃ g,p.length=g+1:=⟨p.length - 1,by omega⟩
 conv=>lhs;rw[hg];unfold vis
 rw[dF h,cF,vis_fuel F g _ _(by rw[List.length_drop];omega)]
theorem slI_ok{p:List SV}{a b:Int}{i j:Nat}(ha:a=i)(hb:b=j)(h:i<=j)(hj:j<=p.length)(K:List SV->CTree):slI p a b K=K(sl p i(j - i)):=by
 subst ha;subst hb;exact slC_ok h hj K
theorem bylC_ok{p:List SV}(h:byl p)(hl:p.length<=1000000)(K:CTree):bylC p K=K:=by
 unfold bylC;rw[dec_iff.2⟨h,hl⟩,cT]
theorem byl_dr{l:List SV}(h:byl l)(k:Nat):byl(l.drop k):=fun v hv=>h v(List.mem_of_mem_drop hv)
theorem csR_all(s t:Cs):∀ x,updF(csR t)(csH s).get x=(csH t).get x:=cs_ext rfl rfl rfl rfl rfl
theorem sl_end(p:List SV)(k:Nat):sl p k(p.length - k)=p.drop k:=by
 unfold sl;rw[List.take_of_length_le(by rw[List.length_drop];omega)]
theorem visI_k:Known Tryz.prog 73 visI_s:=known_rec(μ:=visM)⟨Tryz.f73,Tryz.func73,noNum_at noNumTry Tryz.func73,rfl⟩(fun N hN=>known_ups(openKnown(tbl_cons hN(tbl_cons cap_k ok0))Tryz.func73 rfl)(by
 intro args H v' ups' h
 replace h:=boundT_at h
 obtain⟨hb,h⟩:=h
 unfold visI_s at h
 split at h
 . rename_i p
   split at h
   . rename_i s hs
     rw[crun_ite]at h
     cases hc:dec(byl p/\p.length<=1000000)with
     | false=>rw[hc]at h;cases h
     | true=>
      rw[hc,cT]at h
      obtain⟨hp,hl⟩:=dec_iff.1 hc
      rw[csOf_h hs]
      have ht:=visI_t N p s
      have hM:Nat.blt p.length(N+1)=true:=hb
      rw[bL]at hM
      have fin:∀ {b:Bool}{t:Cs}{u:List(Nat × Option Chunk)},opn(tbl [(73,boundT visM visI_s N),(72,cap_s)])Tryz.f73(visA p)(csH s)= .ret(.bool b)u->crun(.ret(.bool b)(csU t))=some(v',ups')->(∀ x,updF u(csH s).get x=(csH t).get x)->∃ ups,crun(opn(tbl [(73,boundT visM visI_s N),(72,cap_s)])Tryz.f73 [.psl 5 p,.fn(.func 72) [] [.ptr 0 0,.ptr 1 0,.ptr 2 0,.ptr 3 0]] (csH s))=some(v',ups)/\updF ups'(csH s).get=updF ups(csH s).get:=by
       intro b t u h1 h2 h3
       cases h2
       exact⟨u,congrArg crun h1,funext fun x=>by rw[csU_all,h3]⟩
      change crun(.ret(.bool(visL capF p s).1)(csU(visL capF p s).2))=_ at h
      by_cases h0:p.length=0
      . rw[visL_nil h0]at h
        rw[show((p.length:Int)==0)=true by rw[beq_iff_eq];omega,cT]at ht
        exact fin ht h(fun x=>rfl)
      . rw[visL_step h0]at h
        rw[show((p.length:Int)==0)=false by rw[beq_eq_false_iff_ne];omega,cF]at ht
        by_cases h2:(p.length:Int) < 2
        . rw[dT0 h2,cT]at ht h
          exact fin ht h(fun x=>rfl)
        . obtain⟨r1,r2⟩:=hp.ok 1
          have hw:w64(2+w64(dg p 1))=2+dg p 1:=by
           rw[show w64(dg p 1)=dg p 1 from w64_id(by omega)(by omega)];exact w64_id(by omega)(by omega)
          rw[dF h2,cF]at ht h
          rw[inB_ok(by omega)(by omega),cT,cT,hw]at ht
          by_cases h3:(p.length:Int) < 2+dg p 1
          . rw[dT0 h3,cT]at ht h
            exact fin ht h(fun x=>rfl)
          . rw[dF h3,cF]at ht h
            have hq:(p.drop(2+(dg p 1).toNat)).length=p.length - (2+(dg p 1).toNat):=List.length_drop
            unfold visK at ht
            rw[inB_ok(by omega)(by omega),cT,slI_ok(a:=2)(b:=2+dg p 1)(i:=2)(j:=2+(dg p 1).toNat)rfl(by omega)(by omega)(by omega),show 2+(dg p 1).toNat - 2=(dg p 1).toNat by omega,bylC_ok(hp.sl _ _)(by rw[sl_len(by omega)];omega)]at ht
            generalize capF(dg p 0)(sl p 2(dg p 1).toNat)s=q at *
            cases hq1:q.1 with
            | true=>
             rw[hq1,cT]at ht h
             rw[slI_ok(a:=2+dg p 1)(b:=(p.length:Int))(i:=2+(dg p 1).toNat)(j:=p.length)(by omega)rfl(by omega)(by omega),sl_end,show Nat.blt(p.drop(2+(dg p 1).toNat)).length N=true by rw[bL,hq];omega,cT,bylC_ok(byl_dr hp _)(by omega)]at ht
             exact fin ht h(csR_all s _)
            | false=>
             rw[hq1,cF]at ht h
             exact fin ht h(csR_all s _)
   . cases h
 . cases h))
def csO(s:Cs):HpL:=[(0,.cells 159 [.fn(.func 72) [] [.ptr 1 0,.ptr 2 0,.ptr 3 0,.ptr 4 0]]),(1,.cells 4 [.bool s.ev]),(2,.cells 4 [.bool s.nu]),(3,.cells 39(oV s)),(4,.cells 4 [.bool s.rs])]
def csQ(s:Cs):List(Nat × Option Chunk):=[(4,some(.cells 4 [.bool s.rs])),(3,some(.cells 39(oV s))),(2,some(.cells 4 [.bool s.nu])),(1,some(.cells 4 [.bool s.ev]))]
def csV(s:Cs):List(Nat × Option Chunk):=[(1,some(.cells 4 [.bool s.ev])),(2,some(.cells 4 [.bool s.nu])),(3,some(.cells 39(oV s))),(4,some(.cells 4 [.bool s.rs]))]
def coOf:HpL->Option Cs
 | [(0,.cells 159 [.fn(.func 72) [] [.ptr 1 0,.ptr 2 0,.ptr 3 0,.ptr 4 0]]),(1,.cells 4 [.bool ev]),(2,.cells 4 [.bool nu]),(3,.cells 39 [.int .u32 asn,.int .i64 hold,.int .u32 id,.int .i64 rst,.bool rsd]),(4,.cells 4 [.bool rs])]=>some⟨ev,nu,rs,asn,hold,id,rst,rsd⟩
 | _=>none
theorem coOf_h{H:HpL}{s:Cs}(h:coOf H=some s):H=csO s:=by
 unfold coOf at h
 split at h
 . cases h;rfl
 . cases h
theorem co_hi(s:Cs)(x:Nat):(csO s).get(x+5)=none:=by
 have h2:∀ k,k < 5->Nat.beq k(x+5)=false:=fun k hk=>nb_f(by omega)
 simp only[csO,HpL.get,h2 0(by omega),h2 1(by omega),h2 2(by omega),h2 3(by omega),h2 4(by omega),cF]
theorem co_ext{s t:Cs}{u:List(Nat × Option Chunk)}(ha:u.all(fun p=>decide(p.1 < 5))=true)(h0:updF u(csO s).get 0=(csO t).get 0)(h1:updF u(csO s).get 1=(csO t).get 1)(h2:updF u(csO s).get 2=(csO t).get 2)(h3:updF u(csO s).get 3=(csO t).get 3)(h4:updF u(csO s).get 4=(csO t).get 4):∀ x,updF u(csO s).get x=(csO t).get x
 | 0=>h0 | 1=>h1 | 2=>h2 | 3=>h3 | 4=>h4
 | x+5=>by rw[upd_hi u _ ha,co_hi,co_hi]
theorem csV_all(s t:Cs):∀ x,updF(csV t)(csO s).get x=(csO t).get x:=co_ext rfl rfl rfl rfl rfl rfl
theorem csQ_all(s t:Cs):∀ x,updF(csQ t)(csO s).get x=(csO t).get x:=co_ext rfl rfl rfl rfl rfl rfl
def parF(c:Int)(v:List SV)(s:Cs):Bool × Cs:=bif c==2 then visL capF v s else(false,s)
def parA(c:Int)(v:List SV):List SV:=[.int .u8 c,.psl 5 v,.ptr 0 0]
theorem par_t(c:Int)(v:List SV)(s:Cs):opn(tbl [(73,visI_s)])Tryz.f74(parA c v)(csO s)=bif c==2 then bylC v(.ret(.bool(visL capF v s).1)(csQ(visL capF v s).2))else .ret(.bool false) []:=by kernel_rfl
noncomputable def par_s:CSumm:=fun args H=>match args with
 | [.int .u8 c,.psl 5 v,.ptr 0 0]=>match coOf H with
  | some s=>.ite(dec(byl v/\v.length<=1000000))(.ret(.bool(parF c v s).1)(csV(parF c v s).2)) .fail
  | none=>.fail
 | _=>.fail
theorem par_k:Known Tryz.prog 74 par_s:=known_ups(openKnown(tbl_cons visI_k ok0)Tryz.func74 rfl)(by
 intro args H v' ups' h
 unfold par_s at h
 split at h
 . rename_i c v
   split at h
   . rename_i s hs
     rw[crun_ite]at h
     cases hc:dec(byl v/\v.length<=1000000)with
     | false=>rw[hc]at h;cases h
     | true=>
      rw[hc,cT]at h
      obtain⟨hb,hl⟩:=dec_iff.1 hc
      rw[coOf_h hs]
      have ht:=par_t c v s
      rw[bylC_ok hb hl]at ht
      unfold parF at h
      cases c2:c==2 with
      | true=>
       rw[c2,cT]at ht h
       cases h
       exact⟨_,congrArg crun ht,funext fun x=>by rw[csV_all,csQ_all]⟩
      | false=>
       rw[c2,cF]at ht h
       cases h
       exact⟨_,congrArg crun ht,funext fun x=>csV_all s s x⟩
   . cases h
 . cases h)
def visB(p:List SV):List SV:=[.psl 5 p,.fn(.func 74) [] [.ptr 0 0]]
noncomputable def visO_s:CSumm:=fun args H=>match args with
 | [.psl 5 p,.fn(.func 74) [] [.ptr 0 0]]=>match coOf H with
  | some s=>.ite(dec(byl p/\p.length<=1000000))(.ret(.bool(visL parF p s).1)(csV(visL parF p s).2)) .fail
  | none=>.fail
 | _=>.fail
noncomputable def visKo(N:Nat)(p:List SV)(s:Cs)(e:Int):CTree:=
 bif inB 0 p.length then slI p 2 e fun v=>bylC v(bif(parF(dg p 0)v s).1 then slI p e p.length fun q=>(bif Nat.blt q.length N then bylC q(.ret(.bool(visL parF q(parF(dg p 0)v s).2).1)(csQ(visL parF q(parF(dg p 0)v s).2).2))else .fail)else .ret(.bool false)(csQ(parF(dg p 0)v s).2))else .fail
theorem visO_t(N:Nat)(p:List SV)(s:Cs):opn(tbl [(73,boundT visM visO_s N),(74,par_s)])Tryz.f73(visB p)(csO s)=
 bif(p.length:Int)==0 then .ret(.bool true) []else bif decide((p.length:Int) < 2)then .ret(.bool false) []else bif inB 1 p.length then bif decide((p.length:Int) < w64(2+w64(dg p 1)))then .ret(.bool false) []else
  bif inB 1 p.length then visKo N p s(w64(2+w64(dg p 1)))else .fail else .fail:=by kernel_rfl
theorem visO_k:Known Tryz.prog 73 visO_s:=known_rec(μ:=visM)⟨Tryz.f73,Tryz.func73,noNum_at noNumTry Tryz.func73,rfl⟩(fun N hN=>known_ups(openKnown(tbl_cons hN(tbl_cons par_k ok0))Tryz.func73 rfl)(by
 intro args H v' ups' h
 replace h:=boundT_at h
 obtain⟨hb,h⟩:=h
 unfold visO_s at h
 split at h
 . rename_i p
   split at h
   . rename_i s hs
     rw[crun_ite]at h
     cases hc:dec(byl p/\p.length<=1000000)with
     | false=>rw[hc]at h;cases h
     | true=>
      rw[hc,cT]at h
      obtain⟨hp,hl⟩:=dec_iff.1 hc
      rw[coOf_h hs]
      have ht:=visO_t N p s
      have hM:Nat.blt p.length(N+1)=true:=hb
      rw[bL]at hM
      have fin:∀ {b:Bool}{t:Cs}{u:List(Nat × Option Chunk)},opn(tbl [(73,boundT visM visO_s N),(74,par_s)])Tryz.f73(visB p)(csO s)= .ret(.bool b)u->crun(.ret(.bool b)(csV t))=some(v',ups')->(∀ x,updF u(csO s).get x=(csO t).get x)->∃ ups,crun(opn(tbl [(73,boundT visM visO_s N),(74,par_s)])Tryz.f73 [.psl 5 p,.fn(.func 74) [] [.ptr 0 0]] (csO s))=some(v',ups)/\updF ups'(csO s).get=updF ups(csO s).get:=by
       intro b t u h1 h2 h3
       cases h2
       exact⟨u,congrArg crun h1,funext fun x=>by rw[csV_all,h3]⟩
      by_cases h0:p.length=0
      . rw[visL_nil h0]at h
        rw[show((p.length:Int)==0)=true by rw[beq_iff_eq];omega,cT]at ht
        exact fin ht h(fun x=>rfl)
      . rw[visL_step h0]at h
        rw[show((p.length:Int)==0)=false by rw[beq_eq_false_iff_ne];omega,cF]at ht
        by_cases h2:(p.length:Int) < 2
        . rw[dT0 h2,cT]at ht h
          exact fin ht h(fun x=>rfl)
        . obtain⟨r1,r2⟩:=hp.ok 1
          have hw:w64(2+w64(dg p 1))=2+dg p 1:=by
           rw[show w64(dg p 1)=dg p 1 from w64_id(by omega)(by omega)];exact w64_id(by omega)(by omega)
          rw[dF h2,cF]at ht h
          rw[inB_ok(by omega)(by omega),cT,cT,hw]at ht
          by_cases h3:(p.length:Int) < 2+dg p 1
          . rw[dT0 h3,cT]at ht h
            exact fin ht h(fun x=>rfl)
          . rw[dF h3,cF]at ht h
            have hq:(p.drop(2+(dg p 1).toNat)).length=p.length - (2+(dg p 1).toNat):=List.length_drop
            unfold visKo at ht
            rw[inB_ok(by omega)(by omega),cT,slI_ok(a:=2)(b:=2+dg p 1)(i:=2)(j:=2+(dg p 1).toNat)rfl(by omega)(by omega)(by omega),show 2+(dg p 1).toNat - 2=(dg p 1).toNat by omega,bylC_ok(hp.sl _ _)(by rw[sl_len(by omega)];omega)]at ht
            generalize parF(dg p 0)(sl p 2(dg p 1).toNat)s=q at *
            cases hq1:q.1 with
            | true=>
             rw[hq1,cT]at ht h
             rw[slI_ok(a:=2+dg p 1)(b:=(p.length:Int))(i:=2+(dg p 1).toNat)(j:=p.length)(by omega)rfl(by omega)(by omega),sl_end,show Nat.blt(p.drop(2+(dg p 1).toNat)).length N=true by rw[bL,hq];omega,cT,bylC_ok(byl_dr hp _)(by omega)]at ht
             exact fin ht h(csQ_all s _)
            | false=>
             rw[hq1,cF]at ht h
             exact fin ht h(csQ_all s _)
   . cases h
 . cases h))
end Go.Proofs.YtnlmhpancboddaaGreat
