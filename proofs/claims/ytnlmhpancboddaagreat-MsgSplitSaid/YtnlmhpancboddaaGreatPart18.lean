/- Messages: the body of an OPEN. -/
import Derived.Test.YtnlmhpancboddaaGreatPart17
set_option linter.unusedVariables false
set_option linter.unusedSimpArgs false
namespace Go.Proofs.YtnlmhpancboddaaGreat
open Go.Am
set_option maxRecDepth 100000
noncomputable abbrev κro:=tbl [(47,nrp_s),(48,un_s 2),(49,un_s 1),(70,un_s 4),(73,visO_s)]
theorem roOk:KOk Tryz.prog κro:=tbl_cons nrp_k(tbl_cons u16_n(tbl_cons u8_n(tbl_cons u32_n(tbl_cons visO_k ok0))))
def cs0:Cs:=⟨false,false,false,0,0,0,0,false⟩
def opV(s:Cs):SV:=.agg(oV s)
def roR(s:Cs)(e:Int):CTree:=.ret(.tup [opV s,.int .i64 e]) []
noncomputable def roV(p:List SV)(s:Cs):CTree:=slI p 10 p.length fun q=>bylC q((fun t:Bool × Cs=>bif(bif(bif !t.1 then true else !t.2.ev)then true else !t.2.nu)then roR cs0 3 else roR t.2 0)(visL parF q s))
noncomputable def roW(p:List SV)(r:Rd)(hold id:Int):CTree:=unC r p 1 fun n r=>bif w64 n!=lfI r then roR cs0 3 else roV p{cs0 with hold:=w64 hold,id:=w3 id}
theorem ro_t(p:List SV):opn κro Tryz.f51 [.psl 5 p] []=
 bif decide((p.length:Int) < 10)then roR cs0 3 else newC p fun r=>unC r p 1 fun ver r=>bif ver!=4 then roR cs0 15 else unC r p 2 fun _ r=>unC r p 2 fun hold r=>unC r p 4 fun id r=>
  bif w64 hold!=0 then bif decide(w64 hold < 3)then roR cs0 3 else roW p r hold id else roW p r hold id:=by kernel_rfl
def roP(p:List SV):Cs × Int:=
 bif decide(p.length < 10)then(cs0,3)else bif dg p 0!=4 then(cs0,15)else bif(bif tkN p 3 2!=0 then decide(tkN p 3 2 < 3)else false)then(cs0,3)else bif dg p 9!=(p.length:Int) - 10 then(cs0,3)else
 (fun t:Bool × Cs=>bif(bif(bif !t.1 then true else !t.2.ev)then true else !t.2.nu)then(cs0,3)else(t.2,0))(visL parF(p.drop 10){cs0 with hold:=tkN p 3 2,id:=tkN p 5 4})
noncomputable def ropen_s:CSumm:=fun args H=>match args,H with
 | [.psl 5 p],[]=>.ite(dec(byl p/\p.length<=1000000))(roR(roP p).1(roP p).2) .fail
 | _,_=>.fail
theorem p4:(256:Int) ^ 4=4294967296:=by decide
theorem ropen_k:Known Tryz.prog 51 ropen_s:=(openKnown roOk Tryz.func51 rfl).weak(by
 intro args H v ups h
 unfold ropen_s at h
 split at h
 . rename_i p
   rw[crun_ite]at h
   cases hc:dec(byl p/\p.length<=1000000)with
   | false=>rw[hc]at h;cases h
   | true=>
    rw[hc,cT]at h
    obtain⟨hb,hl⟩:=dec_iff.1 hc
    refine(congrArg crun(ro_t p)).trans ?_
    unfold roP at h
    by_cases h10:p.length < 10
    . rw[dT0(show(p.length:Int) < 10 by omega),cT]
      rw[dT0 h10]at h
      exact h
    . have ho:∀ s,s<=p.length->OkRd(RD s p.length)p:=fun s hs=>okRD hb hl hs
      obtain⟨a0,a1⟩:=tkN_rng hb.ok 3 2
      obtain⟨b0,b1⟩:=tkN_rng hb.ok 5 4
      obtain⟨d0,d1⟩:=hb.ok 9
      rw[p2]at a1
      rw[p4]at b1
      have hlf:lfI(RD 10 p.length)=(p.length:Int) - 10:=by
       have:=lfI_v(s:=10)(t:=p.length)(k:=0)(by omega)hl
       rw[Nat.add_zero]at this
       rw[this];omega
      rw[dF h10,cF]at h
      rw[dF(show ¬ (p.length:Int) < 10 by omega),cF,newC_ok hl,unC_ok(ho 0(by omega)),num_RD(by omega),adv_RD(by omega),tk1]
      cases c1:dg p 0!=4 with
      | true=>rw[c1,cT]at h;exact h
      | false=>
       rw[c1,cF]at h
       rw[cF,unC_ok(ho 1(by omega)),adv_RD(by omega),unC_ok(ho 3(by omega)),num_RD(by omega),adv_RD(by omega),unC_ok(ho 5(by omega)),num_RD(by omega),adv_RD(by omega),show w64(tkN p 3 2)=tkN p 3 2 from w64_id(by omega)(by omega)]
       have hW:roW p(RD 9 p.length)(tkN p 3 2)(tkN p 5 4)=bif dg p 9!=(p.length:Int) - 10 then roR cs0 3 else(fun t:Bool × Cs=>bif(bif(bif !t.1 then true else !t.2.ev)then true else !t.2.nu)then roR cs0 3 else roR t.2 0)(visL parF(p.drop 10){cs0 with hold:=tkN p 3 2,id:=tkN p 5 4}):=by
        unfold roW roV
        rw[unC_ok(ho 9(by omega)),num_RD(by omega),adv_RD(by omega),tk1,hlf,show w64(dg p 9)=dg p 9 from w64_id(by omega)(by omega),show w64(tkN p 3 2)=tkN p 3 2 from w64_id(by omega)(by omega),w3_id b0 b1,slI_ok(a:=10)(b:=(p.length:Int))(i:=10)(j:=p.length)rfl rfl(by omega)(by omega),sl_end,bylC_ok(byl_dr hb _)(by rw[List.length_drop];omega)]
       rw[hW]
       generalize visL parF(p.drop 10){cs0 with hold:=tkN p 3 2,id:=tkN p 5 4}=t at *
       have e:∀ x:Bool,crun(roR(bif x then(cs0,(3:Int))else bif dg p 9!=(p.length:Int) - 10 then(cs0,3)else(bif(bif(bif !t.1 then true else !t.2.ev)then true else !t.2.nu)then(cs0,3)else(t.2,0))).1(bif x then(cs0,(3:Int))else bif dg p 9!=(p.length:Int) - 10 then(cs0,3)else(bif(bif(bif !t.1 then true else !t.2.ev)then true else !t.2.nu)then(cs0,3)else(t.2,0))).2)=
         crun(bif x then roR cs0 3 else bif dg p 9!=(p.length:Int) - 10 then roR cs0 3 else(bif(bif(bif !t.1 then true else !t.2.ev)then true else !t.2.nu)then roR cs0 3 else roR t.2 0)):=fun x=>by
        cases x <;> cases(dg p 9!=(p.length:Int) - 10) <;> cases(bif(bif !t.1 then true else !t.2.ev)then true else !t.2.nu) <;> rfl
       cases c2:tkN p 3 2!=0 with
       | true=>
        rw[c2,cT]at h
        rw[cT]
        cases c3:decide(tkN p 3 2 < 3)with
        | true=>rw[c3]at h;exact h
        | false=>rw[c3]at h;exact(e false).symm.trans h
       | false=>
        rw[c2,cF]at h
        exact(e false).symm.trans h
 . cases h)
theorem rdK_told{o:Int × Int × List(Int × Bool) × Dz}{n:Nat}{H:HpL}{v':SV}{ups':List(Nat × Option Chunk)}(h:crun(.ret(rdV(rdO lookB o n)) [])=some(v',ups')):∃ v ups,crun(rdK o n)=some(v,ups)/\Am.Told Tryz.prog H v ups v' ups':=by
 have same:∀ {x:Nat}{c':Chunk},updF [] (HpL.get H)x=some c'->∃ c,updF [] (HpL.get H)x=some c/\CoC Tryz.prog x c c':=fun hx=>⟨_,hx,.rfl'⟩
 unfold rdK
 unfold rdO at h
 cases h0:o.1==0 with
 | true=>
  rw[h0,cT]at h
  rw[cT]
  cases h14:lookB o.2.2.1 14 with
  | true=>
   rw[h14,cT]at h
   rw[cT,Bool.not_true,cF]
   cases h12:(bif lookB o.2.2.1 1 then lookB o.2.2.1 2 else false)with
   | true=>
    rw[h12]at h;cases h
    exact⟨_,_,rfl,.rfl',fun x c' hx=>same hx⟩
   | false=>
    rw[h12]at h;cases h
    exact⟨_,_,rfl,.tup(.cons co_aI(.cons .nils(.cons .nils .rfl'))),fun x c' hx=>same hx⟩
  | false=>
   rw[h14]at h
   cases h
   exact⟨_,_,rfl,.tup(.cons co_aI(.cons .nils .rfl')),fun x c' hx=>same hx⟩
 | false=>
  rw[h0]at h
  rw[cF,cF,show(o.1!=0)=true by unfold bne;rw[h0];rfl]
  cases h
  exact⟨_,_,rfl,.tup(.cons co_aI(.cons .nils(.cons .nils .rfl'))),fun x c' hx=>same hx⟩
theorem rdl_t(l n:Nat)(es:List SV):rd_b [.qs 0 1 l n] [(0,.seq 5 es)]=
 bif decide(l+n<=es.length/\n<=1000000)then bif dec(mH 0 0 dI [] (RD 0 n)n(sl es l n)=mH 0 0 dI [] (RD 0 n)n(sl es l n)/\byl(sl es l n)/\n=(sl es l n).length/\n<=1000000)then rdK(attK(sl es l n)n 0 0 []zI)n else .fail else .fail:=by kernel_rfl
noncomputable abbrev κr9p:=openT Tryz.prog(tbl [(47,nrp_s)])300 5
noncomputable abbrev ιr9p:Nat->Bool:=fun g=>inl(tbl [(47,nrp_s)])g&&hasBody Tryz.prog g
noncomputable def rdp_b:CSumm:=bodyCL Tryz.prog κr9p ιr9p T9 true 300 Tryz.f76 m9
theorem rdp_k0:Known Tryz.prog 76 rdp_b:=⟨⟨Tryz.f76,Tryz.func76,noNum_at noNumTry Tryz.func76,rfl⟩,bodyL_valid(openT_ok noNumTry mixTry(tbl_cons nrp_k ok0)300 5)mixTry(ltab_cons mi_valid ltab_nil)Tryz.func76(show Tryz.f76.body=some(fillC T9 m9)by kernel_rfl)⟩
theorem rdp_t(es:List SV):rdp_b [.psl 5 es] []=
 bif decide(es.length<=1000000)then bif dec(mH 0 0 dI [] (RD 0 es.length)es.length es=mH 0 0 dI [] (RD 0 es.length)es.length es/\byl es/\es.length=es.length/\es.length<=1000000)then rdK(attK es es.length 0 0 []zI)es.length else .fail else .fail:=by kernel_rfl
noncomputable def areadl_s:CSumm:=fun args H=>match args,H with
 | [.qs 0 1 l n],[(0,.seq 5 es)]=>.ite(dec(byl es/\l+n<=es.length/\es.length<=1000000))(.ret(rdV(rdQ(sl es l n)n)) []) .fail
 | _,_=>.fail
theorem areadl_k:Known Tryz.prog 76 areadl_s:=known_told rd_k0(by
 intro args H v' ups' h
 unfold areadl_s at h
 split at h
 . rename_i l n es
   rw[crun_ite]at h
   cases hc:dec(byl es/\l+n<=es.length/\es.length<=1000000)with
   | false=>rw[hc]at h;cases h
   | true=>
    rw[hc,cT]at h
    obtain⟨h1,h2,h3⟩:=dec_iff.1 hc
    have ht:=rdl_t l n es
    rw[dT0(show l+n<=es.length/\n<=1000000 by omega),cT,dec_iff.2⟨rfl,h1.sl _ _,(sl_len h2).symm,by omega⟩,cT]at ht
    obtain⟨v,ups,e1,e2⟩:=rdK_told(H:=[(0,.seq 5 es)])h
    exact⟨v,ups,(congrArg crun ht).trans e1,.inr e2⟩
 . cases h)
noncomputable def areadp_s:CSumm:=fun args H=>match args,H with
 | [.psl 5 es],[]=>.ite(dec(byl es/\es.length<=1000000))(.ret(rdV(rdQ es es.length)) []) .fail
 | _,_=>.fail
theorem areadp_k:Known Tryz.prog 76 areadp_s:=known_told rdp_k0(by
 intro args H v' ups' h
 unfold areadp_s at h
 split at h
 . rename_i es
   rw[crun_ite]at h
   cases hc:dec(byl es/\es.length<=1000000)with
   | false=>rw[hc]at h;cases h
   | true=>
    rw[hc,cT]at h
    obtain⟨h1,h3⟩:=dec_iff.1 hc
    have ht:=rdp_t es
    rw[dT0 h3,cT,dec_iff.2⟨rfl,h1,rfl,h3⟩,cT]at ht
    obtain⟨v,ups,e1,e2⟩:=rdK_told(H:=[])h
    exact⟨v,ups,(congrArg crun ht).trans e1,.inr e2⟩
 . cases h)
/- Messages. -/
structure Mg where
 (k:Int)(s:Cs)(code sub:Int)(d:Ds)
def mg0:Mg:=⟨0,cs0,0,0,dI0⟩
def atL(d:Ds):List SV:=[.int .i64 d.ori,.psl 36 d.path,.int .u32 d.nx,.bool d.hm,.int .u32 d.med,.bool d.hp,.int .u32 d.prf,.bool d.ho,.int .u32 d.orr,.psl 37 d.cl,.psl 136 d.cm,.int .i64 d.tk,.int .u32 d.tl,.int .u32 d.tr,.int .u32 d.tg]
def mgV(m:Mg):SV:=.agg(.int .i64 m.k :: oV m.s++(.int .i64 m.code :: .int .i64 m.sub :: atL m.d)++[.psl 88 m.d.rch,.psl 88 m.d.unr])
def atZ:List SV:=[.int .i64 0,.nils,.int .u32 0,.bool false,.int .u32 0,.bool false,.int .u32 0,.bool false,.int .u32 0,.nils,.nils,.int .i64 0,.int .u32 0,.int .u32 0,.int .u32 0]
def mgZ(k:Int)(s:Cs)(code sub:Int):SV:=.agg(.int .i64 k :: oV s++(.int .i64 code :: .int .i64 sub :: atZ)++[.nils,.nils])
def mgR(m:SV)(e:Int):CTree:=.ret(.tup [m,.int .i64 e]) []
noncomputable abbrev κup:=tbl [(47,nrp_s),(48,un_s 2),(76,areadp_s)]
theorem upOk:KOk Tryz.prog κup:=tbl_cons nrp_k(tbl_cons u16_n(tbl_cons areadp_k ok0))
noncomputable abbrev κuq:=tbl [(47,nr_s),(48,un_s 2),(76,areadl_s)]
theorem uqOk:KOk Tryz.prog κuq:=tbl_cons nr_k(tbl_cons u16_n(tbl_cons areadl_k ok0))
def mgD(d:Ds):Mg:=⟨2,cs0,0,0,d⟩
def upK(q:Int × Int × Ds):CTree:=bif q.1!=0 then mgR(mgZ 0 cs0 0 0)q.1 else mgR(mgV(mgD q.2.2))0
theorem up_t(p:List SV):opn κup Tryz.f52 [.psl 5 p] []=newC p fun r=>unC r p 2 fun wd r=>unC r p 2 fun sz r=>
 bif(bif(bif r.err!=0 then true else wd!=0)then true else w64 sz!=lfI r)then mgR(mgZ 0 cs0 0 0)3 else slI p 4 p.length fun q=>bylC q(upK(rdQ q q.length)):=by kernel_rfl
noncomputable def newQ(es:List SV)(l n:Nat)(K:Rd->CTree):CTree:=bif decide(l+n<=es.length/\n<=1000000)then K⟨0,n,0,0⟩else .fail
noncomputable def unQ(r:Rd)(q:List SV)(n k:Nat)(K:Int->Rd->CTree):CTree:=bif dec(OkRd r q/\n=q.length)then K(r.num q k)(r.adv k)else .fail
theorem uq_t(l n:Nat)(es:List SV):opn κuq Tryz.f52 [.qs 0 1 l n] [(0,.seq 5 es)]=newQ es l n fun r=>unQ r(sl es l n)n 2 fun wd r=>unQ r(sl es l n)n 2 fun sz r=>
 bif(bif(bif r.err!=0 then true else wd!=0)then true else w64 sz!=lfI r)then mgR(mgZ 0 cs0 0 0)3 else
 bif decide((0:Int)<=4)&&decide((4:Int)<=n)&&decide((n:Int)<=n)then bif dec(byl es/\l+(4:Int).toNat+((n:Int).toNat - (4:Int).toNat)<=es.length/\es.length<=1000000)then upK(rdQ(sl es(l+(4:Int).toNat)((n:Int).toNat - (4:Int).toNat))((n:Int).toNat - (4:Int).toNat))else .fail else .fail:=by kernel_rfl
def upB(p:List SV):Bool:=decide(4<=p.length)&&decide(tkN p 0 2=0)&&decide(tkN p 2 2=(p.length:Int) - 4)
noncomputable def upP(p:List SV):Mg × Int:=
 bif !upB p then(mg0,3)else bif(rdQ(p.drop 4)(p.length - 4)).1!=0 then(mg0,(rdQ(p.drop 4)(p.length - 4)).1)else(mgD(rdQ(p.drop 4)(p.length - 4)).2.2,0)
theorem up_test{p:List SV}(hb:byl p)(hl:p.length<=1000000):
  (bif(bif(((RD 0 p.length).adv 2).adv 2).err!=0 then true else(RD 0 p.length).num p 2!=0)then true else w64(((RD 0 p.length).adv 2).num p 2)!=lfI(((RD 0 p.length).adv 2).adv 2))= !upB p:=by
 unfold upB
 by_cases h4:4<=p.length
 . obtain⟨a0,a1⟩:=tkN_rng hb.ok 2 2
   rw[p2]at a1
   have hlf:lfI(RD 4 p.length)=(p.length:Int) - 4:=by
    have:=lfI_v(s:=4)(t:=p.length)(k:=0)(by omega)hl
    rw[Nat.add_zero]at this
    rw[this];omega
   rw[num_RD(by omega),adv_RD(by omega),adv_RD(by omega),num_RD(by omega),show 0+2+2=4 from rfl,hlf,show w64(tkN p(0+2)2)=tkN p 2 2 from w64_id(by rw[Nat.zero_add];omega)(by rw[Nat.zero_add];omega),dT0 h4,show((RD 4 p.length).err!=0)=false from rfl,cF,Bool.true_and]
   by_cases c1:tkN p 0 2=0
   . rw[show(tkN p 0 2!=0)=false by simpa using c1,dT0 c1,cF,Bool.true_and]
     by_cases c2:tkN p 2 2=(p.length:Int) - 4
     . rw[dT0 c2,c2];simp
     . rw[dF c2];simpa using c2
   . rw[show(tkN p 0 2!=0)=true by simpa using c1,dF c1];rfl
 . rw[dF h4]
   have he:(((RD 0 p.length).adv 2).adv 2).err!=0:=by
    by_cases h2:2<=p.length
    . rw[adv_RD(by omega),adv_few(by omega)];rfl
    . rw[adv_few(by omega)];rfl
   rw[he];rfl
theorem co_mg:CoV Tryz.prog(mgZ 0 cs0 0 0)(mgV mg0):=.agg(.cons .rfl'(.cons .rfl'(.cons .rfl'(.cons .rfl'(.cons .rfl'(.cons .rfl'(.cons .rfl'(.cons .rfl'(.cons .rfl'(.cons .nils(.cons .rfl'(.cons .rfl'(.cons .rfl'(.cons .rfl'(.cons .rfl'(.cons .rfl'(.cons .rfl'(.cons .nils(.cons .nils(.cons .rfl'(.cons .rfl'(.cons .rfl'(.cons .rfl'(.cons .nils(.cons .nils .rfl')))))))))))))))))))))))))
theorem up_told{p:List SV}{H:HpL}{v':SV}{ups':List(Nat × Option Chunk)}(h:crun(mgR(mgV(upP p).1)(upP p).2)=some(v',ups')):∃ v ups,crun(bif !upB p then mgR(mgZ 0 cs0 0 0)3 else upK(rdQ(p.drop 4)(p.length - 4)))=some(v,ups)/\Am.Told Tryz.prog H v ups v' ups':=by
 have same:∀ {x:Nat}{c':Chunk},updF [] (HpL.get H)x=some c'->∃ c,updF [] (HpL.get H)x=some c/\CoC Tryz.prog x c c':=fun hx=>⟨_,hx,.rfl'⟩
 unfold upP at h
 cases hu: !upB p with
 | true=>rw[hu]at h;cases h;exact⟨_,_,rfl,.tup(.cons co_mg .rfl'),fun x c' hx=>same hx⟩
 | false=>
  rw[hu,cF]at h
  rw[cF]
  unfold upK
  generalize rdQ(p.drop 4)(p.length - 4)=q at *
  cases hq:q.1!=0 with
  | true=>rw[hq]at h;cases h;exact⟨_,_,rfl,.tup(.cons co_mg .rfl'),fun x c' hx=>same hx⟩
  | false=>rw[hq]at h;cases h;exact⟨_,_,rfl,.rfl',fun x c' hx=>same hx⟩
noncomputable def updp_s:CSumm:=fun args H=>match args,H with
 | [.psl 5 p],[]=>.ite(dec(byl p/\p.length<=1000000))(mgR(mgV(upP p).1)(upP p).2) .fail
 | _,_=>.fail
theorem updp_k:Known Tryz.prog 52 updp_s:=known_told(openKnown upOk Tryz.func52 rfl)(by
 intro args H v' ups' h
 unfold updp_s at h
 split at h
 . rename_i p
   rw[crun_ite]at h
   cases hc:dec(byl p/\p.length<=1000000)with
   | false=>rw[hc]at h;cases h
   | true=>
    rw[hc,cT]at h
    obtain⟨hb,hl⟩:=dec_iff.1 hc
    have ht:=up_t p
    rw[newC_ok hl,unC_ok(okRD hb hl(Nat.zero_le _)),unC_ok((okRD hb hl(Nat.zero_le _)).adv 2),up_test hb hl]at ht
    obtain⟨v,ups,e1,e2⟩:=up_told(H:=[])h
    refine⟨v,ups,?_,.inr e2⟩
    refine(congrArg crun ht).trans(Eq.trans ?_ e1)
    cases hu:upB p with
    | false=>rfl
    | true=>
     have h4:4<=p.length:=by
      unfold upB at hu
      simp only[bA,decide_eq_true_eq]at hu
      exact hu.1.1
     rw[Bool.not_true,cF,cF,slI_ok(a:=4)(b:=(p.length:Int))(i:=4)(j:=p.length)rfl rfl h4(by omega),sl_end,bylC_ok(byl_dr hb _)(by rw[List.length_drop];omega),List.length_drop]
 . cases h)
noncomputable def updq_s:CSumm:=fun args H=>match args,H with
 | [.qs 0 1 l n],[(0,.seq 5 es)]=>.ite(dec(byl es/\l+n<=es.length/\es.length<=1000000))(mgR(mgV(upP(sl es l n)).1)(upP(sl es l n)).2) .fail
 | _,_=>.fail
theorem sl_sl{es:List SV}{l n k:Nat}:sl es(l+k)(n - k)=(sl es l n).drop k:=(sl_drop es l n k).symm
theorem updq_k:Known Tryz.prog 52 updq_s:=known_told(openKnown uqOk Tryz.func52 rfl)(by
 intro args H v' ups' h
 unfold updq_s at h
 split at h
 . rename_i l n es
   rw[crun_ite]at h
   cases hc:dec(byl es/\l+n<=es.length/\es.length<=1000000)with
   | false=>rw[hc]at h;cases h
   | true=>
    rw[hc,cT]at h
    obtain⟨hb,hl,hm⟩:=dec_iff.1 hc
    have ht:=uq_t l n es
    have hp:(sl es l n).length=n:=sl_len hl
    have hbp:byl(sl es l n):=hb.sl _ _
    have ho:OkRd(RD 0 n)(sl es l n):=by have:=okRD hbp(by omega)(Nat.zero_le _);rwa [hp]at this
    have hte:=up_test hbp(by omega)
    rw[hp]at hte
    have e1:∀ K,newQ es l n K=K(RD 0 n):=fun K=>by unfold newQ;rw[dT0(by omega)];rfl
    have e2:∀ {r:Rd}(k:Nat)(K:Int->Rd->CTree),OkRd r(sl es l n)->unQ r(sl es l n)n k K=K(r.num(sl es l n)k)(r.adv k):=fun k K hr=>by unfold unQ;rw[dec_iff.2⟨hr,hp.symm⟩,cT]
    rw[e1,e2 _ _ ho,e2 _ _(ho.adv 2),hte]at ht
    obtain⟨v,ups,g1,g2⟩:=up_told(H:=[(0,.seq 5 es)])h
    refine⟨v,ups,?_,.inr g2⟩
    refine(congrArg crun ht).trans(Eq.trans ?_ g1)
    cases hu:upB(sl es l n)with
    | false=>rfl
    | true=>
     have h4:4<=n:=by
      unfold upB at hu
      simp only[bA,decide_eq_true_eq]at hu
      omega
     rw[Bool.not_true,cF,cF,dT0(show(0:Int)<=4 by omega),dT0(show(4:Int)<=n by omega),dT0(Int.le_refl _),dec_iff.2⟨hb,by show l+4+(n - 4)<=_;omega,hm⟩]
     simp only[Bool.and_self,cT]
     show crun(upK(rdQ(sl es(l+4)(n - 4))(n - 4)))=_
     rw[sl_sl,hp]
 . cases h)
noncomputable abbrev κrd:=tbl [(47,nrp_s),(48,un_s 2),(49,un_s 1),(51,ropen_s),(52,updp_s)]
theorem rdOk:KOk Tryz.prog κrd:=tbl_cons nrp_k(tbl_cons u16_n(tbl_cons u8_n(tbl_cons ropen_k(tbl_cons updp_k ok0))))
def mgE(e:Int):CTree:=mgR(mgZ 0 cs0 0 0)e
theorem mread_t(k:Int)(p:List SV):opn κrd Tryz.f33 [.int .i64 k,.psl 5 p] []=
 bif k==1 then bylC p(bif(roP p).2!=0 then mgE(roP p).2 else mgR(mgZ k(roP p).1 0 0)0)else
 bif k==2 then bylC p(mgR(mgV(upP p).1)(upP p).2)else
 bif k==3 then(bif decide((p.length:Int) < 2)then mgE 3 else bif inB 0 p.length then bif inB 1 p.length then mgR(mgZ k cs0(w64(dg p 0))(w64(dg p 1)))0 else .fail else .fail)else
 bif k==4 then(bif decide((p.length:Int) > 0)then mgE 3 else mgR(mgZ k cs0 0 0)0)else
 bif k==5 then newC p fun r=>unC r p 2 fun hi r=>unC r p 1 fun _ r=>unC r p 1 fun lo _=>bif(bif(bif(p.length:Int)!=4 then true else hi!=25)then true else lo!=70)then mgE 3 else mgR(mgZ k cs0 0 0)0
 else mgR(mgZ k cs0 0 0)0:=by kernel_rfl
noncomputable abbrev κrq:=tbl [(52,updq_s)]
theorem readq_t(l n:Nat)(es:List SV):opn κrq Tryz.f33 [.int .i64 2,.qs 0 1 l n] [(0,.seq 5 es)]=bif dec(byl es/\l+n<=es.length/\es.length<=1000000)then mgR(mgV(upP(sl es l n)).1)(upP(sl es l n)).2 else .fail:=by kernel_rfl
def mgK(k:Int):Mg:=⟨k,cs0,0,0,dI0⟩
noncomputable def rdP(k:Int)(p:List SV):Mg × Int:=
 bif k==1 then(bif(roP p).2!=0 then(mg0,(roP p).2)else(⟨k,(roP p).1,0,0,dI0⟩,0))else bif k==2 then upP p else
 bif k==3 then(bif decide(p.length < 2)then(mg0,3)else(⟨k,cs0,dg p 0,dg p 1,dI0⟩,0))else bif k==4 then(bif decide(0 < p.length)then(mg0,3)else(mgK k,0))else
 bif k==5 then(bif(bif(bif decide(p.length≠4)then true else tkN p 0 2!=25)then true else dg p 3!=70)then(mg0,3)else(mgK k,0))else(mgK k,0)
def mgY(m:Mg):SV:=mgZ m.k m.s m.code m.sub
theorem rdP_d{k:Int}(h:k≠2)(p:List SV):(rdP k p).1.d=dI0:=by
 unfold rdP
 rw[show(k==2)=false by simpa using h]
 cases k==1 with
 | true=>cases(roP p).2!=0 <;> rfl
 | false=>
  cases k==3 with
  | true=>cases decide(p.length < 2) <;> rfl
  | false=>
   cases k==4 with
   | true=>cases decide(0 < p.length) <;> rfl
   | false=>
    cases k==5 with
    | true=>cases(bif(bif decide(p.length≠4)then true else tkN p 0 2!=25)then true else dg p 3!=70) <;> rfl
    | false=>rfl
theorem co_mgY{m:Mg}(h:m.d=dI0):CoV Tryz.prog(mgY m)(mgV m):=by
 unfold mgV
 rw[h]
 exact .agg(.cons .rfl'(.cons .rfl'(.cons .rfl'(.cons .rfl'(.cons .rfl'(.cons .rfl'(.cons .rfl'(.cons .rfl'(.cons .rfl'(.cons .nils(.cons .rfl'(.cons .rfl'(.cons .rfl'(.cons .rfl'(.cons .rfl'(.cons .rfl'(.cons .rfl'(.cons .nils(.cons .nils(.cons .rfl'(.cons .rfl'(.cons .rfl'(.cons .rfl'(.cons .nils(.cons .nils .rfl')))))))))))))))))))))))))
noncomputable def readn_s:CSumm:=fun args H=>match args,H with
 | [.int .i64 k,.psl 5 p],[]=>.ite(dec(k≠2/\byl p/\p.length<=1000000))(mgR(mgY(rdP k p).1)(rdP k p).2) .fail
 | _,_=>.fail
theorem readn_k:Known Tryz.prog 33 readn_s:=(openKnown rdOk Tryz.func33 rfl).weak(by
 intro args H v ups h
 unfold readn_s at h
 split at h
 . rename_i k p
   rw[crun_ite]at h
   cases hc:dec(k≠2/\byl p/\p.length<=1000000)with
   | false=>rw[hc]at h;cases h
   | true=>
    rw[hc,cT]at h
    obtain⟨h2,hb,hl⟩:=dec_iff.1 hc
    refine(congrArg crun(mread_t k p)).trans(Eq.trans(congrArg crun ?_)h)
    unfold rdP
    rw[show(k==2)=false by simpa using h2,bylC_ok hb hl]
    cases k==1 with
    | true=>cases(roP p).2!=0 <;> rfl
    | false=>
     rw[cF,cF,cF,cF]
     cases k==3 with
     | true=>
      rw[cT,cT]
      by_cases hp:p.length < 2
      . rw[dT0 hp,dT0(by omega)];rfl
      . obtain⟨a0,a1⟩:=hb.ok 0
        obtain⟨b0,b1⟩:=hb.ok 1
        rw[dF hp,dF(by omega),cF,inB_ok(by omega)(by omega),inB_ok(by omega)(by omega),cT,cT,show w64(dg p 0)=dg p 0 from w64_id(by omega)(by omega),show w64(dg p 1)=dg p 1 from w64_id(by omega)(by omega)];rfl
     | false=>
      rw[cF,cF]
      cases k==4 with
      | true=>
       rw[cT,cT]
       by_cases hp:0 < p.length
       . rw[dT0 hp,dT0(by omega)];rfl
       . rw[dF hp,dF(by omega)];rfl
      | false=>
       rw[cF,cF]
       cases k==5 with
       | false=>rfl
       | true=>
        rw[cT,cT]
        have ho:=okRD hb hl(s:=0)(Nat.zero_le _)
        rw[newC_ok hl,unC_ok ho,unC_ok(ho.adv 2),unC_ok((ho.adv 2).adv 1)]
        by_cases h4:p.length=4
        . rw[h4,dF(show ¬ (4:Nat)≠4 by simp),show(((4:Nat):Int)!=4)=false from rfl,num_RD(by omega),adv_RD(by omega),adv_RD(by omega),num_RD(by omega),tk1]
          simp only[cF]
          show(bif(bif tkN p 0 2!=25 then true else dg p 3!=70)then mgE 3 else mgR(mgZ k cs0 0 0)0)=_
          cases(bif tkN p 0 2!=25 then true else dg p 3!=70) <;> rfl
        . rw[dT0 h4,show((p.length:Int)!=4)=true by simp;omega];rfl
 . cases h)
noncomputable def readnq_s:CSumm:=fun args H=>match args,H with
 | [.int .i64 k,.qs 0 1 l n],[(0,.seq 5 es)]=>.ite(dec(k≠2/\byl es/\l+n<=es.length/\es.length<=1000000))(mgR(mgY(rdP k(sl es l n)).1)(rdP k(sl es l n)).2) .fail
 | _,_=>.fail
theorem readnq_k:Known Tryz.prog 33 readnq_s:=known_view readn_k(by
 intro args H v ups h
 unfold readnq_s at h
 split at h
 . rename_i k l n es
   rw[crun_ite]at h
   cases hc:dec(k≠2/\byl es/\l+n<=es.length/\es.length<=1000000)with
   | false=>rw[hc]at h;cases h
   | true=>
    rw[hc,cT]at h
    obtain⟨h2,hb,hl,hm⟩:=dec_iff.1 hc
    cases h
    refine⟨[.int .i64 k],5,es,l,n,1,rfl,rfl,cells5.symm,hl,rfl,rfl,fun _=>rfl,?_⟩
    show crun(.ite(dec(k≠2/\byl(sl es l n)/\(sl es l n).length<=1000000))(mgR(mgY(rdP k(sl es l n)).1)(rdP k(sl es l n)).2) .fail)=_
    rw[crun_ite,dec_iff.2⟨h2,hb.sl _ _,by rw[sl_len hl];omega⟩];rfl
 . cases h)
noncomputable def reada_s:CSumm:=fun args H=>match args,H with
 | [.int .i64 k,.psl 5 p],[]=>.ite(dec(k≠2/\byl p/\p.length<=1000000))(mgR(mgV(rdP k p).1)(rdP k p).2) .fail
 | [.int .i64 k,.qs 0 1 l n],[(0,.seq 5 es)]=>.ite(dec(k≠2/\byl es/\l+n<=es.length/\es.length<=1000000))(mgR(mgV(rdP k(sl es l n)).1)(rdP k(sl es l n)).2) .fail
 | _,_=>.fail
noncomputable def readm_s:CSumm:=fun args H=>match args,H with
 | [.int .i64 k,.psl 5 p],[]=>.ite(dec(k≠2/\byl p/\p.length<=1000000))(mgR(mgY(rdP k p).1)(rdP k p).2) .fail
 | [.int .i64 k,.qs 0 1 l n],[(0,.seq 5 es)]=>.ite(dec(k≠2/\byl es/\l+n<=es.length/\es.length<=1000000))(mgR(mgY(rdP k(sl es l n)).1)(rdP k(sl es l n)).2) .fail
 | _,_=>.fail
theorem readm_k:Known Tryz.prog 33 readm_s:=known_or readn_k readnq_k(by
 intro args H v ups h
 unfold readm_s at h
 split at h
 . exact .inl h
 . exact .inr h
 . cases h)
theorem reada_k:Known Tryz.prog 33 reada_s:=known_told readm_k(by
 intro args H v ups h
 have same:∀ {H:HpL}{x:Nat}{c':Chunk},updF [] (HpL.get H)x=some c'->∃ c,updF [] (HpL.get H)x=some c/\CoC Tryz.prog x c c':=fun hx=>⟨_,hx,.rfl'⟩
 unfold reada_s at h
 split at h
 . rename_i k p
   rw[crun_ite]at h
   cases hc:dec(k≠2/\byl p/\p.length<=1000000)with
   | false=>rw[hc]at h;cases h
   | true=>
    rw[hc,cT]at h
    cases h
    refine⟨.tup [mgY(rdP k p).1,.int .i64(rdP k p).2],[],?_,.inr⟨.tup(.cons(co_mgY(rdP_d(dec_iff.1 hc).1 p)) .rfl'),fun x c' hx=>same hx⟩⟩
    show crun(.ite(dec(k≠2/\byl p/\p.length<=1000000))_ _)=_
    rw[crun_ite,hc];rfl
 . rename_i k l n es
   rw[crun_ite]at h
   cases hc:dec(k≠2/\byl es/\l+n<=es.length/\es.length<=1000000)with
   | false=>rw[hc]at h;cases h
   | true=>
    rw[hc,cT]at h
    cases h
    refine⟨.tup [mgY(rdP k(sl es l n)).1,.int .i64(rdP k(sl es l n)).2],[],?_,.inr⟨.tup(.cons(co_mgY(rdP_d(dec_iff.1 hc).1 _)) .rfl'),fun x c' hx=>same hx⟩⟩
    show crun(.ite(dec(k≠2/\byl es/\l+n<=es.length/\es.length<=1000000))_ _)=_
    rw[crun_ite,hc];rfl
 . cases h)
noncomputable def readu_s:CSumm:=fun args H=>match args,H with
 | [.int .i64 k,.psl 5 p],[]=>.ite(dec(k=2/\byl p/\p.length<=1000000))(mgR(mgV(rdP k p).1)(rdP k p).2) .fail
 | _,_=>.fail
theorem readu_k:Known Tryz.prog 33 readu_s:=(openKnown rdOk Tryz.func33 rfl).weak(by
 intro args H v ups h
 unfold readu_s at h
 split at h
 . rename_i k p
   rw[crun_ite]at h
   cases hc:dec(k=2/\byl p/\p.length<=1000000)with
   | false=>rw[hc]at h;cases h
   | true=>
    rw[hc,cT]at h
    obtain⟨rfl,hb,hl⟩:=dec_iff.1 hc
    refine(congrArg crun(mread_t 2 p)).trans ?_
    show crun(bylC p(mgR(mgV(upP p).1)(upP p).2))=_
    rw[bylC_ok hb hl]
    exact h
 . cases h)
noncomputable def readuq_s:CSumm:=fun args H=>match args,H with
 | [.int .i64 k,.qs 0 1 l n],[(0,.seq 5 es)]=>.ite(dec(k=2/\byl es/\l+n<=es.length/\es.length<=1000000))(mgR(mgV(rdP k(sl es l n)).1)(rdP k(sl es l n)).2) .fail
 | _,_=>.fail
theorem readuq_k:Known Tryz.prog 33 readuq_s:=(openKnown(tbl_cons updq_k ok0)Tryz.func33 rfl).weak(by
 intro args H v ups h
 unfold readuq_s at h
 split at h
 . rename_i k l n es
   rw[crun_ite]at h
   cases hc:dec(k=2/\byl es/\l+n<=es.length/\es.length<=1000000)with
   | false=>rw[hc]at h;cases h
   | true=>
    rw[hc,cT]at h
    obtain⟨rfl,hb⟩:=dec_iff.1 hc
    refine(congrArg crun(readq_t l n es)).trans ?_
    rw[dec_iff.2 hb]
    exact h
 . cases h)
noncomputable def readb_s:CSumm:=fun args H=>match args,H with
 | [.int .i64 k,.psl 5 p],[]=>.ite(dec(k=2/\byl p/\p.length<=1000000))(mgR(mgV(rdP k p).1)(rdP k p).2) .fail
 | [.int .i64 k,.qs 0 1 l n],[(0,.seq 5 es)]=>.ite(dec(k=2/\byl es/\l+n<=es.length/\es.length<=1000000))(mgR(mgV(rdP k(sl es l n)).1)(rdP k(sl es l n)).2) .fail
 | _,_=>.fail
theorem readb_k:Known Tryz.prog 33 readb_s:=known_or readu_k readuq_k(by
 intro args H v ups h
 unfold readb_s at h
 split at h
 . exact .inl h
 . exact .inr h
 . cases h)
noncomputable def read2_s:CSumm:=fun args H=>match args,H with
 | [.int .i64 k,.psl 5 p],[]=>.ite(dec(byl p/\p.length<=1000000))(mgR(mgV(rdP k p).1)(rdP k p).2) .fail
 | [.int .i64 k,.qs 0 1 l n],[(0,.seq 5 es)]=>.ite(dec(byl es/\l+n<=es.length/\es.length<=1000000))(mgR(mgV(rdP k(sl es l n)).1)(rdP k(sl es l n)).2) .fail
 | _,_=>.fail
theorem read2_k:Known Tryz.prog 33 read2_s:=known_or reada_k readb_k(by
 intro args H v ups h
 unfold read2_s at h
 split at h
 . rename_i k p
   rw[crun_ite]at h
   cases hc:dec(byl p/\p.length<=1000000)with
   | false=>rw[hc]at h;cases h
   | true=>
    rw[hc,cT]at h
    have hb:=dec_iff.1 hc
    by_cases h2:k=2
    . right
      show crun(.ite(dec(k=2/\byl p/\p.length<=1000000))_ _)=_
      rw[crun_ite,dec_iff.2⟨h2,hb⟩];exact h
    . left
      show crun(.ite(dec(k≠2/\byl p/\p.length<=1000000))_ _)=_
      rw[crun_ite,dec_iff.2⟨h2,hb⟩];exact h
 . rename_i k l n es
   rw[crun_ite]at h
   cases hc:dec(byl es/\l+n<=es.length/\es.length<=1000000)with
   | false=>rw[hc]at h;cases h
   | true=>
    rw[hc,cT]at h
    have hb:=dec_iff.1 hc
    by_cases h2:k=2
    . right
      show crun(.ite(dec(k=2/\byl es/\l+n<=es.length/\es.length<=1000000))_ _)=_
      rw[crun_ite,dec_iff.2⟨h2,hb⟩];exact h
    . left
      show crun(.ite(dec(k≠2/\byl es/\l+n<=es.length/\es.length<=1000000))_ _)=_
      rw[crun_ite,dec_iff.2⟨h2,hb⟩];exact h
 . cases h)
end Go.Proofs.YtnlmhpancboddaaGreat
