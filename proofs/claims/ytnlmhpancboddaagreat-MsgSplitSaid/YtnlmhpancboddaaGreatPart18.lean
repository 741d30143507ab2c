/- Messages: the body of an OPEN. -/
import Derived.Test.YtnlmhpancboddaaGreatPart17
set_option linter.unusedVariables false
set_option linter.unusedSimpArgs false
namespace Go.Proofs.YtnlmhpancboddaaGreat
open Go.Am
set_option maxRecDepth 100000
noncomputable abbrev κro:=tbl [(47,ly),(48,fj 2),(49,fj 1),(70,fj 4),(73,mF)]
theorem Ou:KOk Tryz.prog κro:=af rG (af rF (af AK (af rO (af Ja ok0))))
def cs0:Cs:=⟨false,false,false,0,0,0,0,false⟩
def opV(s:Cs):SV:=.agg (oV s)
def roR(s:Cs)(e:Int):CTree:=.ret (.tup [opV s,.int .i64 e]) []
noncomputable def roV(p:List SV)(s:Cs):CTree:=slI p 10 p.length fun q=>lF q ((fun t:Bool × Cs=>bif(bif(bif !t.1 then true else !t.2.ev)then true else !t.2.nu)then roR cs0 3 else roR t.2 0) (eJ fV q s))
noncomputable def roW(p:List SV)(r:Rd)(hold id:Int):CTree:=unC r p 1 fun n r=>bif w64 n !=lfI r then roR cs0 3 else roV p {cs0 with hold:=w64 hold,id:=w3 id}
theorem Ov(p:List SV):opn κro Tryz.f51 [.psl 5 p] []=
 bif decide ((p.length:Int) < 10)then roR cs0 3 else wy p fun r=>unC r p 1 fun ver r=>bif ver !=4 then roR cs0 15 else unC r p 2 fun _ r=>unC r p 2 fun hold r=>unC r p 4 fun id r=>
  bif w64 hold !=0 then bif decide (w64 hold < 3)then roR cs0 3 else roW p r hold id else roW p r hold id:=by kernel_rfl
def roP(p:List SV):Cs × Int:=
 bif decide (p.length < 10)then(cs0,3)else bif dg p 0 !=4 then(cs0,15)else bif(bif tkN p 3 2 !=0 then decide (tkN p 3 2 < 3)else false)then(cs0,3)else bif dg p 9 !=(p.length:Int) - 10 then(cs0,3)else
 (fun t:Bool × Cs=>bif(bif(bif !t.1 then true else !t.2.ev)then true else !t.2.nu)then(cs0,3)else(t.2,0)) (eJ fV (p.drop 10) {cs0 with hold:=tkN p 3 2,id:=tkN p 5 4})
noncomputable def s9:ag:=fun args H=>match args,H with
 | [.psl 5 p],[]=>.ite (dec (byl p/\p.length<=1000000)) (roR (roP p).1 (roP p).2) .fail
 | _,_=>.fail
theorem p4:(256:Int) ^ 4=4294967296:=by decide
theorem Gq     :Known Tryz.prog 51 s9     :=(am        Ou   Tryz.func51 rfl).weak (by
 intro args H v ups h
 unfold s9 at h
 split at h
 . rename_i p
   rw[aa]at h
   cases hc:dec (byl p/\p.length<=1000000)with
   | false=>rw[hc]at h;cases h
   | true=>
    rw[hc,cT]at h
    obtain⟨hb,hl⟩:=dec_iff.1 hc
    refine(congrArg ac (Ov p)).trans ?_
    unfold roP at h
    by_cases h10:p.length < 10
    . rw[dT0 (show(p.length:Int) < 10 by omega),cT]
      rw[dT0 h10]at h
      exact h
    . have ho:∀ s,s<=p.length->OkRd (RD s p.length) p:=fun s hs=>t9   hb hl hs
      obtain⟨a0,a1⟩:=aX hb.ok 3 2
      obtain⟨b0,b1⟩:=aX hb.ok 5 4
      obtain⟨d0,d1⟩:=hb.ok 9
      rw[p2]at a1
      rw[p4]at b1
      have hlf:lfI (RD 10 p.length)=(p.length:Int) - 10:=by
       have:=iE (s:=10) (t:=p.length) (k:=0) (by omega) hl
       rw[Nat.add_zero]at this
       rw[this];omega
      rw[dF h10,cF]at h
      rw[dF (show ¬ (p.length:Int) < 10 by omega),cF,k9 hl,dH (ho 0 (by omega)),bi (by omega),aW (by omega),tk1]
      cases c1:dg p 0 !=4 with
      | true=>rw[c1,cT]at h;exact h
      | false=>
       rw[c1,cF]at h
       rw[cF,dH (ho 1 (by omega)),aW (by omega),dH (ho 3 (by omega)),bi (by omega),aW (by omega),dH (ho 5 (by omega)),bi (by omega),aW (by omega),show w64 (tkN p 3 2)=tkN p 3 2 from ai (by omega) (by omega)]
       have hW:roW p (RD 9 p.length) (tkN p 3 2) (tkN p 5 4)=bif dg p 9 !=(p.length:Int) - 10 then roR cs0 3 else(fun t:Bool × Cs=>bif(bif(bif !t.1 then true else !t.2.ev)then true else !t.2.nu)then roR cs0 3 else roR t.2 0) (eJ fV (p.drop 10) {cs0 with hold:=tkN p 3 2,id:=tkN p 5 4}):=by
        unfold roW roV
        rw[dH (ho 9 (by omega)),bi (by omega),aW (by omega),tk1,hlf,show w64 (dg p 9)=dg p 9 from ai (by omega) (by omega),show w64 (tkN p 3 2)=tkN p 3 2 from ai (by omega) (by omega),bc b0 b1,eK (a:=10) (b:=(p.length:Int)) (i:=10) (j:=p.length) rfl rfl (by omega) (by omega),ia,eg (jl hb _) (by rw[List.length_drop];omega)]
       rw[hW]
       generalize eJ fV (p.drop 10) {cs0 with hold:=tkN p 3 2,id:=tkN p 5 4}=t at *
       have e:∀ x:Bool,ac (roR (bif x then(cs0,(3:Int))else bif dg p 9 !=(p.length:Int) - 10 then(cs0,3)else(bif(bif(bif !t.1 then true else !t.2.ev)then true else !t.2.nu)then(cs0,3)else(t.2,0))).1 (bif x then(cs0,(3:Int))else bif dg p 9 !=(p.length:Int) - 10 then(cs0,3)else(bif(bif(bif !t.1 then true else !t.2.ev)then true else !t.2.nu)then(cs0,3)else(t.2,0))).2)=
         ac (bif x then roR cs0 3 else bif dg p 9 !=(p.length:Int) - 10 then roR cs0 3 else(bif(bif(bif !t.1 then true else !t.2.ev)then true else !t.2.nu)then roR cs0 3 else roR t.2 0)):=fun x=>by
        cases x <;> cases(dg p 9 !=(p.length:Int) - 10) <;> cases(bif(bif !t.1 then true else !t.2.ev)then true else !t.2.nu) <;> rfl
       cases c2:tkN p 3 2 !=0 with
       | true=>
        rw[c2,cT]at h
        rw[cT]
        cases c3:decide (tkN p 3 2 < 3)with
        | true=>rw[c3]at h;exact h
        | false=>rw[c3]at h;exact(e false).symm.trans h
       | false=>
        rw[c2,cF]at h
        exact(e false).symm.trans h
 . cases h)
theorem vU{o:Int × Int × List (Int × Bool) × Dz}{n:Nat}{H:HpL}{v':SV}{ups':List (Nat × Option Chunk)}(h:ac (.ret (rdV (rdO bw o n)) [])=some (v',ups')):∃ v ups,ac (rdK o n)=some (v,ups)/\Am.Told Tryz.prog H v ups v' ups':=by
 have same:∀ {x:Nat} {c':Chunk},ad [] (HpL.get H) x=some c'->∃ c,ad [] (HpL.get H) x=some c/\CoC Tryz.prog x c c':=fun hx=>⟨_,hx,.rfl'⟩
 unfold rdK
 unfold rdO at h
 cases h0:o.1==0 with
 | true=>
  rw[h0,cT]at h
  rw[cT]
  cases h14:bw o.2.2.1 14 with
  | true=>
   rw[h14,cT]at h
   rw[cT,Bool.not_true,cF]
   cases h12:(bif bw o.2.2.1 1 then bw o.2.2.1 2 else false)with
   | true=>
    rw[h12]at h;cases h
    exact⟨_,_,rfl,.rfl',fun x c' hx=>same hx⟩
   | false=>
    rw[h12]at h;cases h
    exact⟨_,_,rfl,.tup (.cons qP (.cons .nils (.cons .nils .rfl'))),fun x c' hx=>same hx⟩
  | false=>
   rw[h14]at h
   cases h
   exact⟨_,_,rfl,.tup (.cons qP (.cons .nils .rfl')),fun x c' hx=>same hx⟩
 | false=>
  rw[h0]at h
  rw[cF,cF,show(o.1 !=0)=true by unfold bne;rw[h0];rfl]
  cases h
  exact⟨_,_,rfl,.tup (.cons qP (.cons .nils (.cons .nils .rfl'))),fun x c' hx=>same hx⟩
theorem M7(l n:Nat)(es:List SV):Nc [.qs 0 1 l n] [(0,.seq 5 es)]=
 bif decide (l+n<=es.length/\n<=1000000)then bif dec (mH 0 0 dI [] (RD 0 n) n (sl es l n)=mH 0 0 dI [] (RD 0 n) n (sl es l n)/\byl (sl es l n)/\n=(sl es l n).length/\n<=1000000)then rdK (fg (sl es l n) n 0 0 [] zI) n else .fail else .fail:=by kernel_rfl
noncomputable abbrev κr9p:=bn Tryz.prog (tbl [(47,ly)]) 300 5
noncomputable abbrev ιr9p:Nat->Bool:=fun g=>inl (tbl [(47,ly)]) g&&bB Tryz.prog g
noncomputable def HZ:ag:=bE Tryz.prog κr9p ιr9p T9 true 300 Tryz.f76 m9
theorem Kj:Known Tryz.prog 76 HZ:=⟨⟨Tryz.f76,Tryz.func76,bf ak Tryz.func76,rfl⟩,aS (aL ak aq (af rG ok0) 300 5) aq (ba wc aE) Tryz.func76 (show Tryz.f76.body=some (aN T9 m9)by kernel_rfl)⟩
theorem M8(es:List SV):HZ [.psl 5 es] []=
 bif decide (es.length<=1000000)then bif dec (mH 0 0 dI [] (RD 0 es.length) es.length es=mH 0 0 dI [] (RD 0 es.length) es.length es/\byl es/\es.length=es.length/\es.length<=1000000)then rdK (fg es es.length 0 0 [] zI) es.length else .fail else .fail:=by kernel_rfl
noncomputable def qb:ag:=fun args H=>match args,H with
 | [.qs 0 1 l n],[(0,.seq 5 es)]=>.ite (dec (byl es/\l+n<=es.length/\es.length<=1000000)) (.ret (rdV (rdQ (sl es l n) n)) []) .fail
 | _,_=>.fail
theorem D2:Known Tryz.prog 76 qb:=bd Nd (by
 intro args H v' ups' h
 unfold qb at h
 split at h
 . rename_i l n es
   rw[aa]at h
   cases hc:dec (byl es/\l+n<=es.length/\es.length<=1000000)with
   | false=>rw[hc]at h;cases h
   | true=>
    rw[hc,cT]at h
    obtain⟨h1,h2,h3⟩:=dec_iff.1 hc
    have ht:=M7 l n es
    rw[dT0 (show l+n<=es.length/\n<=1000000 by omega),cT,dec_iff.2 ⟨rfl,h1.sl _ _,(dK h2).symm,by omega⟩,cT]at ht
    obtain⟨v,ups,e1,e2⟩:=vU (H:=[(0,.seq 5 es)]) h
    exact⟨v,ups,(congrArg ac ht).trans e1,.inr e2⟩
 . cases h)
noncomputable def qd:ag:=fun args H=>match args,H with
 | [.psl 5 es],[]=>.ite (dec (byl es/\es.length<=1000000)) (.ret (rdV (rdQ es es.length)) []) .fail
 | _,_=>.fail
theorem D3:Known Tryz.prog 76 qd:=bd Kj (by
 intro args H v' ups' h
 unfold qd at h
 split at h
 . rename_i es
   rw[aa]at h
   cases hc:dec (byl es/\es.length<=1000000)with
   | false=>rw[hc]at h;cases h
   | true=>
    rw[hc,cT]at h
    obtain⟨h1,h3⟩:=dec_iff.1 hc
    have ht:=M8 es
    rw[dT0 h3,cT,dec_iff.2 ⟨rfl,h1,rfl,h3⟩,cT]at ht
    obtain⟨v,ups,e1,e2⟩:=vU (H:=[]) h
    exact⟨v,ups,(congrArg ac ht).trans e1,.inr e2⟩
 . cases h)
/- Messages. -/
structure Mg where
 (k:Int) (s:Cs) (code sub:Int) (d:Ds)
def mg0:Mg:=⟨0,cs0,0,0,dI0⟩
def atL(d:Ds):List SV:=[.int .i64 d.ori,.psl 36 d.path,.int .u32 d.nx,.bool d.hm,.int .u32 d.med,.bool d.hp,.int .u32 d.prf,.bool d.ho,.int .u32 d.orr,.psl 37 d.cl,.psl 136 d.cm,.int .i64 d.tk,.int .u32 d.tl,.int .u32 d.tr,.int .u32 d.tg]
def mgV(m:Mg):SV:=.agg (.int .i64 m.k :: oV m.s++(.int .i64 m.code :: .int .i64 m.sub :: atL m.d)++[.psl 88 m.d.rch,.psl 88 m.d.unr])
def atZ:List SV:=[.int .i64 0,.nils,.int .u32 0,.bool false,.int .u32 0,.bool false,.int .u32 0,.bool false,.int .u32 0,.nils,.nils,.int .i64 0,.int .u32 0,.int .u32 0,.int .u32 0]
def mgZ(k:Int)(s:Cs)(code sub:Int):SV:=.agg (.int .i64 k :: oV s++(.int .i64 code :: .int .i64 sub :: atZ)++[.nils,.nils])
def mgR(m:SV)(e:Int):CTree:=.ret (.tup [m,.int .i64 e]) []
noncomputable abbrev κup:=tbl [(47,ly),(48,fj 2),(76,qd)]
theorem OX:KOk Tryz.prog κup:=af rG (af rF (af D3 ok0))
noncomputable abbrev κuq:=tbl [(47,Ap),(48,fj 2),(76,qb)]
theorem OY:KOk Tryz.prog κuq:=af I2 (af rF (af D2 ok0))
def mgD(d:Ds):Mg:=⟨2,cs0,0,0,d⟩
def upK(q:Int × Int × Ds):CTree:=bif q.1 !=0 then mgR (mgZ 0 cs0 0 0) q.1 else mgR (mgV (mgD q.2.2)) 0
theorem OZ(p:List SV):opn κup Tryz.f52 [.psl 5 p] []=wy p fun r=>unC r p 2 fun wd r=>unC r p 2 fun sz r=>
 bif(bif(bif r.err !=0 then true else wd !=0)then true else w64 sz !=lfI r)then mgR (mgZ 0 cs0 0 0) 3 else slI p 4 p.length fun q=>lF q (upK (rdQ q q.length)):=by kernel_rfl
noncomputable def KG(es:List SV)(l n:Nat)(K:Rd->CTree):CTree:=bif decide (l+n<=es.length/\n<=1000000)then K ⟨0,n,0,0⟩else .fail
noncomputable def unQ(r:Rd)(q:List SV)(n k:Nat)(K:Int->Rd->CTree):CTree:=bif dec (OkRd r q/\n=q.length)then K (r.num q k) (r.adv k)else .fail
theorem O0(l n:Nat)(es:List SV):opn κuq Tryz.f52 [.qs 0 1 l n] [(0,.seq 5 es)]=KG es l n fun r=>unQ r (sl es l n) n 2 fun wd r=>unQ r (sl es l n) n 2 fun sz r=>
 bif(bif(bif r.err !=0 then true else wd !=0)then true else w64 sz !=lfI r)then mgR (mgZ 0 cs0 0 0) 3 else
 bif decide ((0:Int)<=4)&&decide ((4:Int)<=n)&&decide ((n:Int)<=n)then bif dec (byl es/\l+(4:Int).toNat+((n:Int).toNat - (4:Int).toNat)<=es.length/\es.length<=1000000)then upK (rdQ (sl es (l+(4:Int).toNat) ((n:Int).toNat - (4:Int).toNat)) ((n:Int).toNat - (4:Int).toNat))else .fail else .fail:=by kernel_rfl
def upB(p:List SV):Bool:=decide (4<=p.length)&&decide (tkN p 0 2=0)&&decide (tkN p 2 2=(p.length:Int) - 4)
noncomputable def upP(p:List SV):Mg × Int:=
 bif !upB p then(mg0,3)else bif(rdQ (p.drop 4) (p.length - 4)).1 !=0 then(mg0,(rdQ (p.drop 4) (p.length - 4)).1)else(mgD (rdQ (p.drop 4) (p.length - 4)).2.2,0)
theorem zB     {p:List SV}(hb:byl p)(hl:p.length<=1000000):
  (bif(bif(((RD 0 p.length).adv 2).adv 2).err !=0 then true else(RD 0 p.length).num p 2 !=0)then true else w64 (((RD 0 p.length).adv 2).num p 2)!=lfI (((RD 0 p.length).adv 2).adv 2))= !upB p:=by
 unfold upB
 by_cases h4:4<=p.length
 . obtain⟨a0,a1⟩:=aX hb.ok 2 2
   rw[p2]at a1
   have hlf:lfI (RD 4 p.length)=(p.length:Int) - 4:=by
    have:=iE (s:=4) (t:=p.length) (k:=0) (by omega) hl
    rw[Nat.add_zero]at this
    rw[this];omega
   rw[bi (by omega),aW (by omega),aW (by omega),bi (by omega),show 0+2+2=4 from rfl,hlf,show w64 (tkN p (0+2) 2)=tkN p 2 2 from ai (by rw[Nat.zero_add];omega) (by rw[Nat.zero_add];omega),dT0 h4,show((RD 4 p.length).err !=0)=false from rfl,cF,Bool.true_and]
   by_cases c1:tkN p 0 2=0
   . rw[show(tkN p 0 2 !=0)=false by simpa using c1,dT0 c1,cF,Bool.true_and]
     by_cases c2:tkN p 2 2=(p.length:Int) - 4
     . rw[dT0 c2,c2];simp
     . rw[dF c2];simpa using c2
   . rw[show(tkN p 0 2 !=0)=true by simpa using c1,dF c1];rfl
 . rw[dF h4]
   have he:(((RD 0 p.length).adv 2).adv 2).err !=0:=by
    by_cases h2:2<=p.length
    . rw[aW (by omega),jO (by omega)];rfl
    . rw[jO (by omega)];rfl
   rw[he];rfl
theorem nP:CoV Tryz.prog (mgZ 0 cs0 0 0) (mgV mg0):=.agg (.cons .rfl' (.cons .rfl' (.cons .rfl' (.cons .rfl' (.cons .rfl' (.cons .rfl' (.cons .rfl' (.cons .rfl' (.cons .rfl' (.cons .nils (.cons .rfl' (.cons .rfl' (.cons .rfl' (.cons .rfl' (.cons .rfl' (.cons .rfl' (.cons .rfl' (.cons .nils (.cons .nils (.cons .rfl' (.cons .rfl' (.cons .rfl' (.cons .rfl' (.cons .nils (.cons .nils .rfl')))))))))))))))))))))))))
theorem zD{p:List SV}{H:HpL}{v':SV}{ups':List (Nat × Option Chunk)}(h:ac (mgR (mgV (upP p).1) (upP p).2)=some (v',ups')):∃ v ups,ac (bif !upB p then mgR (mgZ 0 cs0 0 0) 3 else upK (rdQ (p.drop 4) (p.length - 4)))=some (v,ups)/\Am.Told Tryz.prog H v ups v' ups':=by
 have same:∀ {x:Nat} {c':Chunk},ad [] (HpL.get H) x=some c'->∃ c,ad [] (HpL.get H) x=some c/\CoC Tryz.prog x c c':=fun hx=>⟨_,hx,.rfl'⟩
 unfold upP at h
 cases hu: !upB p with
 | true=>rw[hu]at h;cases h;exact⟨_,_,rfl,.tup (.cons nP .rfl'),fun x c' hx=>same hx⟩
 | false=>
  rw[hu,cF]at h
  rw[cF]
  unfold upK
  generalize rdQ (p.drop 4) (p.length - 4)=q at *
  cases hq:q.1 !=0 with
  | true=>rw[hq]at h;cases h;exact⟨_,_,rfl,.tup (.cons nP .rfl'),fun x c' hx=>same hx⟩
  | false=>rw[hq]at h;cases h;exact⟨_,_,rfl,.rfl',fun x c' hx=>same hx⟩
noncomputable def xB:ag:=fun args H=>match args,H with
 | [.psl 5 p],[]=>.ite (dec (byl p/\p.length<=1000000)) (mgR (mgV (upP p).1) (upP p).2) .fail
 | _,_=>.fail
theorem KH    :Known Tryz.prog 52 xB    :=bd         (am        OX   Tryz.func52 rfl) (by
 intro args H v' ups' h
 unfold xB at h
 split at h
 . rename_i p
   rw[aa]at h
   cases hc:dec (byl p/\p.length<=1000000)with
   | false=>rw[hc]at h;cases h
   | true=>
    rw[hc,cT]at h
    obtain⟨hb,hl⟩:=dec_iff.1 hc
    have ht:=OZ p
    rw[k9 hl,dH (t9 hb hl (Nat.zero_le _)),dH ((t9 hb hl (Nat.zero_le _)).adv 2),zB hb hl]at ht
    obtain⟨v,ups,e1,e2⟩:=zD (H:=[]) h
    refine⟨v,ups,?_,.inr e2⟩
    refine(congrArg ac ht).trans (Eq.trans ?_ e1)
    cases hu:upB p with
    | false=>rfl
    | true=>
     have h4:4<=p.length:=by
      unfold upB at hu
      simp only[bA,decide_eq_true_eq]at hu
      exact hu.1.1
     rw[Bool.not_true,cF,cF,eK (a:=4) (b:=(p.length:Int)) (i:=4) (j:=p.length) rfl rfl h4 (by omega),ia,eg (jl hb _) (by rw[List.length_drop];omega),List.length_drop]
 . cases h)
noncomputable def xC:ag:=fun args H=>match args,H with
 | [.qs 0 1 l n],[(0,.seq 5 es)]=>.ite (dec (byl es/\l+n<=es.length/\es.length<=1000000)) (mgR (mgV (upP (sl es l n)).1) (upP (sl es l n)).2) .fail
 | _,_=>.fail
theorem Nb{es:List SV}{l n k:Nat}:sl es (l+k) (n - k)=(sl es l n).drop k:=(od es l n k).symm
theorem KI    :Known Tryz.prog 52 xC    :=bd         (am        OY   Tryz.func52 rfl) (by
 intro args H v' ups' h
 unfold xC at h
 split at h
 . rename_i l n es
   rw[aa]at h
   cases hc:dec (byl es/\l+n<=es.length/\es.length<=1000000)with
   | false=>rw[hc]at h;cases h
   | true=>
    rw[hc,cT]at h
    obtain⟨hb,hl,hm⟩:=dec_iff.1 hc
    have ht:=O0 l n es
    have hp:(sl es l n).length=n:=dK hl
    have hbp:byl (sl es l n):=hb.sl _ _
    have ho:OkRd (RD 0 n) (sl es l n):=by have:=t9 hbp (by omega) (Nat.zero_le _);rwa [hp]at this
    have hte:=zB hbp (by omega)
    rw[hp]at hte
    have e1:∀ K,KG es l n K=K (RD 0 n):=fun K=>by unfold KG;rw[dT0 (by omega)];rfl
    have e2:∀ {r:Rd} (k:Nat) (K:Int->Rd->CTree),OkRd r (sl es l n)->unQ r (sl es l n) n k K=K (r.num (sl es l n) k) (r.adv k):=fun k K hr=>by unfold unQ;rw[dec_iff.2 ⟨hr,hp.symm⟩,cT]
    rw[e1,e2 _ _ ho,e2 _ _ (ho.adv 2),hte]at ht
    obtain⟨v,ups,g1,g2⟩:=zD (H:=[(0,.seq 5 es)]) h
    refine⟨v,ups,?_,.inr g2⟩
    refine(congrArg ac ht).trans (Eq.trans ?_ g1)
    cases hu:upB (sl es l n)with
    | false=>rfl
    | true=>
     have h4:4<=n:=by
      unfold upB at hu
      simp only[bA,decide_eq_true_eq]at hu
      omega
     rw[Bool.not_true,cF,cF,dT0 (show(0:Int)<=4 by omega),dT0 (show(4:Int)<=n by omega),dT0 (Int.le_refl _),dec_iff.2 ⟨hb,by show l+4+(n - 4)<=_;omega,hm⟩]
     simp only[Bool.and_self,cT]
     show ac (upK (rdQ (sl es (l+4) (n - 4)) (n - 4)))=_
     rw[Nb,hp]
 . cases h)
noncomputable abbrev κrd:=tbl [(47,ly),(48,fj 2),(49,fj 1),(51,s9),(52,xB)]
theorem rdOk:KOk Tryz.prog κrd:=af rG (af rF (af AK (af Gq (af KH ok0))))
def mgE(e:Int):CTree:=mgR (mgZ 0 cs0 0 0) e
theorem yD(k:Int)(p:List SV):opn κrd Tryz.f33 [.int .i64 k,.psl 5 p] []=
 bif k==1 then lF p (bif(roP p).2 !=0 then mgE (roP p).2 else mgR (mgZ k (roP p).1 0 0) 0)else
 bif k==2 then lF p (mgR (mgV (upP p).1) (upP p).2)else
 bif k==3 then(bif decide ((p.length:Int) < 2)then mgE 3 else bif inB 0 p.length then bif inB 1 p.length then mgR (mgZ k cs0 (w64 (dg p 0)) (w64 (dg p 1))) 0 else .fail else .fail)else
 bif k==4 then(bif decide ((p.length:Int) > 0)then mgE 3 else mgR (mgZ k cs0 0 0) 0)else
 bif k==5 then wy p fun r=>unC r p 2 fun hi r=>unC r p 1 fun _ r=>unC r p 1 fun lo _=>bif(bif(bif(p.length:Int)!=4 then true else hi !=25)then true else lo !=70)then mgE 3 else mgR (mgZ k cs0 0 0) 0
 else mgR (mgZ k cs0 0 0) 0:=by kernel_rfl
noncomputable abbrev κrq:=tbl [(52,xC)]
theorem Gv(l n:Nat)(es:List SV):opn κrq Tryz.f33 [.int .i64 2,.qs 0 1 l n] [(0,.seq 5 es)]=bif dec (byl es/\l+n<=es.length/\es.length<=1000000)then mgR (mgV (upP (sl es l n)).1) (upP (sl es l n)).2 else .fail:=by kernel_rfl
def mgK(k:Int):Mg:=⟨k,cs0,0,0,dI0⟩
noncomputable def rdP(k:Int)(p:List SV):Mg × Int:=
 bif k==1 then(bif(roP p).2 !=0 then(mg0,(roP p).2)else(⟨k,(roP p).1,0,0,dI0⟩,0))else bif k==2 then upP p else
 bif k==3 then(bif decide (p.length < 2)then(mg0,3)else(⟨k,cs0,dg p 0,dg p 1,dI0⟩,0))else bif k==4 then(bif decide (0 < p.length)then(mg0,3)else(mgK k,0))else
 bif k==5 then(bif(bif(bif decide (p.length≠4)then true else tkN p 0 2 !=25)then true else dg p 3 !=70)then(mg0,3)else(mgK k,0))else(mgK k,0)
def mgY(m:Mg):SV:=mgZ m.k m.s m.code m.sub
theorem yE{k:Int}(h:k≠2)(p:List SV):(rdP k p).1.d=dI0:=by
 unfold rdP
 rw[show(k==2)=false by simpa using h]
 cases k==1 with
 | true=>cases(roP p).2 !=0 <;> rfl
 | false=>
  cases k==3 with
  | true=>cases decide (p.length < 2) <;> rfl
  | false=>
   cases k==4 with
   | true=>cases decide (0 < p.length) <;> rfl
   | false=>
    cases k==5 with
    | true=>cases(bif(bif decide (p.length≠4)then true else tkN p 0 2 !=25)then true else dg p 3 !=70) <;> rfl
    | false=>rfl
theorem mL{m:Mg}(h:m.d=dI0):CoV Tryz.prog (mgY m) (mgV m):=by
 unfold mgV
 rw[h]
 exact .agg (.cons .rfl' (.cons .rfl' (.cons .rfl' (.cons .rfl' (.cons .rfl' (.cons .rfl' (.cons .rfl' (.cons .rfl' (.cons .rfl' (.cons .nils (.cons .rfl' (.cons .rfl' (.cons .rfl' (.cons .rfl' (.cons .rfl' (.cons .rfl' (.cons .rfl' (.cons .nils (.cons .nils (.cons .rfl' (.cons .rfl' (.cons .rfl' (.cons .rfl' (.cons .nils (.cons .nils .rfl')))))))))))))))))))))))))
noncomputable def yF:ag:=fun args H=>match args,H with
 | [.int .i64 k,.psl 5 p],[]=>.ite (dec (k≠2/\byl p/\p.length<=1000000)) (mgR (mgY (rdP k p).1) (rdP k p).2) .fail
 | _,_=>.fail
theorem yG     :Known Tryz.prog 33 yF     :=(am        rdOk Tryz.func33 rfl).weak (by
 intro args H v ups h
 unfold yF at h
 split at h
 . rename_i k p
   rw[aa]at h
   cases hc:dec (k≠2/\byl p/\p.length<=1000000)with
   | false=>rw[hc]at h;cases h
   | true=>
    rw[hc,cT]at h
    obtain⟨h2,hb,hl⟩:=dec_iff.1 hc
    refine(congrArg ac (yD k p)).trans (Eq.trans (congrArg ac ?_) h)
    unfold rdP
    rw[show(k==2)=false by simpa using h2,eg hb hl]
    cases k==1 with
    | true=>cases(roP p).2 !=0 <;> rfl
    | false=>
     rw[cF,cF,cF,cF]
     cases k==3 with
     | true=>
      rw[cT,cT]
      by_cases hp:p.length < 2
      . rw[dT0 hp,dT0 (by omega)];rfl
      . obtain⟨a0,a1⟩:=hb.ok 0
        obtain⟨b0,b1⟩:=hb.ok 1
        rw[dF hp,dF (by omega),cF,bJ (by omega) (by omega),bJ (by omega) (by omega),cT,cT,show w64 (dg p 0)=dg p 0 from ai (by omega) (by omega),show w64 (dg p 1)=dg p 1 from ai (by omega) (by omega)];rfl
     | false=>
      rw[cF,cF]
      cases k==4 with
      | true=>
       rw[cT,cT]
       by_cases hp:0 < p.length
       . rw[dT0 hp,dT0 (by omega)];rfl
       . rw[dF hp,dF (by omega)];rfl
      | false=>
       rw[cF,cF]
       cases k==5 with
       | false=>rfl
       | true=>
        rw[cT,cT]
        have ho:=t9 hb hl (s:=0) (Nat.zero_le _)
        rw[k9 hl,dH ho,dH (ho.adv 2),dH ((ho.adv 2).adv 1)]
        by_cases h4:p.length=4
        . rw[h4,dF (show ¬ (4:Nat)≠4 by simp),show(((4:Nat):Int)!=4)=false from rfl,bi (by omega),aW (by omega),aW (by omega),bi (by omega),tk1]
          simp only[cF]
          show(bif(bif tkN p 0 2 !=25 then true else dg p 3 !=70)then mgE 3 else mgR (mgZ k cs0 0 0) 0)=_
          cases(bif tkN p 0 2 !=25 then true else dg p 3 !=70) <;> rfl
        . rw[dT0 h4,show((p.length:Int)!=4)=true by simp;omega];rfl
 . cases h)
noncomputable def vq:ag:=fun args H=>match args,H with
 | [.int .i64 k,.qs 0 1 l n],[(0,.seq 5 es)]=>.ite (dec (k≠2/\byl es/\l+n<=es.length/\es.length<=1000000)) (mgR (mgY (rdP k (sl es l n)).1) (rdP k (sl es l n)).2) .fail
 | _,_=>.fail
theorem Dl:Known Tryz.prog 33 vq:=qO yG (by
 intro args H v ups h
 unfold vq at h
 split at h
 . rename_i k l n es
   rw[aa]at h
   cases hc:dec (k≠2/\byl es/\l+n<=es.length/\es.length<=1000000)with
   | false=>rw[hc]at h;cases h
   | true=>
    rw[hc,cT]at h
    obtain⟨h2,hb,hl,hm⟩:=dec_iff.1 hc
    cases h
    refine⟨[.int .i64 k],5,es,l,n,1,rfl,rfl,cells5.symm,hl,rfl,rfl,fun _=>rfl,?_⟩
    show ac (.ite (dec (k≠2/\byl (sl es l n)/\(sl es l n).length<=1000000)) (mgR (mgY (rdP k (sl es l n)).1) (rdP k (sl es l n)).2) .fail)=_
    rw[aa,dec_iff.2 ⟨h2,hb.sl _ _,by rw[dK hl];omega⟩];rfl
 . cases h)
noncomputable def yH:ag:=fun args H=>match args,H with
 | [.int .i64 k,.psl 5 p],[]=>.ite (dec (k≠2/\byl p/\p.length<=1000000)) (mgR (mgV (rdP k p).1) (rdP k p).2) .fail
 | [.int .i64 k,.qs 0 1 l n],[(0,.seq 5 es)]=>.ite (dec (k≠2/\byl es/\l+n<=es.length/\es.length<=1000000)) (mgR (mgV (rdP k (sl es l n)).1) (rdP k (sl es l n)).2) .fail
 | _,_=>.fail
noncomputable def yI:ag:=fun args H=>match args,H with
 | [.int .i64 k,.psl 5 p],[]=>.ite (dec (k≠2/\byl p/\p.length<=1000000)) (mgR (mgY (rdP k p).1) (rdP k p).2) .fail
 | [.int .i64 k,.qs 0 1 l n],[(0,.seq 5 es)]=>.ite (dec (k≠2/\byl es/\l+n<=es.length/\es.length<=1000000)) (mgR (mgY (rdP k (sl es l n)).1) (rdP k (sl es l n)).2) .fail
 | _,_=>.fail
theorem Gw:Known Tryz.prog 33 yI:=iU yG Dl (by
 intro args H v ups h
 unfold yI at h
 split at h
 . exact .inl h
 . exact .inr h
 . cases h)
theorem Gx:Known Tryz.prog 33 yH:=bd Gw (by
 intro args H v ups h
 have same:∀ {H:HpL} {x:Nat} {c':Chunk},ad [] (HpL.get H) x=some c'->∃ c,ad [] (HpL.get H) x=some c/\CoC Tryz.prog x c c':=fun hx=>⟨_,hx,.rfl'⟩
 unfold yH at h
 split at h
 . rename_i k p
   rw[aa]at h
   cases hc:dec (k≠2/\byl p/\p.length<=1000000)with
   | false=>rw[hc]at h;cases h
   | true=>
    rw[hc,cT]at h
    cases h
    refine⟨.tup [mgY (rdP k p).1,.int .i64 (rdP k p).2],[],?_,.inr ⟨.tup (.cons (mL (yE (dec_iff.1 hc).1 p)) .rfl'),fun x c' hx=>same hx⟩⟩
    show ac (.ite (dec (k≠2/\byl p/\p.length<=1000000)) _ _)=_
    rw[aa,hc];rfl
 . rename_i k l n es
   rw[aa]at h
   cases hc:dec (k≠2/\byl es/\l+n<=es.length/\es.length<=1000000)with
   | false=>rw[hc]at h;cases h
   | true=>
    rw[hc,cT]at h
    cases h
    refine⟨.tup [mgY (rdP k (sl es l n)).1,.int .i64 (rdP k (sl es l n)).2],[],?_,.inr ⟨.tup (.cons (mL (yE (dec_iff.1 hc).1 _)) .rfl'),fun x c' hx=>same hx⟩⟩
    show ac (.ite (dec (k≠2/\byl es/\l+n<=es.length/\es.length<=1000000)) _ _)=_
    rw[aa,hc];rfl
 . cases h)
noncomputable def yJ:ag:=fun args H=>match args,H with
 | [.int .i64 k,.psl 5 p],[]=>.ite (dec (k=2/\byl p/\p.length<=1000000)) (mgR (mgV (rdP k p).1) (rdP k p).2) .fail
 | _,_=>.fail
theorem Gy:Known Tryz.prog 33 yJ:=(am rdOk Tryz.func33 rfl).weak (by
 intro args H v ups h
 unfold yJ at h
 split at h
 . rename_i k p
   rw[aa]at h
   cases hc:dec (k=2/\byl p/\p.length<=1000000)with
   | false=>rw[hc]at h;cases h
   | true=>
    rw[hc,cT]at h
    obtain⟨rfl,hb,hl⟩:=dec_iff.1 hc
    refine(congrArg ac (yD 2 p)).trans ?_
    show ac (lF p (mgR (mgV (upP p).1) (upP p).2))=_
    rw[eg hb hl]
    exact h
 . cases h)
noncomputable def vr:ag:=fun args H=>match args,H with
 | [.int .i64 k,.qs 0 1 l n],[(0,.seq 5 es)]=>.ite (dec (k=2/\byl es/\l+n<=es.length/\es.length<=1000000)) (mgR (mgV (rdP k (sl es l n)).1) (rdP k (sl es l n)).2) .fail
 | _,_=>.fail
theorem Dm:Known Tryz.prog 33 vr:=(am (af KI ok0) Tryz.func33 rfl).weak (by
 intro args H v ups h
 unfold vr at h
 split at h
 . rename_i k l n es
   rw[aa]at h
   cases hc:dec (k=2/\byl es/\l+n<=es.length/\es.length<=1000000)with
   | false=>rw[hc]at h;cases h
   | true=>
    rw[hc,cT]at h
    obtain⟨rfl,hb⟩:=dec_iff.1 hc
    refine(congrArg ac (Gv l n es)).trans ?_
    rw[dec_iff.2 hb]
    exact h
 . cases h)
noncomputable def yK:ag:=fun args H=>match args,H with
 | [.int .i64 k,.psl 5 p],[]=>.ite (dec (k=2/\byl p/\p.length<=1000000)) (mgR (mgV (rdP k p).1) (rdP k p).2) .fail
 | [.int .i64 k,.qs 0 1 l n],[(0,.seq 5 es)]=>.ite (dec (k=2/\byl es/\l+n<=es.length/\es.length<=1000000)) (mgR (mgV (rdP k (sl es l n)).1) (rdP k (sl es l n)).2) .fail
 | _,_=>.fail
theorem Gz:Known Tryz.prog 33 yK:=iU Gy Dm (by
 intro args H v ups h
 unfold yK at h
 split at h
 . exact .inl h
 . exact .inr h
 . cases h)
noncomputable def oo:ag:=fun args H=>match args,H with
 | [.int .i64 k,.psl 5 p],[]=>.ite (dec (byl p/\p.length<=1000000)) (mgR (mgV (rdP k p).1) (rdP k p).2) .fail
 | [.int .i64 k,.qs 0 1 l n],[(0,.seq 5 es)]=>.ite (dec (byl es/\l+n<=es.length/\es.length<=1000000)) (mgR (mgV (rdP k (sl es l n)).1) (rdP k (sl es l n)).2) .fail
 | _,_=>.fail
theorem GA     :Known Tryz.prog 33 oo     :=iU       Gx      Gz      (by
 intro args H v ups h
 unfold oo at h
 split at h
 . rename_i k p
   rw[aa]at h
   cases hc:dec (byl p/\p.length<=1000000)with
   | false=>rw[hc]at h;cases h
   | true=>
    rw[hc,cT]at h
    have hb:=dec_iff.1 hc
    by_cases h2:k=2
    . right
      show ac (.ite (dec (k=2/\byl p/\p.length<=1000000)) _ _)=_
      rw[aa,dec_iff.2 ⟨h2,hb⟩];exact h
    . left
      show ac (.ite (dec (k≠2/\byl p/\p.length<=1000000)) _ _)=_
      rw[aa,dec_iff.2 ⟨h2,hb⟩];exact h
 . rename_i k l n es
   rw[aa]at h
   cases hc:dec (byl es/\l+n<=es.length/\es.length<=1000000)with
   | false=>rw[hc]at h;cases h
   | true=>
    rw[hc,cT]at h
    have hb:=dec_iff.1 hc
    by_cases h2:k=2
    . right
      show ac (.ite (dec (k=2/\byl es/\l+n<=es.length/\es.length<=1000000)) _ _)=_
      rw[aa,dec_iff.2 ⟨h2,hb⟩];exact h
    . left
      show ac (.ite (dec (k≠2/\byl es/\l+n<=es.length/\es.length<=1000000)) _ _)=_
      rw[aa,dec_iff.2 ⟨h2,hb⟩];exact h
 . cases h)
end Go.Proofs.YtnlmhpancboddaaGreat
