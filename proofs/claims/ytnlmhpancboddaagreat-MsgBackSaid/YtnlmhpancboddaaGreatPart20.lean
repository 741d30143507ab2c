/- MsgOpens: what an OPEN is encoded as: its body. -/
import Derived.Test.YtnlmhpancboddaaGreatPart19
import Derived.Test.YtnlmhpancboddaaGreatPart18
set_option linter.unusedVariables false
set_option linter.unusedSimpArgs false
namespace Go.Proofs.YtnlmhpancboddaaGreat
open Go.Am
set_option maxRecDepth 100000
theorem Nw:((List.range 4096).all fun n=>orI .u64 (n:Nat) 32768==(n:Int)+32768)=true:=by kernel_rfl
theorem eq{n:Int}(h0:0<=n)(h1:n < 18446744073709551616):ky n=n:=by
 show IntKind.u64.wrap n=n
 simp[IntKind.wrap,IntKind.bits,IntKind.signed]
 omega
theorem Hi{s:Cs}(h0:0<=s.rst)(h1:s.rst < 4096):rsN s=s.rst+(bif s.rsd then 32768 else 0):=by
 unfold rsN
 rw[eq h0 (by omega)]
 cases s.rsd with
 | false=>simp
 | true=>
  have:=List.all_eq_true.1 Nw s.rst.toNat (List.mem_range.2 (by omega))
  rw[beq_iff_eq,show((s.rst.toNat:Nat):Int)=s.rst by omega]at this
  exact this
def bY(s:Cs):List SV:=(bif(bif s.rst !=0 then true else s.rsd)then be 260 2++be 1638470 4++be 512 2++be 16390 2++be (rsN s) 2++be 1656448 4 else be 260 2++be 1638470 4++be 512 2)++be 16644 2++be s.asn 4
theorem Ba(s:Cs):(bY s).length=bif(bif s.rst !=0 then true else s.rsd)then 22 else 14:=by
 unfold bY
 cases(bif s.rst !=0 then true else s.rsd) <;> simp[ah]
def wF:ag:=fun args H=>match args,H with
 | [.agg [.int .u32 asn,.int .i64 hold,.int .u32 id,.int .i64 rst,.bool rsd]],[]=>.ite (decide (0<=asn/\asn < 4294967296/\0<=rst/\rst < 4096)) (.ret (.qs 0 1 0 (bY ⟨false,false,false,asn,hold,id,rst,rsd⟩).length) [(0,some (.seq 5 (bY ⟨false,false,false,asn,hold,id,rst,rsd⟩)))]) .fail
 | _,_=>.fail
theorem o6{n lim:Int}{k:Nat}(h0:0<=n)(h1:n < 256 ^ k)(h2:(k:Int)<=lim)(h3:lim<=65536)(K:Nat->List SV->CTree):oWA n k lim K=K (be n k).length (be n k):=by
 unfold oWA;rw[dT0 ⟨h0,h1,h2,h3⟩,cT,ah]
theorem cY{es:List SV}{n lim:Int}{k:Nat}(h0:0<=n)(h1:n < 256 ^ k)(h2:((es.length+k:Nat):Int)<=lim)(h3:lim<=65536)(K:Nat->List SV->CTree):oWB es.length es n k lim K=K (es++be n k).length (es++be n k):=by
 unfold oWB;rw[dT0 ⟨rfl,h0,h1,h2,h3⟩,cT,lA0,ah]
theorem mT{es:List SV}(h:es.length<=65536)(K:Nat->List SV->CTree):oWO es.length es K=K es.length es:=by
 unfold oWO;rw[dT0 ⟨rfl,h⟩,cT]
theorem Id    :Known Tryz.prog 40 wF    :=(aj        Lc   Tryz.func40 rfl).weak (by
 intro args H v ups h
 unfold wF at h
 split at h
 . rename_i asn hold id rst rsd
   rw[aa,cond_eq_ite]at h
   split at h
   . rename_i hc
     obtain⟨h0,h1,h2,h3⟩:=of_decide_eq_true hc
     have ht:=Ld ⟨false,false,false,asn,hold,id,rst,rsd⟩
     have hn:=Hi (s:=⟨false,false,false,asn,hold,id,rst,rsd⟩) h2 h3
     refine(congrArg ae ht).trans ?_
     rw[<- h]
     have hz:∀ es:List SV,es.length<=100->Hc ⟨false,false,false,asn,hold,id,rst,rsd⟩ es.length es= .ret (.qs 0 1 0 (es++be 16644 2++be asn 4).length) [(0,some (.seq 5 (es++be 16644 2++be asn 4)))]:=fun es he=>by
      have hw:ky asn=asn:=eq h0 (by omega)
      unfold Hc
      simp only[]
      rw[hw,cY (by decide) (by decide) (by omega) (by decide),cY h0 (by omega) (by rw[lA0,ah];omega) (by decide),mT (by simp only[lA0,ah];omega)]
     have hr:∀ n es,0<=n->n < 65536->es.length<=50->Hd ⟨false,false,false,asn,hold,id,rst,rsd⟩ n es.length es= .ret (.qs 0 1 0 (es++be 16390 2++be n 2++be 1656448 4++be 16644 2++be asn 4).length) [(0,some (.seq 5 (es++be 16390 2++be n 2++be 1656448 4++be 16644 2++be asn 4)))]:=fun n es n0 n1 he=>by
      unfold Hd
      rw[cY (by decide) (by decide) (by omega) (by decide),cY n0 (by omega) (by rw[lA0,ah];omega) (by decide),cY (by decide) (by decide) (by simp only[lA0,ah];omega) (by decide),hz _ (by simp only[lA0,ah];omega)]
     rw[o6 (by decide) (by decide) (by decide) (by decide),cY (by decide) (by decide) (by rw[ah];decide) (by decide),cY (by decide) (by decide) (by simp only[lA0,ah];decide) (by decide)]
     unfold bY
     simp only[]
     cases(bif rst !=0 then true else rsd)with
     | false=>rw[cF,cF,hz _ (by simp only[lA0,ah];omega)]
     | true=>
      rw[cT,cT]
      simp only[rsN]at hn ⊢
      cases rsd with
      | true=>
       simp only[cT]at hn ⊢
       rw[hr _ _ (by omega) (by omega) (by simp only[lA0,ah];omega)]
      | false=>
       simp only[cF]at hn ⊢
       rw[hr _ _ (by omega) (by omega) (by simp only[lA0,ah];omega)]
   . cases h
 . cases h)
/- The body. -/
def Ll(s:Cs)(K:Nat->List SV->CTree):CTree:=bif decide (0<=s.asn/\s.asn < 4294967296/\0<=s.rst/\s.rst < 4096)then K (bY s).length (bY s)else .fail
def oWP(m:Nat)(es:List SV)(k:Nat)(xs:List SV)(K:Nat->List SV->CTree):CTree:=bif decide (k=xs.length)then bif decide (m=es.length/\((es.length+xs.length:Nat):Int)<=4096/\(4096:Int)<=65536)then K (es.length+xs.length) (es++xs)else .fail else .fail
theorem Ma:opn (tbl []) Tryz.f25 [.sl 0 1 0 1,.int .i64 16] [(0,.cells 5 [.int .u8 255])]= .ret (.qs 1 1 0 16) [(1,some (.seq 5 (List.replicate 16 (.int .u8 255))))]:=by kernel_rfl
def yx:ag:=fun args H=>match args,H with
 | [.sl 0 1 0 1,.int .i64 16],[(0,.cells 5 [.int .u8 255])]=>.ret (.qs 1 1 0 16) [(1,some (.seq 5 (List.replicate 16 (.int .u8 255))))]
 | _,_=>.fail
theorem Hz:Known Tryz.prog 25 yx:=(aj ok0 Tryz.func25 rfl).weak (by
 intro args H v ups h
 unfold yx at h
 split at h
 . exact(congrArg ae Ma).trans h
 . cases h)
def sS(s:Cs):Bool:=bif(bif(bif s.hold !=0 then(bif decide (s.hold < 3)then true else decide (s.hold > 65535))else false)then true else decide (s.rst < 0))then true else decide (s.rst > 4095)
def Ck(s:Cs):Prop:=0<=s.asn/\s.asn < 4294967296/\0<=s.rst/\s.rst < 4096/\0<=s.hold/\s.hold < 65536/\0<=s.id/\s.id < 4294967296/\(s.hold=0\/3<=s.hold)
def asV(s:Cs):Int:=bif decide (s.asn > 65535)then 23456 else s.asn
def pC(s:Cs):List SV:=be 4 1++be (asV s) 2++be s.hold 2++be s.id 4++be (((bY s).length:Int)+2) 1++be 2 1++be ((bY s).length:Int) 1++bY s
theorem uT(s:Cs):(pC s).length=12+(bY s).length:=by unfold pC;simp only[lA0,ah]
theorem oG(s:Cs):14<=(bY s).length/\(bY s).length<=22:=by
 rw[Ba];cases(bif s.rst !=0 then true else s.rsd) <;> simp
theorem xa{es xs:List SV}(h:es.length+xs.length<=4096)(K:Nat->List SV->CTree):oWP es.length es xs.length xs K=K (es++xs).length (es++xs):=by
 unfold oWP;rw[dT0 rfl,cT,dT0 ⟨rfl,by omega,by decide⟩,cT,lA0]
/- Bytes. -/
def ffs:List SV:=List.replicate 16 (.int .u8 255)
def oWF(k:Nat)(xs:List SV)(K:Nat->List SV->CTree):CTree:=bif decide (k=xs.length)then bif decide ((xs.length:Int)<=4096/\(4096:Int)<=65536)then K xs.length xs else .fail else .fail
noncomputable abbrev κup:=tbl [(47,lT),(48,fx 2),(76,qo)]
theorem Ox:KOk Tryz.prog κup:=ac rT (ac rS (ac DZ ok0))
noncomputable abbrev κuq:=tbl [(47,Ap),(48,fx 2),(76,qn)]
theorem Oy:KOk Tryz.prog κuq:=ac Jk (ac rS (ac DY ok0))
def mgD(d:Ds):Mg:=⟨2,cs0,0,0,d⟩
def upK(q:Int × Int × Ds):CTree:=bif q.1 !=0 then mgR (mgZ 0 cs0 0 0) q.1 else mgR (mgV (mgD q.2.2)) 0
theorem Oz(p:List SV):opn κup Tryz.f52 [.psl 5 p] []=wQ p fun r=>unC r p 2 fun wd r=>unC r p 2 fun sz r=>
 bif(bif(bif r.err !=0 then true else wd !=0)then true else w64 sz !=lfI r)then mgR (mgZ 0 cs0 0 0) 3 else slI p 4 p.length fun q=>l6 q (upK (rdQ q q.length)):=by kernel_rfl
noncomputable def KY(es:List SV)(l n:Nat)(K:Rd->CTree):CTree:=bif decide (l+n<=es.length/\n<=1000000)then K ⟨0,n,0,0⟩else .fail
noncomputable def unQ(r:Rd)(q:List SV)(n k:Nat)(K:Int->Rd->CTree):CTree:=bif dec (OkRd r q/\n=q.length)then K (r.num q k) (r.adv k)else .fail
theorem OA(l n:Nat)(es:List SV):opn κuq Tryz.f52 [.qs 0 1 l n] [(0,.seq 5 es)]=KY es l n fun r=>unQ r (sl es l n) n 2 fun wd r=>unQ r (sl es l n) n 2 fun sz r=>
 bif(bif(bif r.err !=0 then true else wd !=0)then true else w64 sz !=lfI r)then mgR (mgZ 0 cs0 0 0) 3 else
 bif decide ((0:Int)<=4)&&decide ((4:Int)<=n)&&decide ((n:Int)<=n)then bif dec (byl es/\l+(4:Int).toNat+((n:Int).toNat - (4:Int).toNat)<=es.length/\es.length<=1000000)then upK (rdQ (sl es (l+(4:Int).toNat) ((n:Int).toNat - (4:Int).toNat)) ((n:Int).toNat - (4:Int).toNat))else .fail else .fail:=by kernel_rfl
def upB(p:List SV):Bool:=decide (4<=p.length)&&decide (tkN p 0 2=0)&&decide (tkN p 2 2=(p.length:Int) - 4)
noncomputable def upP(p:List SV):Mg × Int:=
 bif !upB p then(mg0,3)else bif(rdQ (p.drop 4) (p.length - 4)).1 !=0 then(mg0,(rdQ (p.drop 4) (p.length - 4)).1)else(mgD (rdQ (p.drop 4) (p.length - 4)).2.2,0)
theorem zH     {p:List SV}(hb:byl p)(hl:p.length<=1000000):
  (bif(bif(((RD 0 p.length).adv 2).adv 2).err !=0 then true else(RD 0 p.length).num p 2 !=0)then true else w64 (((RD 0 p.length).adv 2).num p 2)!=lfI (((RD 0 p.length).adv 2).adv 2))= !upB p:=by
 unfold upB
 by_cases h4:4<=p.length
 . obtain⟨a0,a1⟩:=bT hb.ok 2 2
   rw[p2]at a1
   have hlf:lfI (RD 4 p.length)=(p.length:Int) - 4:=by
    have:=iR (s:=4) (t:=p.length) (k:=0) (by omega) hl
    rw[Nat.add_zero]at this
    rw[this];omega
   rw[aY (by omega),aO (by omega),aO (by omega),aY (by omega),show 0+2+2=4 from rfl,hlf,show w64 (tkN p (0+2) 2)=tkN p 2 2 from am (by rw[Nat.zero_add];omega) (by rw[Nat.zero_add];omega),dT0 h4,show((RD 4 p.length).err !=0)=false from rfl,cF,Bool.true_and]
   by_cases c1:tkN p 0 2=0
   . rw[show(tkN p 0 2 !=0)=false by simpa using c1,dT0 c1,cF,Bool.true_and]
     by_cases c2:tkN p 2 2=(p.length:Int) - 4
     . rw[dT0 c2,c2];simp
     . rw[dF0 c2];simpa using c2
   . rw[show(tkN p 0 2 !=0)=true by simpa using c1,dF0 c1];rfl
 . rw[dF0 h4]
   have he:(((RD 0 p.length).adv 2).adv 2).err !=0:=by
    by_cases h2:2<=p.length
    . rw[aO (by omega),jZ (by omega)];rfl
    . rw[jZ (by omega)];rfl
   rw[he];rfl
theorem H6:CoV Tryz.prog (mgZ 0 cs0 0 0) (mgV mg0):=.agg (.cons .rfl' (.cons .rfl' (.cons .rfl' (.cons .rfl' (.cons .rfl' (.cons .rfl' (.cons .rfl' (.cons .rfl' (.cons .rfl' (.cons .nils (.cons .rfl' (.cons .rfl' (.cons .rfl' (.cons .rfl' (.cons .rfl' (.cons .rfl' (.cons .rfl' (.cons .nils (.cons .nils (.cons .rfl' (.cons .rfl' (.cons .rfl' (.cons .rfl' (.cons .nils (.cons .nils .rfl')))))))))))))))))))))))))
theorem zJ{p:List SV}{H:HpL}{v':SV}{ups':List (Nat × Option Chunk)}(h:ae (mgR (mgV (upP p).1) (upP p).2)=some (v',ups')):∃ v ups,ae (bif !upB p then mgR (mgZ 0 cs0 0 0) 3 else upK (rdQ (p.drop 4) (p.length - 4)))=some (v,ups)/\Am.Told Tryz.prog H v ups v' ups':=by
 have same:∀ {x:Nat} {c':Chunk},ad [] (HpL.get H) x=some c'->∃ c,ad [] (HpL.get H) x=some c/\CoC Tryz.prog x c c':=fun hx=>⟨_,hx,.rfl'⟩
 unfold upP at h
 cases hu: !upB p with
 | true=>rw[hu]at h;cases h;exact⟨_,_,rfl,.tup (.cons H6 .rfl'),fun x c' hx=>same hx⟩
 | false=>
  rw[hu,cF]at h
  rw[cF]
  unfold upK
  generalize rdQ (p.drop 4) (p.length - 4)=q at *
  cases hq:q.1 !=0 with
  | true=>rw[hq]at h;cases h;exact⟨_,_,rfl,.tup (.cons H6 .rfl'),fun x c' hx=>same hx⟩
  | false=>rw[hq]at h;cases h;exact⟨_,_,rfl,.rfl',fun x c' hx=>same hx⟩
noncomputable def xQ:ag:=fun args H=>match args,H with
 | [.psl 5 p],[]=>.ite (dec (byl p/\p.length<=1000000)) (mgR (mgV (upP p).1) (upP p).2) .fail
 | _,_=>.fail
theorem KZ    :Known Tryz.prog 52 xQ    :=bw         (aj        Ox   Tryz.func52 rfl) (by
 intro args H v' ups' h
 unfold xQ at h
 split at h
 . rename_i p
   rw[aa]at h
   cases hc:dec (byl p/\p.length<=1000000)with
   | false=>rw[hc]at h;cases h
   | true=>
    rw[hc,cT]at h
    obtain⟨hb,hl⟩:=dec_iff.1 hc
    have ht:=Oz p
    rw[lB hl,dX (t9 hb hl (Nat.zero_le _)),dX ((t9 hb hl (Nat.zero_le _)).adv 2),zH hb hl]at ht
    obtain⟨v,ups,e1,e2⟩:=zJ (H:=[]) h
    refine⟨v,ups,?_,.inr e2⟩
    refine(congrArg ae ht).trans (Eq.trans ?_ e1)
    cases hu:upB p with
    | false=>rfl
    | true=>
     have h4:4<=p.length:=by
      unfold upB at hu
      simp only[bA,decide_eq_true_eq]at hu
      exact hu.1.1
     rw[Bool.not_true,cF,cF,iy (a:=4) (b:=(p.length:Int)) (i:=4) (j:=p.length) rfl rfl h4 (by omega),kR,eA (jt hb _) (by rw[List.length_drop];omega),List.length_drop]
 . cases h)
noncomputable def xR:ag:=fun args H=>match args,H with
 | [.qs 0 1 l n],[(0,.seq 5 es)]=>.ite (dec (byl es/\l+n<=es.length/\es.length<=1000000)) (mgR (mgV (upP (sl es l n)).1) (upP (sl es l n)).2) .fail
 | _,_=>.fail
theorem Nc{es:List SV}{l n k:Nat}:sl es (l+k) (n - k)=(sl es l n).drop k:=(oH es l n k).symm
theorem K0    :Known Tryz.prog 52 xR    :=bw         (aj        Oy   Tryz.func52 rfl) (by
 intro args H v' ups' h
 unfold xR at h
 split at h
 . rename_i l n es
   rw[aa]at h
   cases hc:dec (byl es/\l+n<=es.length/\es.length<=1000000)with
   | false=>rw[hc]at h;cases h
   | true=>
    rw[hc,cT]at h
    obtain⟨hb,hl,hm⟩:=dec_iff.1 hc
    have ht:=OA l n es
    have hp:(sl es l n).length=n:=eR hl
    have hbp:byl (sl es l n):=hb.sl _ _
    have ho:OkRd (RD 0 n) (sl es l n):=by have:=t9 hbp (by omega) (Nat.zero_le _);rwa [hp]at this
    have hte:=zH hbp (by omega)
    rw[hp]at hte
    have e1:∀ K,KY es l n K=K (RD 0 n):=fun K=>by unfold KY;rw[dT0 (by omega)];rfl
    have e2:∀ {r:Rd} (k:Nat) (K:Int->Rd->CTree),OkRd r (sl es l n)->unQ r (sl es l n) n k K=K (r.num (sl es l n) k) (r.adv k):=fun k K hr=>by unfold unQ;rw[dec_iff.2 ⟨hr,hp.symm⟩,cT]
    rw[e1,e2 _ _ ho,e2 _ _ (ho.adv 2),hte]at ht
    obtain⟨v,ups,g1,g2⟩:=zJ (H:=[(0,.seq 5 es)]) h
    refine⟨v,ups,?_,.inr g2⟩
    refine(congrArg ae ht).trans (Eq.trans ?_ g1)
    cases hu:upB (sl es l n)with
    | false=>rfl
    | true=>
     have h4:4<=n:=by
      unfold upB at hu
      simp only[bA,decide_eq_true_eq]at hu
      omega
     rw[Bool.not_true,cF,cF,dT0 (show(0:Int)<=4 by omega),dT0 (show(4:Int)<=n by omega),dT0 (Int.le_refl _),dec_iff.2 ⟨hb,by show l+4+(n - 4)<=_;omega,hm⟩]
     simp only[Bool.and_self,cT]
     show ae (upK (rdQ (sl es (l+4) (n - 4)) (n - 4)))=_
     rw[Nc,hp]
 . cases h)
noncomputable abbrev κrd:=tbl [(47,lT),(48,fx 2),(49,fx 1),(51,th),(52,xQ)]
theorem rdOk:KOk Tryz.prog κrd:=ac rT (ac rS (ac AF (ac Gi (ac KZ ok0))))
def mgE(e:Int):CTree:=mgR (mgZ 0 cs0 0 0) e
theorem yU(k:Int)(p:List SV):opn κrd Tryz.f33 [.int .i64 k,.psl 5 p] []=
 bif k==1 then l6 p (bif(roP p).2 !=0 then mgE (roP p).2 else mgR (mgZ k (roP p).1 0 0) 0)else
 bif k==2 then l6 p (mgR (mgV (upP p).1) (upP p).2)else
 bif k==3 then(bif decide ((p.length:Int) < 2)then mgE 3 else bif inB 0 p.length then bif inB 1 p.length then mgR (mgZ k cs0 (w64 (dg p 0)) (w64 (dg p 1))) 0 else .fail else .fail)else
 bif k==4 then(bif decide ((p.length:Int) > 0)then mgE 3 else mgR (mgZ k cs0 0 0) 0)else
 bif k==5 then wQ p fun r=>unC r p 2 fun hi r=>unC r p 1 fun _ r=>unC r p 1 fun lo _=>bif(bif(bif(p.length:Int)!=4 then true else hi !=25)then true else lo !=70)then mgE 3 else mgR (mgZ k cs0 0 0) 0
 else mgR (mgZ k cs0 0 0) 0:=by kernel_rfl
noncomputable abbrev κrq:=tbl [(52,xR)]
theorem Gj(l n:Nat)(es:List SV):opn κrq Tryz.f33 [.int .i64 2,.qs 0 1 l n] [(0,.seq 5 es)]=bif dec (byl es/\l+n<=es.length/\es.length<=1000000)then mgR (mgV (upP (sl es l n)).1) (upP (sl es l n)).2 else .fail:=by kernel_rfl
def mgK(k:Int):Mg:=⟨k,cs0,0,0,dI0⟩
noncomputable def rdP(k:Int)(p:List SV):Mg × Int:=
 bif k==1 then(bif(roP p).2 !=0 then(mg0,(roP p).2)else(⟨k,(roP p).1,0,0,dI0⟩,0))else bif k==2 then upP p else
 bif k==3 then(bif decide (p.length < 2)then(mg0,3)else(⟨k,cs0,dg p 0,dg p 1,dI0⟩,0))else bif k==4 then(bif decide (0 < p.length)then(mg0,3)else(mgK k,0))else
 bif k==5 then(bif(bif(bif decide (p.length≠4)then true else tkN p 0 2 !=25)then true else dg p 3 !=70)then(mg0,3)else(mgK k,0))else(mgK k,0)
def mgY(m:Mg):SV:=mgZ m.k m.s m.code m.sub
theorem HS{k:Int}(h:k≠2)(p:List SV):(rdP k p).1.d=dI0:=by
 unfold rdP
 rw[show(k==2)=false by simpa using h]
 cases k==1 with
 | true=>cases(roP p).2 !=0 <;> rfl
 | false=>
  cases k==3 with
  | true=>cases decide (p.length < 2) <;> rfl
  | false=>
   cases k==4 with
   | true=>cases decide (0 < p.length) <;> rfl
   | false=>
    cases k==5 with
    | true=>cases(bif(bif decide (p.length≠4)then true else tkN p 0 2 !=25)then true else dg p 3 !=70) <;> rfl
    | false=>rfl
theorem Dg{m:Mg}(h:m.d=dI0):CoV Tryz.prog (mgY m) (mgV m):=by
 unfold mgV
 rw[h]
 exact .agg (.cons .rfl' (.cons .rfl' (.cons .rfl' (.cons .rfl' (.cons .rfl' (.cons .rfl' (.cons .rfl' (.cons .rfl' (.cons .rfl' (.cons .nils (.cons .rfl' (.cons .rfl' (.cons .rfl' (.cons .rfl' (.cons .rfl' (.cons .rfl' (.cons .rfl' (.cons .nils (.cons .nils (.cons .rfl' (.cons .rfl' (.cons .rfl' (.cons .rfl' (.cons .nils (.cons .nils .rfl')))))))))))))))))))))))))
noncomputable def yV:ag:=fun args H=>match args,H with
 | [.int .i64 k,.psl 5 p],[]=>.ite (dec (k≠2/\byl p/\p.length<=1000000)) (mgR (mgY (rdP k p).1) (rdP k p).2) .fail
 | _,_=>.fail
theorem yW     :Known Tryz.prog 33 yV     :=(aj        rdOk Tryz.func33 rfl).weak (by
 intro args H v ups h
 unfold yV at h
 split at h
 . rename_i k p
   rw[aa]at h
   cases hc:dec (k≠2/\byl p/\p.length<=1000000)with
   | false=>rw[hc]at h;cases h
   | true=>
    rw[hc,cT]at h
    obtain⟨h2,hb,hl⟩:=dec_iff.1 hc
    refine(congrArg ae (yU k p)).trans (Eq.trans (congrArg ae ?_) h)
    unfold rdP
    rw[show(k==2)=false by simpa using h2,eA hb hl]
    cases k==1 with
    | true=>cases(roP p).2 !=0 <;> rfl
    | false=>
     rw[cF,cF,cF,cF]
     cases k==3 with
     | true=>
      rw[cT,cT]
      by_cases hp:p.length < 2
      . rw[dT0 hp,dT0 (by omega)];rfl
      . obtain⟨a0,a1⟩:=hb.ok 0
        obtain⟨b0,b1⟩:=hb.ok 1
        rw[dF0 hp,dF0 (by omega),cF,cR (by omega) (by omega),cR (by omega) (by omega),cT,cT,show w64 (dg p 0)=dg p 0 from am (by omega) (by omega),show w64 (dg p 1)=dg p 1 from am (by omega) (by omega)];rfl
     | false=>
      rw[cF,cF]
      cases k==4 with
      | true=>
       rw[cT,cT]
       by_cases hp:0 < p.length
       . rw[dT0 hp,dT0 (by omega)];rfl
       . rw[dF0 hp,dF0 (by omega)];rfl
      | false=>
       rw[cF,cF]
       cases k==5 with
       | false=>rfl
       | true=>
        rw[cT,cT]
        have ho:=t9 hb hl (s:=0) (Nat.zero_le _)
        rw[lB hl,dX ho,dX (ho.adv 2),dX ((ho.adv 2).adv 1)]
        by_cases h4:p.length=4
        . rw[h4,dF0 (show ¬ (4:Nat)≠4 by simp),show(((4:Nat):Int)!=4)=false from rfl,aY (by omega),aO (by omega),aO (by omega),aY (by omega),tk1]
          simp only[cF]
          show(bif(bif tkN p 0 2 !=25 then true else dg p 3 !=70)then mgE 3 else mgR (mgZ k cs0 0 0) 0)=_
          cases(bif tkN p 0 2 !=25 then true else dg p 3 !=70) <;> rfl
        . rw[dT0 h4,show((p.length:Int)!=4)=true by simp;omega];rfl
 . cases h)
noncomputable def vB:ag:=fun args H=>match args,H with
 | [.int .i64 k,.qs 0 1 l n],[(0,.seq 5 es)]=>.ite (dec (k≠2/\byl es/\l+n<=es.length/\es.length<=1000000)) (mgR (mgY (rdP k (sl es l n)).1) (rdP k (sl es l n)).2) .fail
 | _,_=>.fail
theorem Dh:Known Tryz.prog 33 vB:=qV yW (by
 intro args H v ups h
 unfold vB at h
 split at h
 . rename_i k l n es
   rw[aa]at h
   cases hc:dec (k≠2/\byl es/\l+n<=es.length/\es.length<=1000000)with
   | false=>rw[hc]at h;cases h
   | true=>
    rw[hc,cT]at h
    obtain⟨h2,hb,hl,hm⟩:=dec_iff.1 hc
    cases h
    refine⟨[.int .i64 k],5,es,l,n,1,rfl,rfl,cells5.symm,hl,rfl,rfl,fun _=>rfl,?_⟩
    show ae (.ite (dec (k≠2/\byl (sl es l n)/\(sl es l n).length<=1000000)) (mgR (mgY (rdP k (sl es l n)).1) (rdP k (sl es l n)).2) .fail)=_
    rw[aa,dec_iff.2 ⟨h2,hb.sl _ _,by rw[eR hl];omega⟩];rfl
 . cases h)
noncomputable def yX:ag:=fun args H=>match args,H with
 | [.int .i64 k,.psl 5 p],[]=>.ite (dec (k≠2/\byl p/\p.length<=1000000)) (mgR (mgV (rdP k p).1) (rdP k p).2) .fail
 | [.int .i64 k,.qs 0 1 l n],[(0,.seq 5 es)]=>.ite (dec (k≠2/\byl es/\l+n<=es.length/\es.length<=1000000)) (mgR (mgV (rdP k (sl es l n)).1) (rdP k (sl es l n)).2) .fail
 | _,_=>.fail
noncomputable def yY:ag:=fun args H=>match args,H with
 | [.int .i64 k,.psl 5 p],[]=>.ite (dec (k≠2/\byl p/\p.length<=1000000)) (mgR (mgY (rdP k p).1) (rdP k p).2) .fail
 | [.int .i64 k,.qs 0 1 l n],[(0,.seq 5 es)]=>.ite (dec (k≠2/\byl es/\l+n<=es.length/\es.length<=1000000)) (mgR (mgY (rdP k (sl es l n)).1) (rdP k (sl es l n)).2) .fail
 | _,_=>.fail
theorem Gk:Known Tryz.prog 33 yY:=jf yW Dh (by
 intro args H v ups h
 unfold yY at h
 split at h
 . exact .inl h
 . exact .inr h
 . cases h)
theorem Gl:Known Tryz.prog 33 yX:=bw Gk (by
 intro args H v ups h
 have same:∀ {H:HpL} {x:Nat} {c':Chunk},ad [] (HpL.get H) x=some c'->∃ c,ad [] (HpL.get H) x=some c/\CoC Tryz.prog x c c':=fun hx=>⟨_,hx,.rfl'⟩
 unfold yX at h
 split at h
 . rename_i k p
   rw[aa]at h
   cases hc:dec (k≠2/\byl p/\p.length<=1000000)with
   | false=>rw[hc]at h;cases h
   | true=>
    rw[hc,cT]at h
    cases h
    refine⟨.tup [mgY (rdP k p).1,.int .i64 (rdP k p).2],[],?_,.inr ⟨.tup (.cons (Dg (HS (dec_iff.1 hc).1 p)) .rfl'),fun x c' hx=>same hx⟩⟩
    show ae (.ite (dec (k≠2/\byl p/\p.length<=1000000)) _ _)=_
    rw[aa,hc];rfl
 . rename_i k l n es
   rw[aa]at h
   cases hc:dec (k≠2/\byl es/\l+n<=es.length/\es.length<=1000000)with
   | false=>rw[hc]at h;cases h
   | true=>
    rw[hc,cT]at h
    cases h
    refine⟨.tup [mgY (rdP k (sl es l n)).1,.int .i64 (rdP k (sl es l n)).2],[],?_,.inr ⟨.tup (.cons (Dg (HS (dec_iff.1 hc).1 _)) .rfl'),fun x c' hx=>same hx⟩⟩
    show ae (.ite (dec (k≠2/\byl es/\l+n<=es.length/\es.length<=1000000)) _ _)=_
    rw[aa,hc];rfl
 . cases h)
noncomputable def yZ:ag:=fun args H=>match args,H with
 | [.int .i64 k,.psl 5 p],[]=>.ite (dec (k=2/\byl p/\p.length<=1000000)) (mgR (mgV (rdP k p).1) (rdP k p).2) .fail
 | _,_=>.fail
theorem Gm:Known Tryz.prog 33 yZ:=(aj rdOk Tryz.func33 rfl).weak (by
 intro args H v ups h
 unfold yZ at h
 split at h
 . rename_i k p
   rw[aa]at h
   cases hc:dec (k=2/\byl p/\p.length<=1000000)with
   | false=>rw[hc]at h;cases h
   | true=>
    rw[hc,cT]at h
    obtain⟨rfl,hb,hl⟩:=dec_iff.1 hc
    refine(congrArg ae (yU 2 p)).trans ?_
    show ae (l6 p (mgR (mgV (upP p).1) (upP p).2))=_
    rw[eA hb hl]
    exact h
 . cases h)
noncomputable def vC:ag:=fun args H=>match args,H with
 | [.int .i64 k,.qs 0 1 l n],[(0,.seq 5 es)]=>.ite (dec (k=2/\byl es/\l+n<=es.length/\es.length<=1000000)) (mgR (mgV (rdP k (sl es l n)).1) (rdP k (sl es l n)).2) .fail
 | _,_=>.fail
theorem Di:Known Tryz.prog 33 vC:=(aj (ac K0 ok0) Tryz.func33 rfl).weak (by
 intro args H v ups h
 unfold vC at h
 split at h
 . rename_i k l n es
   rw[aa]at h
   cases hc:dec (k=2/\byl es/\l+n<=es.length/\es.length<=1000000)with
   | false=>rw[hc]at h;cases h
   | true=>
    rw[hc,cT]at h
    obtain⟨rfl,hb⟩:=dec_iff.1 hc
    refine(congrArg ae (Gj l n es)).trans ?_
    rw[dec_iff.2 hb]
    exact h
 . cases h)
noncomputable def za:ag:=fun args H=>match args,H with
 | [.int .i64 k,.psl 5 p],[]=>.ite (dec (k=2/\byl p/\p.length<=1000000)) (mgR (mgV (rdP k p).1) (rdP k p).2) .fail
 | [.int .i64 k,.qs 0 1 l n],[(0,.seq 5 es)]=>.ite (dec (k=2/\byl es/\l+n<=es.length/\es.length<=1000000)) (mgR (mgV (rdP k (sl es l n)).1) (rdP k (sl es l n)).2) .fail
 | _,_=>.fail
theorem Gn:Known Tryz.prog 33 za:=jf Gm Di (by
 intro args H v ups h
 unfold za at h
 split at h
 . exact .inl h
 . exact .inr h
 . cases h)
noncomputable def oJ:ag:=fun args H=>match args,H with
 | [.int .i64 k,.psl 5 p],[]=>.ite (dec (byl p/\p.length<=1000000)) (mgR (mgV (rdP k p).1) (rdP k p).2) .fail
 | [.int .i64 k,.qs 0 1 l n],[(0,.seq 5 es)]=>.ite (dec (byl es/\l+n<=es.length/\es.length<=1000000)) (mgR (mgV (rdP k (sl es l n)).1) (rdP k (sl es l n)).2) .fail
 | _,_=>.fail
theorem Gp     :Known Tryz.prog 33 oJ     :=jf       Gl      Gn      (by
 intro args H v ups h
 unfold oJ at h
 split at h
 . rename_i k p
   rw[aa]at h
   cases hc:dec (byl p/\p.length<=1000000)with
   | false=>rw[hc]at h;cases h
   | true=>
    rw[hc,cT]at h
    have hb:=dec_iff.1 hc
    by_cases h2:k=2
    . right
      show ae (.ite (dec (k=2/\byl p/\p.length<=1000000)) _ _)=_
      rw[aa,dec_iff.2 ⟨h2,hb⟩];exact h
    . left
      show ae (.ite (dec (k≠2/\byl p/\p.length<=1000000)) _ _)=_
      rw[aa,dec_iff.2 ⟨h2,hb⟩];exact h
 . rename_i k l n es
   rw[aa]at h
   cases hc:dec (byl es/\l+n<=es.length/\es.length<=1000000)with
   | false=>rw[hc]at h;cases h
   | true=>
    rw[hc,cT]at h
    have hb:=dec_iff.1 hc
    by_cases h2:k=2
    . right
      show ae (.ite (dec (k=2/\byl es/\l+n<=es.length/\es.length<=1000000)) _ _)=_
      rw[aa,dec_iff.2 ⟨h2,hb⟩];exact h
    . left
      show ae (.ite (dec (k≠2/\byl es/\l+n<=es.length/\es.length<=1000000)) _ _)=_
      rw[aa,dec_iff.2 ⟨h2,hb⟩];exact h
 . cases h)
end Go.Proofs.YtnlmhpancboddaaGreat
