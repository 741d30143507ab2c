/- Readers: an identifier, a host. -/
import Derived.Test.YtnlmhpancboddaaGreatPart5
set_option linter.unusedVariables false
set_option linter.unusedSimpArgs false
namespace Go.Proofs.YtnlmhpancboddaaGreat
open Go.Am
set_option maxRecDepth 100000
def idT(r':Rd)(n:Nat)(xs:List SV):CTree:=bif decide (xs.length<=((10:Nat):Int).toNat - (0:Int).toNat)then .ret (idV xs) [(0,some (rC r' n))]else .fail
theorem OK(r:Rd)(n:Nat)(es:List SV):opn κi Tryz.f171 [.ptr 0 0] (rH r n es)=
 bif dec (OkRd r es/\n=es.length/\(0:Int)<=10/\(10:Int)<=1000000)then bif decide (0=0)&&decide ((r.sub es 10).length=(r.sub es 10).length)then idT (r.adv 10) n (r.sub es 10)
  else bif decide (0+(r.sub es 10).length<=(r.sub es 10).length)then idT (r.adv 10) n (((r.sub es 10).drop 0).take (r.sub es 10).length)else .fail else .fail:=by kernel_rfl
noncomputable def GZ:ag:=fun args H=>match args with
 | [.ptr 0 0]=>match rOf H with
  | some (r,n,es)=>.ite (dec (OkRd r es/\n=es.length)) (.ret (idV (r.sub es 10)) [(0,some (rC (r.adv 10) n))]) .fail
  | none=>.fail
 | _=>.fail
theorem M9  :Known Tryz.prog 171 GZ  :=(am        iOk Tryz.func171 rfl).weak (by
 intro args H v ups h
 unfold GZ at h
 split at h
 . split at h
   . rename_i r n es hr
     rw[aa]at h
     cases hc:dec (OkRd r es/\n=es.length)with
     | false=>rw[hc]at h;cases h
     | true=>
      rw[hc]at h
      obtain⟨ho,rfl⟩:=dec_iff.1 hc
      have hl:=yL r es 10
      have hm:((10:Nat):Int).toNat - (0:Int).toNat=10:=rfl
      rw[nr hr,OK,dec_iff.2 ⟨ho,rfl,by omega,by omega⟩,dT0 rfl,dT0 rfl]
      simp only[Bool.and_self,cT]
      unfold idT
      rw[dT0 (by rw[hm];exact hl)]
      exact h
   . cases h
 . cases h)
def nC(n:Nl):Chunk:=.cells 88 [.int .i64 n.kind,.int .u64 n.rd,.int .u8 n.e0,.int .u8 n.e1,.int .u8 n.e2,.int .u8 n.e3,.int .u8 n.e4,.int .u8 n.e5,.int .u8 n.e6,.int .u8 n.e7,.int .u8 n.e8,.int .u8 n.e9,.int .u32 n.tag,.int .u64 n.mac,.int .u32 n.ip,.bool n.hip,.int .u32 n.pip,.int .i64 n.plen,.int .u32 n.gw,.int .u32 n.lab,.int .u32 n.lab2]
def gH(r:Rd)(m:Nat)(es:List SV)(n:Nl):HpL:=[(0,.cells 157 [.int .i64 r.at_,.int .i64 r.end_,.qs 1 1 0 m,.int .i64 r.err,.int .i64 r.fat,.bool true]),(1,.seq 5 es),(2,nC n)]
def gOf:HpL->Option (Rd × Nat × List SV × Nl)
 | [(0,.cells 157 [.int .i64 a,.int .i64 e,.qs 1 1 0 m,.int .i64 er,.int .i64 f,.bool true]),(1,.seq 5 es),(2,.cells 88 [.int .i64 kind,.int .u64 rd,.int .u8 e0,.int .u8 e1,.int .u8 e2,.int .u8 e3,.int .u8 e4,.int .u8 e5,.int .u8 e6,.int .u8 e7,.int .u8 e8,.int .u8 e9,.int .u32 tag,.int .u64 mac,.int .u32 ip,.bool hip,.int .u32 pip,.int .i64 plen,.int .u32 gw,.int .u32 lab,.int .u32 lab2])]=>some (⟨a,e,er,f⟩,m,es,⟨kind,rd,e0,e1,e2,e3,e4,e5,e6,e7,e8,e9,tag,mac,ip,hip,pip,plen,gw,lab,lab2⟩)
 | _=>none
theorem H3{H:HpL}{r:Rd}{m:Nat}{es:List SV}{n:Nl}(h:gOf H=some (r,m,es,n)):H=gH r m es n:=by
 unfold gOf at h
 split at h
 . cases h;rfl
 . cases h
abbrev w3(n:Int):Int:=IntKind.u32.wrap n
noncomputable def rdC(r:Rd)(m:Nat)(es:List SV)(k:Int)(K:CTree):CTree:=bif dec (OkRd r es/\m=es.length/\0<=k/\k<=8)then K else .fail
noncomputable abbrev κh:=tbl [(69,fE),(171,GZ)]
theorem hOk:KOk Tryz.prog κh:=af yp (af M9 ok0)
theorem Kk(r:Rd)(m:Nat)(es:List SV)(n:Nl):opn κh Tryz.f176 [.ptr 0 0,.ptr 2 0] (gH r m es n)=
 rdC r m es 1 (bif r.num es 1==32 then rdC (r.adv 1) m es 4 (.ret (.tup []) [(2,some (nC {n with hip:=true,ip:=w3 ((r.adv 1).num es 4)})),(0,some (rC ((r.adv 1).adv 4) m))])else .ret (.tup []) [(0,some (rC (r.adv 1) m))]):=by kernel_rfl
def gq(es:List SV)(r:Rd)(n:Nl):Nl:={n with hip:=bif r.num es 1==32 then true else n.hip,ip:=bif r.num es 1==32 then w3 ((r.adv 1).num es 4)else n.ip}
def da(es:List SV)(r:Rd):Rd:=bif r.num es 1==32 then(r.adv 1).adv 4 else r.adv 1
theorem D4{r:Rd}{es:List SV}(h:OkRd r es):OkRd (da es r) es:=by
 unfold da
 cases r.num es 1==32
 . exact h.adv 1
 . exact(h.adv 1).adv 4
theorem G6{r:Rd}{m:Nat}{es:List SV}{n n':Nl}{c:Chunk}(h:n'=n):∀ x,ad [(2,some (nC n')),(0,some c)] (gH r m es n).get x=ad [(0,some c)] (gH r m es n).get x:=by
 subst h
 intro x
 match x with
 | 0=>rfl
 | 1=>rfl
 | 2=>rfl
 | x+3=>rfl
noncomputable def xr:ag:=fun args H=>match args with
 | [.ptr 0 0,.ptr 2 0]=>match gOf H with
  | some (r,m,es,n)=>.ite (dec (OkRd r es/\m=es.length)) (.ret (.tup []) [(2,some (nC (gq es r n))),(0,some (rC (da es r) m))]) .fail
  | none=>.fail
 | _=>.fail
theorem cG{r:Rd}{m:Nat}{es:List SV}{k:Int}{K:CTree}(h:OkRd r es)(hm:m=es.length)(h0:0<=k)(h1:k<=8):rdC r m es k K=K:=by
 unfold rdC;rw[dec_iff.2 ⟨h,hm,h0,h1⟩];rfl
theorem Kl    :Known Tryz.prog 176 xr    :=fP        (am        hOk Tryz.func176 rfl) (by
 intro args H v ups h
 left
 unfold xr at h
 split at h
 . split at h
   . rename_i r m es n hr
     rw[aa]at h
     cases hc:dec (OkRd r es/\m=es.length)with
     | false=>rw[hc]at h;cases h
     | true=>
      rw[hc]at h
      obtain⟨ho,rfl⟩:=dec_iff.1 hc
      rw[H3 hr,Kk,cG ho rfl (by omega) (by omega)]
      cases h
      unfold gq da
      cases r.num es 1==32 with
      | true=>rw[cT,cG (ho.adv 1) rfl (by omega) (by omega)];exact⟨_,rfl,fun x=>rfl⟩
      | false=>exact⟨_,rfl,G6 rfl⟩
   . cases h
 . cases h)
noncomputable abbrev κg:=tbl [(69,fE),(171,GZ),(176,xr)]
theorem gOk:KOk Tryz.prog κg:=af yp (af M9 (af Kl ok0))
noncomputable def idC(r:Rd)(m:Nat)(es:List SV)(K:CTree):CTree:=bif dec (OkRd r es/\m=es.length)then K else .fail
theorem kH{r:Rd}{m:Nat}{es:List SV}{K:CTree}(h:OkRd r es)(hm:m=es.length):idC r m es K=K:=by
 unfold idC;rw[dec_iff.2 ⟨h,hm⟩];rfl
def ids(xs:List SV)(n:Nl):Nl:={n with e0:=idB xs 0,e1:=idB xs 1,e2:=idB xs 2,e3:=idB xs 3,e4:=idB xs 4,e5:=idB xs 5,e6:=idB xs 6,e7:=idB xs 7,e8:=idB xs 8,e9:=idB xs 9}
def vV(n:Nl)(r:Rd)(m:Nat):CTree:=.ret (.tup []) [(2,some (nC n)),(0,some (rC r m))]
def gA:List SV:=[.agg [],.ptr 0 0,.ptr 2 0]
/- What each kind's value is read as. -/
def g1N(es:List SV)(r:Rd)(n:Nl):Nl:={(ids ((r.adv 8).sub es 10) n)with rd:=r.num es 8,tag:=w3 (((r.adv 8).adv 10).num es 4),lab:=w3 ((((r.adv 8).adv 10).adv 4).num es 3)}
def g1R(r:Rd):Rd:=(((r.adv 8).adv 10).adv 4).adv 3
theorem Km(r:Rd)(m:Nat)(es:List SV)(n:Nl):opn κg Tryz.f168 gA (gH r m es n)=
 rdC r m es 8 (idC (r.adv 8) m es (rdC ((r.adv 8).adv 10) m es 4 (rdC (((r.adv 8).adv 10).adv 4) m es 3 (vV (g1N es r n) (g1R r) m)))):=by kernel_rfl
def g3N(es:List SV)(r:Rd)(n:Nl):Nl:=gq es ((r.adv 8).adv 4) {n with rd:=r.num es 8,tag:=w3 ((r.adv 8).num es 4)}
def g3R(es:List SV)(r:Rd):Rd:=da es ((r.adv 8).adv 4)
theorem Kn(r:Rd)(m:Nat)(es:List SV)(n:Nl):opn κg Tryz.f179 gA (gH r m es n)=
 rdC r m es 8 (rdC (r.adv 8) m es 4 (idC ((r.adv 8).adv 4) m es (vV (g3N es r n) (g3R es r) m))):=by kernel_rfl
def g4N(es:List SV)(r:Rd)(n:Nl):Nl:=gq es ((r.adv 8).adv 10) {(ids ((r.adv 8).sub es 10) n)with rd:=r.num es 8}
def g4R(es:List SV)(r:Rd):Rd:=da es ((r.adv 8).adv 10)
theorem Ko(r:Rd)(m:Nat)(es:List SV)(n:Nl):opn κg Tryz.f181 gA (gH r m es n)=
 rdC r m es 8 (idC (r.adv 8) m es (idC ((r.adv 8).adv 10) m es (vV (g4N es r n) (g4R es r) m))):=by kernel_rfl
def g5r(r:Rd):Rd:=((r.adv 8).adv 10).adv 4
def g5N(es:List SV)(r:Rd)(n:Nl):Nl:={(ids ((r.adv 8).sub es 10) n)with rd:=r.num es 8,tag:=w3 (((r.adv 8).adv 10).num es 4),plen:=IntKind.i64.wrap ((g5r r).num es 1),pip:=w3 (((g5r r).adv 1).num es 4),gw:=w3 ((((g5r r).adv 1).adv 4).num es 4),lab:=w3 (((((g5r r).adv 1).adv 4).adv 4).num es 3)}
def g5R(r:Rd):Rd:=((((g5r r).adv 1).adv 4).adv 4).adv 3
theorem Kp(r:Rd)(m:Nat)(es:List SV)(n:Nl):opn κg Tryz.f183 gA (gH r m es n)=
 rdC r m es 8 (idC (r.adv 8) m es (rdC ((r.adv 8).adv 10) m es 4 (rdC (g5r r) m es 1 (rdC ((g5r r).adv 1) m es 4 (rdC (((g5r r).adv 1).adv 4) m es 4 (rdC ((((g5r r).adv 1).adv 4).adv 4) m es 3 (vV (g5N es r n) (g5R r) m))))))):=by kernel_rfl
def g2r(es:List SV)(r:Rd):Rd:=da es ((((((r.adv 8).adv 10).adv 4).adv 1).adv 6))
def g2n(es:List SV)(r:Rd)(n:Nl):Nl:=gq es ((((((r.adv 8).adv 10).adv 4).adv 1).adv 6)) {(ids ((r.adv 8).sub es 10) n)with rd:=r.num es 8,tag:=w3 (((r.adv 8).adv 10).num es 4),mac:=((((r.adv 8).adv 10).adv 4).adv 1).num es 6}
def left(r:Rd):Int:=IntKind.i64.wrap (r.end_ - r.at_)
theorem Kq(r:Rd)(m:Nat)(es:List SV)(n:Nl):opn κg Tryz.f173 gA (gH r m es n)=
 rdC r m es 8 (idC (r.adv 8) m es (rdC ((r.adv 8).adv 10) m es 4 (rdC (((r.adv 8).adv 10).adv 4) m es 1 (rdC ((((r.adv 8).adv 10).adv 4).adv 1) m es 6 (idC (((((r.adv 8).adv 10).adv 4).adv 1).adv 6) m es (rdC (g2r es r) m es 3
  (bif decide (left ((g2r es r).adv 3) > 0)then rdC ((g2r es r).adv 3) m es 3 (vV {(g2n es r n)with lab:=w3 ((g2r es r).num es 3),lab2:=w3 (((g2r es r).adv 3).num es 3)} (((g2r es r).adv 3).adv 3) m)
   else vV {(g2n es r n)with lab:=w3 ((g2r es r).num es 3)} ((g2r es r).adv 3) m))))))):=by kernel_rfl
def g2N(es:List SV)(r:Rd)(n:Nl):Nl:={(g2n es r n)with lab:=w3 ((g2r es r).num es 3),lab2:=bif decide (left ((g2r es r).adv 3) > 0)then w3 (((g2r es r).adv 3).num es 3)else(g2n es r n).lab2}
def g2R(es:List SV)(r:Rd):Rd:=bif decide (left ((g2r es r).adv 3) > 0)then((g2r es r).adv 3).adv 3 else(g2r es r).adv 3
noncomputable def iK(N:List SV->Rd->Nl->Nl)(R:List SV->Rd->Rd):ag:=fun args H=>match args with
 | [.agg [],.ptr 0 0,.ptr 2 0]=>match gOf H with
  | some (r,m,es,n)=>.ite (dec (OkRd r es/\m=es.length)) (vV (N es r n) (R es r) m) .fail
  | none=>.fail
 | _=>.fail
theorem qe    {f:Nat}{fn:Func}(hf:Tryz.prog.funcs[f]? =some fn)(hb:fn.body.isNone=false){N:List SV->Rd->Nl->Nl}{R:List SV->Rd->Rd}
  (h:∀ (r:Rd) (es:List SV) (n:Nl),OkRd r es->opn κg fn gA (gH r es.length es n)=vV (N es r n) (R es r) es.length):Known Tryz.prog f (iK N R):=(am gOk hf hb).weak (by
 intro args H v ups hr
 unfold iK at hr
 split at hr
 . split at hr
   . rename_i r m es n hg
     rw[aa]at hr
     cases hc:dec (OkRd r es/\m=es.length)with
     | false=>rw[hc]at hr;cases hr
     | true=>
      rw[hc]at hr
      obtain⟨ho,rfl⟩:=dec_iff.1 hc
      rw[H3 hg]
      exact(congrArg ac (h r es n ho)).trans hr
   . cases hr
 . cases hr)
theorem Kr:Known Tryz.prog 168 (iK g1N (fun _ r=>g1R r)):=qe Tryz.func168 rfl (fun r es n h=>by
 rw[Km,cG h rfl (by omega) (by omega),kH (h.adv _) rfl,cG ((h.adv _).adv _) rfl (by omega) (by omega),cG (((h.adv _).adv _).adv _) rfl (by omega) (by omega)])
theorem Ks:Known Tryz.prog 179 (iK g3N g3R):=qe Tryz.func179 rfl (fun r es n h=>by
 rw[Kn,cG h rfl (by omega) (by omega),cG (h.adv _) rfl (by omega) (by omega),kH ((h.adv _).adv _) rfl])
theorem Kt:Known Tryz.prog 181 (iK g4N g4R):=qe Tryz.func181 rfl (fun r es n h=>by
 rw[Ko,cG h rfl (by omega) (by omega),kH (h.adv _) rfl,kH ((h.adv _).adv _) rfl])
theorem Ku:Known Tryz.prog 183 (iK g5N (fun _ r=>g5R r)):=qe Tryz.func183 rfl (fun r es n h=>by
 have h5:OkRd (g5r r) es:=((h.adv _).adv _).adv _
 rw[Kp,cG h rfl (by omega) (by omega),kH (h.adv _) rfl,cG ((h.adv _).adv _) rfl (by omega) (by omega),cG h5 rfl (by omega) (by omega),cG (h5.adv _) rfl (by omega) (by omega),cG ((h5.adv _).adv _) rfl (by omega) (by omega),cG (((h5.adv _).adv _).adv _) rfl (by omega) (by omega)])
theorem Kv:Known Tryz.prog 173 (iK g2N g2R):=qe Tryz.func173 rfl (fun r es n h=>by
 have h6:OkRd (((((r.adv 8).adv 10).adv 4).adv 1).adv 6) es:=((((h.adv _).adv _).adv _).adv _).adv _
 have h7:OkRd (g2r es r) es:=D4 h6
 rw[Kq,cG h rfl (by omega) (by omega),kH (h.adv _) rfl,cG ((h.adv _).adv _) rfl (by omega) (by omega),cG (((h.adv _).adv _).adv _) rfl (by omega) (by omega),cG ((((h.adv _).adv _).adv _).adv _) rfl (by omega) (by omega),kH h6 rfl,cG h7 rfl (by omega) (by omega)]
 unfold g2N g2R
 cases decide (left ((g2r es r).adv 3) > 0)with
 | true=>rw[cT,cG (h7.adv _) rfl (by omega) (by omega)];rfl
 | false=>rfl)
noncomputable def nrK(n:Nat)(xs:List SV):CTree:=bif te (([]:List SV).length+xs.length)then .ret (.ptr 1 0) [(1,some (.cells 157 [.int .i64 0,.int .i64 n,.qs 2 1 0 (([]:List SV).length+xs.length),.int .i64 0,.int .i64 0,.bool true])),(2,some (.seq 5 ([]++xs)))]else .fail
theorem N6(l n:Nat)(es:List SV):opn (tbl []) Tryz.f47 [.qs 0 1 l n] [(0,.seq 5 es)]=bif decide (l=0)&&decide (n=es.length)then nrK n es else bif decide (l+n<=es.length)then nrK n ((es.drop l).take n)else .fail:=by kernel_rfl
def sl(es:List SV)(l n:Nat):List SV:=(es.drop l).take n
theorem dK{es:List SV}{l n:Nat}(h:l+n<=es.length):(sl es l n).length=n:=by
 unfold sl;rw[List.length_take,List.length_drop];omega
def Ap:ag:=fun args H=>match args,H with
 | [.qs 0 1 l n],[(0,.seq 5 es)]=>.ite (decide (l+n<=es.length/\n<=1000000)) (.ret (.ptr 1 0) [(1,some (.cells 157 [.int .i64 0,.int .i64 n,.qs 2 1 0 n,.int .i64 0,.int .i64 0,.bool true])),(2,some (.seq 5 (sl es l n)))]) .fail
 | _,_=>.fail
theorem I2  :Known Tryz.prog 47 Ap  :=(am        ok0 Tryz.func47 rfl).weak (by
 intro args H v ups h
 unfold Ap at h
 split at h
 . rename_i l n es
   rw[aa]at h
   cases hc:decide (l+n<=es.length/\n<=1000000)with
   | false=>rw[hc]at h;cases h
   | true=>
    rw[hc]at h
    obtain⟨h1,h2⟩:=of_decide_eq_true hc
    have hs:=dK h1
    have hk:∀ xs:List SV,xs=sl es l n->nrK n xs= .ret (.ptr 1 0) [(1,some (.cells 157 [.int .i64 0,.int .i64 n,.qs 2 1 0 n,.int .i64 0,.int .i64 0,.bool true])),(2,some (.seq 5 (sl es l n)))]:=by
     rintro xs rfl
     unfold nrK
     rw[List.length_nil,Nat.zero_add,hs,kB h2];rfl
    rw[N6]
    by_cases hd:l=0/\n=es.length
    . rw[dT0 hd.1,dT0 hd.2,hk es (by unfold sl;rw[hd.1,hd.2];simp)]
      exact h
    . have hf:(decide (l=0)&&decide (n=es.length))=false:=by
        cases h5:decide (l=0) <;> cases h6:decide (n=es.length) <;> simp_all
      rw[hf,cF,dT0 h1,cT,hk ((es.drop l).take n) rfl]
      exact h
 . cases h)
noncomputable abbrev κd2:=tbl [(47,Ap),(168,iK g1N (fun _ r=>g1R r)),(173,iK g2N g2R),(179,iK g3N g3R),(181,iK g4N g4R),(183,iK g5N (fun _ r=>g5R r)),(82,gj),(106,ph)]
theorem N7:KOk Tryz.prog κd2:=af I2 (af Kr (af Kv (af Ks (af Kt (af Ku (af oP (af Cp ok0)))))))
def cM:Chunk:=.mpc [.int .i64 1,.int .i64 2,.int .i64 3,.int .i64 4,.int .i64 5] [.iface 215 (.agg []),.iface 216 (.agg []),.iface 217 (.agg []),.iface 218 (.agg []),.iface 219 (.agg [])]
def zN:Nl:=⟨0,0,0,0,0,0,0,0,0,0,0,0,0,0,0,false,0,0,0,0,0⟩
def zK(k:Int):Nl:={zN with kind:=k}
def uQ(e:Int):CTree:=.ret (.tup [zN.v,.int .i64 e]) []
def FM(x:List SV)(K:List UInt8->CTree):CTree:=bif decide (0=0)&&decide (x.length=x.length)then K (x.map Am.byteOf)else bif decide (0+x.length<=x.length)then K (((x.drop 0).take x.length).map Am.byteOf)else .fail
def I3(es:List SV)(l n:Nat)(K:List UInt8->CTree):CTree:=bif decide (l=0)&&decide (n=es.length)then K (es.map Am.byteOf)else bif decide (l+n<=es.length)then K (((es.drop l).take n).map Am.byteOf)else .fail
noncomputable def sL(val:Nl->List SV)(n1:Nl)(r1:Rd)(es:List SV)(l n:Nat):CTree:=
 bif r1.err !=0 then uQ 3 else bif decide (left r1 > 0)then uQ 3 else bif chk n1 !=0 then uQ 3 else bif decide (OkP n1)then
  FM (gz val n1) (fun a=>I3 es l n (fun b=>bif !(a==b)then uQ 3 else .ret (.tup [n1.v,.int .i64 0]) []))else .fail
noncomputable def pg(val:Nl->List SV)(N:List SV->Rd->Nl->Nl)(R:List SV->Rd->Rd)(es:List SV)(l n:Nat)(kd:Int):CTree:=
 bif decide ((0:Int)<=2)&&decide ((2:Int)<=n)&&decide ((n:Int)<=n)then bif decide (l+2+((n:Int).toNat - 2)<=es.length/\(n:Int).toNat - 2<=1000000)then
  bif dec (OkRd ⟨0,((n:Int).toNat - 2:Nat),0,0⟩ (sl es (l+2) ((n:Int).toNat - 2))/\(n:Int).toNat - 2=(sl es (l+2) ((n:Int).toNat - 2)).length)then
   sL val (N (sl es (l+2) ((n:Int).toNat - 2)) ⟨0,((n:Int).toNat - 2:Nat),0,0⟩ (zK kd)) (R (sl es (l+2) ((n:Int).toNat - 2)) ⟨0,((n:Int).toNat - 2:Nat),0,0⟩) es l n
  else .fail else .fail else .fail
noncomputable def wL(es:List SV)(l n:Nat)(kd:Int):CTree:=
 bif kd==1 then pg g8 g1N (fun _ r=>g1R r) es l n kd else bif kd==2 then pg bI g2N g2R es l n kd else bif kd==3 then pg g9 g3N g3R es l n kd else bif kd==4 then pg hJ g4N g4R es l n kd else bif kd==5 then pg hO g5N (fun _ r=>g5R r) es l n kd else uQ 6
theorem LW(l n:Nat)(es:List SV):opn κd2 Tryz.f140 [.qs 0 1 l n,.mp 1] [(0,.seq 5 es),(1,cM)]=
 bif decide ((n:Int) < 2)then uQ 4 else bif inB 1 n then bif decide (l+1 < es.length)then bif decide ((n:Int) < IntKind.i64.wrap (2+IntKind.i64.wrap (dg es (l+1))))then uQ 4 else
 bif inB 0 n then bif decide (l+0 < es.length)then wL es l n (IntKind.i64.wrap (dg es (l+0)))else .fail else .fail else .fail else .fail:=by kernel_rfl
end Go.Proofs.YtnlmhpancboddaaGreat
