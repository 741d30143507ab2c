/- Readers: numbers. -/
import Derived.Test.YtnlmhpancboddaaGreatPart4
import Derived.Test.YtnlmhpancboddaaGreatMachine6
set_option linter.unusedVariables false
set_option linter.unusedSimpArgs false
namespace Go.Proofs.YtnlmhpancboddaaGreat
open Go.Am
set_option maxRecDepth 100000
noncomputable def dec(p:Prop):Bool:=(Classical.propDecidable p).decide
theorem dec_iff{p:Prop}:dec p=true↔p:=by unfold dec;exact @decide_eq_true_iff _ (Classical.propDecidable _)
def dg(es:List SV)(i:Nat):Int:=asI (es.getD i .junk)
def tkN(es:List SV)(s:Nat):Nat->Int
 | 0=>0
 | k+1=>tkN es s k * 256+dg es (s+k)
def rj(es:List SV):Prop:=∀ k:Nat,0<=dg es k/\dg es k<=255
theorem bT{es:List SV}(h:rj es)(s:Nat):∀ k,0<=tkN es s k/\tkN es s k < 256 ^ k
 | 0=>by simp[tkN]
 | k+1=>by
  obtain⟨h1,h2⟩:=bT h s k
  obtain⟨h3,h4⟩:=h (s+k)
  rw[tkN,Int.pow_succ]
  generalize(256:Int) ^ k=p at *
  omega
def Km(acc x:Int):Int:=IntKind.u64.wrap ((BitVec.ofInt IntKind.u64.bits (IntKind.u64.wrap (acc * 2 ^ min (8:Int).toNat IntKind.u64.bits))||| BitVec.ofInt IntKind.u64.bits (IntKind.u64.wrap x)).toNat:Int)
noncomputable def Dl:Code:=Tryz.f69.body.getD .skip
noncomputable def c91:Code:=(bx 4 Dl).getD .skip
noncomputable def vF:ag
 | [.nils,.int .i64 n,.int .i64 i,.int .u64 a],[]=>.ite (decide (n<=i)) (.ret (.tup [.int .i64 2,.int .u64 a]) []) .fail
 | [.qs 0 1 l n,.int .i64 m,.int .i64 i,.int .u64 a],[(0,.seq 5 es)]=>.ite (dec (m=n/\0<=i/\i<=n/\n<=8/\l+n<=es.length/\rj es/\a=tkN es l i.toNat)) (.ret (.tup [.int .i64 2,.int .u64 (tkN es l n)]) []) .fail
 | _,_=>.fail
def Kn:List SV->HpL->Nat
 | [_,.int _ n,.int _ i,_],_=>(n - i).toNat
 | _,_=>0
noncomputable def e91:LEnt:={ins:=[16,17,18,7],outs:=[7],keep:=[],size:=29,code:=c91,s:=vF}
noncomputable abbrev κ0:=bt Tryz.prog (tbl []) 300 5
noncomputable abbrev ι0:Nat->Bool:=fun g=>inl (tbl []) g&&bJ Tryz.prog g
noncomputable def HT(N:Nat)(es:List SV)(l n:Nat)(m i a:Int):CTree:=
 bif Nat.blt (m - i).toNat N then bif dec (m=n/\0<=i/\i<=n/\n<=8/\l+n<=es.length/\rj es/\a=tkN es l i.toNat)then .ret (.tup [.int .i64 2,.int .u64 (tkN es l n)]) []else .fail else .fail
theorem Gq(N:Nat)(es:List SV)(l n:Nat)(m i a:Int):ay Tryz.prog κ0 ι0 (aL []) true 300 e91 {e91 with s:=az Kn vF N} c91 [.qs 0 1 l n,.int .i64 m,.int .i64 i,.int .u64 a] [(0,.seq 5 es)]=
 bif decide (i < m)then bif inB i n then bif decide (l+i.toNat < es.length)then HT N es l n m (IntKind.i64.wrap (i+1)) (Km a (dg es (l+i.toNat)))else .fail else .fail else .ret (.tup [.int .i64 2,.int .u64 a]) []:=by kernel_rfl
theorem Dm(N:Nat)(n i a:Int):ay Tryz.prog κ0 ι0 (aL []) true 300 e91 {e91 with s:=az Kn vF N} c91 [.nils,.int .i64 n,.int .i64 i,.int .u64 a] []=bif decide (i < n)then .fail else .ret (.tup [.int .i64 2,.int .u64 a]) []:=by kernel_rfl
theorem xu{n:Int}(h0:0<=n)(h1:n < 18446744073709551616):IntKind.u64.wrap n=n:=by
 simp[IntKind.wrap,IntKind.bits,IntKind.signed];omega
theorem Ko{a x:Int}(h0:0<=a)(h1:a < 72057594037927936)(h2:0<=x)(h3:x<=255):Km a x=a * 256+x:=by
 obtain⟨A,rfl⟩:=Int.eq_ofNat_of_zero_le h0
 obtain⟨X,rfl⟩:=Int.eq_ofNat_of_zero_le h2
 unfold Km
 rw[show(2:Int) ^ min (8:Int).toNat IntKind.u64.bits=256 by decide,xu (n:=(A:Int) * 256) (by omega) (by omega),xu (n:=(X:Int)) (by omega) (by omega)]
 have e1:BitVec.ofInt IntKind.u64.bits ((A:Int) * 256)=BitVec.ofNat 64 (A * 256):=by
  rw[show((A:Int) * 256)=((A * 256:Nat):Int)by omega];exact BitVec.ofInt_natCast 64 _
 have e2:BitVec.ofInt IntKind.u64.bits (X:Int)=BitVec.ofNat 64 X:=BitVec.ofInt_natCast 64 _
 rw[e1,e2]
 have e3:(BitVec.ofNat 64 (A * 256)||| BitVec.ofNat 64 X).toNat=A * 256+X:=by
  rw[BitVec.toNat_or,BitVec.toNat_ofNat,BitVec.toNat_ofNat,Nat.mod_eq_of_lt (by omega),Nat.mod_eq_of_lt (by omega)]
  have:=Nat.shiftLeft_add_eq_or_of_lt (a:=A) (b:=X) (i:=8) (by omega)
  rw[Nat.shiftLeft_eq]at this
  exact this.symm
 refine(congrArg (fun k:Nat=>IntKind.u64.wrap (k:Int)) e3).trans ?_
 rw[xu (by omega) (by omega)]
 omega
theorem AG       :aR     Tryz.prog e91:=ct         (κ:=κ0) (ι:=ι0) (T:=aL   []) (sp:=true) (fuel:=300) (c:=c91) (μ:=Kn  ) (aG       ap       ax     ok0 300 5) ax     aE       (show aM    (aL   []) c91=c91 by kernel_rfl) (by
 intro N args H r hb hr0
 have hr':ae (vF args H)=some r:=hr0
 unfold vF at hr'
 split at hr'
 . rename_i n i a
   rw[aa]at hr'
   cases hc:decide (n<=i)with
   | false=>rw[hc]at hr';cases hr'
   | true=>
    rw[hc]at hr'
    rw[<- hr']
    have:=of_decide_eq_true hc
    refine(congrArg ae (Dm N n i a)).trans ?_
    rw[dF0 (by omega)];rfl
 . rename_i l n m i a es
   rw[aa]at hr'
   cases hc:dec (m=n/\0<=i/\i<=n/\n<=8/\l+n<=es.length/\rj es/\a=tkN es l i.toNat)with
   | false=>rw[hc]at hr';cases hr'
   | true=>
    rw[hc]at hr'
    obtain⟨rfl,h0,h1,h2,h3,h4,rfl⟩:=dec_iff.1 hc
    have hb':((n:Int) - i).toNat < N+1:=by
     have:Nat.blt ((n:Int) - i).toNat (N+1)=true:=hb
     rwa [bL]at this
    rw[<- hr']
    refine(congrArg ae (Gq N es l n n i _)).trans ?_
    by_cases hlt:i < n
    . have hw:IntKind.i64.wrap (i+1)=i+1:=am (by omega) (by omega)
      have hin:inB i n=true:=by unfold inB;simp;omega
      obtain⟨t0,t1⟩:=bT h4 l i.toNat
      obtain⟨d0,d1⟩:=h4 (l+i.toNat)
      have hp:(256:Int) ^ i.toNat<=72057594037927936:=by
       have:i.toNat<=7:=by omega
       calc (256:Int) ^ i.toNat<=256 ^ 7:=by exact_mod_cast Nat.pow_le_pow_right (by decide) this
        _=72057594037927936:=by decide
      have hbb:Nat.blt ((n:Int) - (i+1)).toNat N=true:=by rw[bL];omega
      rw[dT0 hlt,hin,dT0 (by omega),hw,Ko t0 (by omega) d0 d1]
      simp only[cT]
      unfold HT
      rw[hbb,dec_iff.2 ⟨rfl,by omega,by omega,h2,h3,h4,by rw[show(i+1).toNat=i.toNat+1 by omega,tkN]⟩]
      rfl
    . have:i.toNat=n:=by omega
      rw[dF0 hlt,this];rfl
 . cases hr')
noncomputable abbrev T91:cQ:=aL [("n",e91)]
noncomputable def m91:Code:=bF [(4, "n")] Dl
theorem Kp:Tryz.f69.body=some (aM T91 m91):=by kernel_rfl
noncomputable abbrev HU:ag:=bV Tryz.prog κ0 ι0 T91 true 300 Tryz.f69 m91
structure Rd where
 (at_ end_ err fat:Int)
def rH(r:Rd)(n:Nat)(es:List SV):HpL:=[(0,.cells 157 [.int .i64 r.at_,.int .i64 r.end_,.qs 1 1 0 n,.int .i64 r.err,.int .i64 r.fat,.bool true]),(1,.seq 5 es)]
def rC(r:Rd)(n:Nat):Chunk:=.cells 157 [.int .i64 r.at_,.int .i64 r.end_,.qs 1 1 0 n,.int .i64 r.err,.int .i64 r.fat,.bool true]
def wA(r:Rd)(k:Int):Int:=IntKind.i64.wrap (r.at_+k)
def wB(r:Rd)(k:Int):Int:=IntKind.i64.wrap (wA r k - k)
def gf(r:Rd)(k:Int):Bool:=bif decide (k < 0)then true else decide (k > IntKind.i64.wrap (r.end_ - r.at_))
def xl(r:Rd)(k:Int)(n:Nat):Bool:=decide (0<=wB r k)&&decide (wB r k<=wA r k)&&decide (wA r k<=n)
theorem MD(r:Rd)(n:Nat)(es:List SV)(k:Int):HU [.ptr 0 0,.int .i64 k] (rH r n es)=
 bif r.err !=0 then .ret (.int .u64 0) []else bif gf r k then(bif r.err==0 then .ret (.int .u64 0) [(0,some (rC ⟨r.at_,r.end_,4,r.at_⟩ n))]else .ret (.int .u64 0) [])else
 bif xl r k n then bif dec (((wA r k).toNat - (wB r k).toNat:Nat)=(((wA r k).toNat - (wB r k).toNat:Nat):Int)/\(0:Int)<=0/\(0:Int)<=(((wA r k).toNat - (wB r k).toNat:Nat):Int)/\(wA r k).toNat - (wB r k).toNat<=8/\0+(wB r k).toNat+((wA r k).toNat - (wB r k).toNat)<=es.length/\rj es/\(0:Int)=tkN es (0+(wB r k).toNat) (0:Int).toNat)then
  .ret (.int .u64 (tkN es (0+(wB r k).toNat) ((wA r k).toNat - (wB r k).toNat))) [(0,some (rC ⟨wA r k,r.end_,r.err,r.fat⟩ n))]else .fail else .fail:=by kernel_rfl
def Rd.few(r:Rd)(k:Nat):Bool:=decide ((k:Int) > r.end_ - r.at_)
def Rd.num(r:Rd)(es:List SV)(k:Nat):Int:=bif r.err !=0 then 0 else bif r.few k then 0 else tkN es r.at_.toNat k
def Rd.adv(r:Rd)(k:Nat):Rd:=⟨bif r.err !=0 then r.at_ else bif r.few k then r.at_ else r.at_+k,r.end_,bif r.err !=0 then r.err else bif r.few k then 4 else 0,bif r.err !=0 then r.fat else bif r.few k then r.at_ else r.fat⟩
structure OkRd (r:Rd) (es:List SV):Prop where
 a0:0<=r.at_
 a1:r.at_<=r.end_
 e1:r.end_<=es.length
 l:es.length<=1000000
 b:rj es
def rOf:HpL->Option (Rd × Nat × List SV)
 | [(0,.cells 157 [.int .i64 a,.int .i64 e,.qs 1 1 0 n,.int .i64 er,.int .i64 f,.bool true]),(1,.seq 5 es)]=>some (⟨a,e,er,f⟩,n,es)
 | _=>none
theorem nS{H:HpL}{r:Rd}{n:Nat}{es:List SV}(h:rOf H=some (r,n,es)):H=rH r n es:=by
 unfold rOf at h
 split at h
 . cases h;rfl
 . cases h
theorem OkRd.adv{r:Rd}{es:List SV}(h:OkRd r es)(k:Nat):OkRd (r.adv k) es:=by
 obtain⟨h0,h1,h2,h3,h4⟩:=h
 unfold Rd.adv Rd.few
 cases he:r.err !=0 with
 | true=>exact⟨h0,h1,h2,h3,h4⟩
 | false=>
  by_cases hk:(k:Int) > r.end_ - r.at_
  . rw[dT0 hk];exact⟨h0,h1,h2,h3,h4⟩
  . rw[dF0 hk];exact⟨by simp only[cF];omega,by simp only[cF];omega,h2,h3,h4⟩
theorem vp{r:Rd}{es:List SV}(h:OkRd r es){k:Nat}(hk:k<=1000000)(hs:r.few k=false):wA r k=r.at_+k/\wB r k=r.at_/\gf r k=false/\xl r k es.length=true:=by
 obtain⟨h0,h1,h2,h3,h4⟩:=h
 have hs':¬ (k:Int) > r.end_ - r.at_:=of_decide_eq_false hs
 have e1:wA r k=r.at_+k:=am (by omega) (by omega)
 have e2:wB r k=r.at_:=by unfold wB;rw[e1];exact(am (by omega) (by omega)).trans (by omega)
 refine⟨e1,e2,?_,?_⟩
 . unfold gf;rw[dF0 (by omega),am (by omega) (by omega),dF0 hs'];rfl
 . unfold xl;rw[e1,e2,dT0 h0,dT0 (by omega),dT0 (by omega)];rfl
theorem vq{r:Rd}{es:List SV}(h:OkRd r es){k:Nat}(hs:r.few k=true):gf r k=true:=by
 obtain⟨h0,h1,h2,h3,h4⟩:=h
 have hs':=of_decide_eq_true hs
 unfold gf;rw[am (by omega) (by omega),dF0 (by omega),dT0 hs'];rfl
theorem Ga{r r':Rd}{n:Nat}{es:List SV}(h:r'=r):∀ x,ad [(0,some (rC r' n))] (rH r n es).get x=ad [] (rH r n es).get x:=by
 subst h
 intro x
 cases x with
 | zero=>rfl
 | succ x=>rfl
noncomputable def fN:ag:=fun args H=>match args with
 | [.ptr 0 0,.int .i64 k]=>match rOf H with
  | some (r,n,es)=>.ite (dec (OkRd r es/\n=es.length/\0<=k/\k<=8)) (.ret (.int .u64 (r.num es k.toNat)) [(0,some (rC (r.adv k.toNat) n))]) .fail
  | none=>.fail
 | _=>.fail
theorem yJ   :Known Tryz.prog 69 fN   :=dq        (show Known Tryz.prog 69 HU    from⟨⟨Tryz.f69,Tryz.func69,bc       ap       Tryz.func69,rfl⟩,aZ          (aG       ap       ax     ok0 300 5) ax     (bf        AG        aE      ) Tryz.func69 Kp    ⟩) (by
 intro args H v ups h
 left
 unfold fN at h
 split at h
 . rename_i k
   split at h
   . rename_i r n es hr
     rw[aa]at h
     cases hc:dec (OkRd r es/\n=es.length/\0<=k/\k<=8)with
     | false=>rw[hc]at h;cases h
     | true=>
      rw[hc]at h
      obtain⟨ho,rfl,k0,k8⟩:=dec_iff.1 hc
      obtain⟨j,rfl⟩:=Int.eq_ofNat_of_zero_le k0
      rw[nS hr]
      have ht:=MD r es.length es j
      cases h
      rw[ht]
      show ∃ ups,_/\∀ x,ad [(0,some (rC (r.adv j) es.length))] _ x=_
      show ∃ ups,ae _=some (.int .u64 (r.num es j),ups)/\_
      unfold Rd.num Rd.adv
      cases he:r.err !=0 with
      | true=>exact⟨[],rfl,Ga (by simp)⟩
      | false=>
       have he0:r.err=0:=by simpa using he
       cases hs:r.few j with
       | true=>
        rw[vq ho hs,he0]
        exact⟨_,rfl,fun x=>rfl⟩
       | false=>
        obtain⟨e1,e2,e3,e4⟩:=vp ho (show j<=1000000 by omega) hs
        have hs':¬ (j:Int) > r.end_ - r.at_:=of_decide_eq_false hs
        have h1:=ho.a0;have h2:=ho.e1
        have hj:(r.at_+(j:Int)).toNat - r.at_.toNat=j:=by omega
        rw[e3,e4,e1,e2,hj,he0,Nat.zero_add,dec_iff.2 ⟨rfl,by omega,by omega,by omega,by omega,ho.b,rfl⟩]
        exact⟨_,rfl,fun x=>rfl⟩
   . cases h
 . cases h)
def wN(r:Rd)(k:Int):Nat:=(wA r k).toNat - (wB r k).toNat
noncomputable def ri(k:Nat):Bool:=decide (k<=9223372036854775807)&&decide (k * Tryz.prog.types[5].bytes<=140737488355328)
noncomputable def byK(r':Rd)(n:Nat)(xs:List SV):CTree:=bif ri (([]:List SV).length+xs.length)then .ret (.qs 2 1 0 (([]:List SV).length+xs.length)) [(0,some (rC r' n)),(2,some (.seq 5 ([]++xs)))]else .fail
theorem MN(r:Rd)(n:Nat)(es:List SV)(k:Int):opn (tbl []) Tryz.f126 [.ptr 0 0,.int .i64 k] (rH r n es)=
 bif r.err !=0 then .ret (.qs 2 1 0 0) [(2,some (.seq 5 []))]else bif gf r k then(bif r.err==0 then .ret (.qs 2 1 0 0) [(0,some (rC ⟨r.at_,r.end_,4,r.at_⟩ n)),(2,some (.seq 5 []))]else .ret (.qs 2 1 0 0) [(2,some (.seq 5 []))])else
 bif xl r k n then bif decide (0+(wB r k).toNat=0)&&decide (wN r k=es.length)then byK ⟨wA r k,r.end_,r.err,r.fat⟩ n es else
  bif decide (0+(wB r k).toNat+wN r k<=es.length)then byK ⟨wA r k,r.end_,r.err,r.fat⟩ n ((es.drop (0+(wB r k).toNat)).take (wN r k))else .fail else .fail:=by kernel_rfl
theorem Kl:Tryz.prog.types[5].bytes=1:=by kernel_rfl
theorem ju{k:Nat}(h:k<=1000000):ri k=true:=by
 unfold ri;rw[Kl,dT0 (by omega),dT0 (by omega)];rfl
def Rd.sub(r:Rd)(es:List SV)(k:Nat):List SV:=bif r.err !=0 then []else bif r.few k then []else(es.drop r.at_.toNat).take k
theorem zb(r:Rd)(es:List SV)(k:Nat):(r.sub es k).length<=k:=by
 unfold Rd.sub
 cases r.err !=0 with
 | true=>simp
 | false=>cases r.few k <;> simp <;> omega
noncomputable def rZ:ag:=fun args H=>match args with
 | [.ptr 0 0,.int .i64 k]=>match rOf H with
  | some (r,n,es)=>.ite (dec (OkRd r es/\n=es.length/\0<=k/\k<=1000000)) (.ret (.qs 2 1 0 (r.sub es k.toNat).length) [(0,some (rC (r.adv k.toNat) n)),(2,some (.seq 5 (r.sub es k.toNat)))]) .fail
  | none=>.fail
 | _=>.fail
theorem Dj{r r':Rd}{n:Nat}{es:List SV}{c:Chunk}(h:r'=r):∀ x,ad [(0,some (rC r' n)),(2,some c)] (rH r n es).get x=ad [(2,some c)] (rH r n es).get x:=by
 subst h
 intro x
 match x with
 | 0=>rfl
 | 1=>rfl
 | 2=>rfl
 | x+3=>rfl
theorem zd   :Known Tryz.prog 126 rZ   :=dq        (aj        ok0 Tryz.func126 rfl) (by
 intro args H v ups h
 left
 unfold rZ at h
 split at h
 . rename_i k
   split at h
   . rename_i r n es hr
     rw[aa]at h
     cases hc:dec (OkRd r es/\n=es.length/\0<=k/\k<=1000000)with
     | false=>rw[hc]at h;cases h
     | true=>
      rw[hc]at h
      obtain⟨ho,rfl,k0,k8⟩:=dec_iff.1 hc
      obtain⟨j,rfl⟩:=Int.eq_ofNat_of_zero_le k0
      rw[nS hr]
      have ht:=MN r es.length es j
      cases h
      rw[ht]
      show ∃ ups,ae _=some (.qs 2 1 0 (r.sub es j).length,ups)/\∀ x,ad [(0,some (rC (r.adv j) es.length)),(2,some (.seq 5 (r.sub es j)))] _ x=_
      unfold Rd.sub Rd.adv
      cases he:r.err !=0 with
      | true=>exact⟨_,rfl,Dj (by simp)⟩
      | false=>
       have he0:r.err=0:=by simpa using he
       cases hs:r.few j with
       | true=>
        rw[vq ho hs,he0]
        exact⟨_,rfl,fun x=>rfl⟩
       | false=>
        obtain⟨e1,e2,e3,e4⟩:=vp ho (show j<=1000000 by omega) hs
        have hs':¬ (j:Int) > r.end_ - r.at_:=of_decide_eq_false hs
        have h1:=ho.a0;have h2:=ho.e1;have h3:=ho.l
        have hn:wN r j=j:=by unfold wN;rw[e1,e2];omega
        rw[e3,e4,e1,e2,hn,he0,Nat.zero_add]
        simp only[cF,cT]
        have hl:((es.drop r.at_.toNat).take j).length=j:=by rw[List.length_take,List.length_drop];omega
        have hb:∀ xs:List SV,xs.length<=1000000->byK ⟨r.at_+j,r.end_,0,r.fat⟩ es.length xs= .ret (.qs 2 1 0 xs.length) [(0,some (rC ⟨r.at_+j,r.end_,0,r.fat⟩ es.length)),(2,some (.seq 5 xs))]:=by
         intro xs hx
         unfold byK
         rw[List.length_nil,Nat.zero_add,ju hx];rfl
        by_cases hd:r.at_.toNat=0/\j=es.length
        . have hes:(es.drop r.at_.toNat).take j=es:=by rw[hd.1,hd.2];simp
          rw[hes,dT0 hd.1,dT0 hd.2,hb es (by omega)]
          exact⟨_,rfl,fun x=>rfl⟩
        . have hf:(decide (r.at_.toNat=0)&&decide (j=es.length))=false:=by
            cases h5:decide (r.at_.toNat=0) <;> cases h6:decide (j=es.length) <;> simp_all
          rw[hf,cF,dT0 (by omega),cT,hb _ (by omega)]
          exact⟨_,rfl,fun x=>rfl⟩
   . cases h
 . cases h)
def idB(xs:List SV)(j:Nat):Int:=bif Nat.blt j xs.length then asI (xs.getD j .junk)else 0
def idV(xs:List SV):SV:=.agg [.int .u8 (idB xs 0),.int .u8 (idB xs 1),.int .u8 (idB xs 2),.int .u8 (idB xs 3),.int .u8 (idB xs 4),.int .u8 (idB xs 5),.int .u8 (idB xs 6),.int .u8 (idB xs 7),.int .u8 (idB xs 8),.int .u8 (idB xs 9)]
noncomputable abbrev κi:=tbl [(69,fN),(126,rZ)]
theorem iOk:KOk Tryz.prog κi:=ac yJ (ac zd ok0)
def idT(r':Rd)(n:Nat)(xs:List SV):CTree:=bif decide (xs.length<=((10:Nat):Int).toNat - (0:Int).toNat)then .ret (idV xs) [(0,some (rC r' n))]else .fail
theorem Ol(r:Rd)(n:Nat)(es:List SV):opn κi Tryz.f171 [.ptr 0 0] (rH r n es)=
 bif dec (OkRd r es/\n=es.length/\(0:Int)<=10/\(10:Int)<=1000000)then bif decide (0=0)&&decide ((r.sub es 10).length=(r.sub es 10).length)then idT (r.adv 10) n (r.sub es 10)
  else bif decide (0+(r.sub es 10).length<=(r.sub es 10).length)then idT (r.adv 10) n (((r.sub es 10).drop 0).take (r.sub es 10).length)else .fail else .fail:=by kernel_rfl
noncomputable def GO:ag:=fun args H=>match args with
 | [.ptr 0 0]=>match rOf H with
  | some (r,n,es)=>.ite (dec (OkRd r es/\n=es.length)) (.ret (idV (r.sub es 10)) [(0,some (rC (r.adv 10) n))]) .fail
  | none=>.fail
 | _=>.fail
theorem M2  :Known Tryz.prog 171 GO  :=(aj        iOk Tryz.func171 rfl).weak (by
 intro args H v ups h
 unfold GO at h
 split at h
 . split at h
   . rename_i r n es hr
     rw[aa]at h
     cases hc:dec (OkRd r es/\n=es.length)with
     | false=>rw[hc]at h;cases h
     | true=>
      rw[hc]at h
      obtain⟨ho,rfl⟩:=dec_iff.1 hc
      have hl:=zb r es 10
      have hm:((10:Nat):Int).toNat - (0:Int).toNat=10:=rfl
      rw[nS hr,Ol,dec_iff.2 ⟨ho,rfl,by omega,by omega⟩,dT0 rfl,dT0 rfl]
      simp only[Bool.and_self,cT]
      unfold idT
      rw[dT0 (by rw[hm];exact hl)]
      exact h
   . cases h
 . cases h)
def nC(n:Nl):Chunk:=.cells 88 [.int .i64 n.kind,.int .u64 n.rd,.int .u8 n.e0,.int .u8 n.e1,.int .u8 n.e2,.int .u8 n.e3,.int .u8 n.e4,.int .u8 n.e5,.int .u8 n.e6,.int .u8 n.e7,.int .u8 n.e8,.int .u8 n.e9,.int .u32 n.tag,.int .u64 n.mac,.int .u32 n.ip,.bool n.hip,.int .u32 n.pip,.int .i64 n.plen,.int .u32 n.gw,.int .u32 n.lab,.int .u32 n.lab2]
def gH(r:Rd)(m:Nat)(es:List SV)(n:Nl):HpL:=[(0,.cells 157 [.int .i64 r.at_,.int .i64 r.end_,.qs 1 1 0 m,.int .i64 r.err,.int .i64 r.fat,.bool true]),(1,.seq 5 es),(2,nC n)]
def gOf:HpL->Option (Rd × Nat × List SV × Nl)
 | [(0,.cells 157 [.int .i64 a,.int .i64 e,.qs 1 1 0 m,.int .i64 er,.int .i64 f,.bool true]),(1,.seq 5 es),(2,.cells 88 [.int .i64 kind,.int .u64 rd,.int .u8 e0,.int .u8 e1,.int .u8 e2,.int .u8 e3,.int .u8 e4,.int .u8 e5,.int .u8 e6,.int .u8 e7,.int .u8 e8,.int .u8 e9,.int .u32 tag,.int .u64 mac,.int .u32 ip,.bool hip,.int .u32 pip,.int .i64 plen,.int .u32 gw,.int .u32 lab,.int .u32 lab2])]=>some (⟨a,e,er,f⟩,m,es,⟨kind,rd,e0,e1,e2,e3,e4,e5,e6,e7,e8,e9,tag,mac,ip,hip,pip,plen,gw,lab,lab2⟩)
 | _=>none
theorem H5{H:HpL}{r:Rd}{m:Nat}{es:List SV}{n:Nl}(h:gOf H=some (r,m,es,n)):H=gH r m es n:=by
 unfold gOf at h
 split at h
 . cases h;rfl
 . cases h
abbrev w3(n:Int):Int:=IntKind.u32.wrap n
noncomputable def rdC(r:Rd)(m:Nat)(es:List SV)(k:Int)(K:CTree):CTree:=bif dec (OkRd r es/\m=es.length/\0<=k/\k<=8)then K else .fail
noncomputable abbrev κh:=tbl [(69,fN),(171,GO)]
theorem hOk:KOk Tryz.prog κh:=ac yJ (ac M2 ok0)
theorem KC(r:Rd)(m:Nat)(es:List SV)(n:Nl):opn κh Tryz.f176 [.ptr 0 0,.ptr 2 0] (gH r m es n)=
 rdC r m es 1 (bif r.num es 1==32 then rdC (r.adv 1) m es 4 (.ret (.tup []) [(2,some (nC {n with hip:=true,ip:=w3 ((r.adv 1).num es 4)})),(0,some (rC ((r.adv 1).adv 4) m))])else .ret (.tup []) [(0,some (rC (r.adv 1) m))]):=by kernel_rfl
def gI(es:List SV)(r:Rd)(n:Nl):Nl:={n with hip:=bif r.num es 1==32 then true else n.hip,ip:=bif r.num es 1==32 then w3 ((r.adv 1).num es 4)else n.ip}
def de(es:List SV)(r:Rd):Rd:=bif r.num es 1==32 then(r.adv 1).adv 4 else r.adv 1
theorem D0{r:Rd}{es:List SV}(h:OkRd r es):OkRd (de es r) es:=by
 unfold de
 cases r.num es 1==32
 . exact h.adv 1
 . exact(h.adv 1).adv 4
theorem GP{r:Rd}{m:Nat}{es:List SV}{n n':Nl}{c:Chunk}(h:n'=n):∀ x,ad [(2,some (nC n')),(0,some c)] (gH r m es n).get x=ad [(0,some c)] (gH r m es n).get x:=by
 subst h
 intro x
 match x with
 | 0=>rfl
 | 1=>rfl
 | 2=>rfl
 | x+3=>rfl
noncomputable def xK:ag:=fun args H=>match args with
 | [.ptr 0 0,.ptr 2 0]=>match gOf H with
  | some (r,m,es,n)=>.ite (dec (OkRd r es/\m=es.length)) (.ret (.tup []) [(2,some (nC (gI es r n))),(0,some (rC (de es r) m))]) .fail
  | none=>.fail
 | _=>.fail
theorem cD{r:Rd}{m:Nat}{es:List SV}{k:Int}{K:CTree}(h:OkRd r es)(hm:m=es.length)(h0:0<=k)(h1:k<=8):rdC r m es k K=K:=by
 unfold rdC;rw[dec_iff.2 ⟨h,hm,h0,h1⟩];rfl
theorem KD    :Known Tryz.prog 176 xK    :=dq        (aj        hOk Tryz.func176 rfl) (by
 intro args H v ups h
 left
 unfold xK at h
 split at h
 . split at h
   . rename_i r m es n hr
     rw[aa]at h
     cases hc:dec (OkRd r es/\m=es.length)with
     | false=>rw[hc]at h;cases h
     | true=>
      rw[hc]at h
      obtain⟨ho,rfl⟩:=dec_iff.1 hc
      rw[H5 hr,KC,cD ho rfl (by omega) (by omega)]
      cases h
      unfold gI de
      cases r.num es 1==32 with
      | true=>rw[cT,cD (ho.adv 1) rfl (by omega) (by omega)];exact⟨_,rfl,fun x=>rfl⟩
      | false=>exact⟨_,rfl,GP rfl⟩
   . cases h
 . cases h)
noncomputable abbrev κg:=tbl [(69,fN),(171,GO),(176,xK)]
theorem gOk:KOk Tryz.prog κg:=ac yJ (ac M2 (ac KD ok0))
noncomputable def idC(r:Rd)(m:Nat)(es:List SV)(K:CTree):CTree:=bif dec (OkRd r es/\m=es.length)then K else .fail
theorem kX{r:Rd}{m:Nat}{es:List SV}{K:CTree}(h:OkRd r es)(hm:m=es.length):idC r m es K=K:=by
 unfold idC;rw[dec_iff.2 ⟨h,hm⟩];rfl
def ids(xs:List SV)(n:Nl):Nl:={n with e0:=idB xs 0,e1:=idB xs 1,e2:=idB xs 2,e3:=idB xs 3,e4:=idB xs 4,e5:=idB xs 5,e6:=idB xs 6,e7:=idB xs 7,e8:=idB xs 8,e9:=idB xs 9}
def wi(n:Nl)(r:Rd)(m:Nat):CTree:=.ret (.tup []) [(2,some (nC n)),(0,some (rC r m))]
def gA:List SV:=[.agg [],.ptr 0 0,.ptr 2 0]
/- What each kind's value is read as. -/
def g1N(es:List SV)(r:Rd)(n:Nl):Nl:={(ids ((r.adv 8).sub es 10) n)with rd:=r.num es 8,tag:=w3 (((r.adv 8).adv 10).num es 4),lab:=w3 ((((r.adv 8).adv 10).adv 4).num es 3)}
def g1R(r:Rd):Rd:=(((r.adv 8).adv 10).adv 4).adv 3
theorem KE(r:Rd)(m:Nat)(es:List SV)(n:Nl):opn κg Tryz.f168 gA (gH r m es n)=
 rdC r m es 8 (idC (r.adv 8) m es (rdC ((r.adv 8).adv 10) m es 4 (rdC (((r.adv 8).adv 10).adv 4) m es 3 (wi (g1N es r n) (g1R r) m)))):=by kernel_rfl
def g3N(es:List SV)(r:Rd)(n:Nl):Nl:=gI es ((r.adv 8).adv 4) {n with rd:=r.num es 8,tag:=w3 ((r.adv 8).num es 4)}
def g3R(es:List SV)(r:Rd):Rd:=de es ((r.adv 8).adv 4)
theorem KF(r:Rd)(m:Nat)(es:List SV)(n:Nl):opn κg Tryz.f179 gA (gH r m es n)=
 rdC r m es 8 (rdC (r.adv 8) m es 4 (idC ((r.adv 8).adv 4) m es (wi (g3N es r n) (g3R es r) m))):=by kernel_rfl
def g4N(es:List SV)(r:Rd)(n:Nl):Nl:=gI es ((r.adv 8).adv 10) {(ids ((r.adv 8).sub es 10) n)with rd:=r.num es 8}
def g4R(es:List SV)(r:Rd):Rd:=de es ((r.adv 8).adv 10)
theorem KG(r:Rd)(m:Nat)(es:List SV)(n:Nl):opn κg Tryz.f181 gA (gH r m es n)=
 rdC r m es 8 (idC (r.adv 8) m es (idC ((r.adv 8).adv 10) m es (wi (g4N es r n) (g4R es r) m))):=by kernel_rfl
def g5r(r:Rd):Rd:=((r.adv 8).adv 10).adv 4
def g5N(es:List SV)(r:Rd)(n:Nl):Nl:={(ids ((r.adv 8).sub es 10) n)with rd:=r.num es 8,tag:=w3 (((r.adv 8).adv 10).num es 4),plen:=IntKind.i64.wrap ((g5r r).num es 1),pip:=w3 (((g5r r).adv 1).num es 4),gw:=w3 ((((g5r r).adv 1).adv 4).num es 4),lab:=w3 (((((g5r r).adv 1).adv 4).adv 4).num es 3)}
def g5R(r:Rd):Rd:=((((g5r r).adv 1).adv 4).adv 4).adv 3
theorem KH(r:Rd)(m:Nat)(es:List SV)(n:Nl):opn κg Tryz.f183 gA (gH r m es n)=
 rdC r m es 8 (idC (r.adv 8) m es (rdC ((r.adv 8).adv 10) m es 4 (rdC (g5r r) m es 1 (rdC ((g5r r).adv 1) m es 4 (rdC (((g5r r).adv 1).adv 4) m es 4 (rdC ((((g5r r).adv 1).adv 4).adv 4) m es 3 (wi (g5N es r n) (g5R r) m))))))):=by kernel_rfl
def g2r(es:List SV)(r:Rd):Rd:=de es ((((((r.adv 8).adv 10).adv 4).adv 1).adv 6))
def g2n(es:List SV)(r:Rd)(n:Nl):Nl:=gI es ((((((r.adv 8).adv 10).adv 4).adv 1).adv 6)) {(ids ((r.adv 8).sub es 10) n)with rd:=r.num es 8,tag:=w3 (((r.adv 8).adv 10).num es 4),mac:=((((r.adv 8).adv 10).adv 4).adv 1).num es 6}
def left(r:Rd):Int:=IntKind.i64.wrap (r.end_ - r.at_)
theorem KI(r:Rd)(m:Nat)(es:List SV)(n:Nl):opn κg Tryz.f173 gA (gH r m es n)=
 rdC r m es 8 (idC (r.adv 8) m es (rdC ((r.adv 8).adv 10) m es 4 (rdC (((r.adv 8).adv 10).adv 4) m es 1 (rdC ((((r.adv 8).adv 10).adv 4).adv 1) m es 6 (idC (((((r.adv 8).adv 10).adv 4).adv 1).adv 6) m es (rdC (g2r es r) m es 3
  (bif decide (left ((g2r es r).adv 3) > 0)then rdC ((g2r es r).adv 3) m es 3 (wi {(g2n es r n)with lab:=w3 ((g2r es r).num es 3),lab2:=w3 (((g2r es r).adv 3).num es 3)} (((g2r es r).adv 3).adv 3) m)
   else wi {(g2n es r n)with lab:=w3 ((g2r es r).num es 3)} ((g2r es r).adv 3) m))))))):=by kernel_rfl
def g2N(es:List SV)(r:Rd)(n:Nl):Nl:={(g2n es r n)with lab:=w3 ((g2r es r).num es 3),lab2:=bif decide (left ((g2r es r).adv 3) > 0)then w3 (((g2r es r).adv 3).num es 3)else(g2n es r n).lab2}
def g2R(es:List SV)(r:Rd):Rd:=bif decide (left ((g2r es r).adv 3) > 0)then((g2r es r).adv 3).adv 3 else(g2r es r).adv 3
noncomputable def iY(N:List SV->Rd->Nl->Nl)(R:List SV->Rd->Rd):ag:=fun args H=>match args with
 | [.agg [],.ptr 0 0,.ptr 2 0]=>match gOf H with
  | some (r,m,es,n)=>.ite (dec (OkRd r es/\m=es.length)) (wi (N es r n) (R es r) m) .fail
  | none=>.fail
 | _=>.fail
theorem qq    {f:Nat}{fn:Func}(hf:Tryz.prog.funcs[f]? =some fn)(hb:fn.body.isNone=false){N:List SV->Rd->Nl->Nl}{R:List SV->Rd->Rd}
  (h:∀ (r:Rd) (es:List SV) (n:Nl),OkRd r es->opn κg fn gA (gH r es.length es n)=wi (N es r n) (R es r) es.length):Known Tryz.prog f (iY N R):=(aj gOk hf hb).weak (by
 intro args H v ups hr
 unfold iY at hr
 split at hr
 . split at hr
   . rename_i r m es n hg
     rw[aa]at hr
     cases hc:dec (OkRd r es/\m=es.length)with
     | false=>rw[hc]at hr;cases hr
     | true=>
      rw[hc]at hr
      obtain⟨ho,rfl⟩:=dec_iff.1 hc
      rw[H5 hg]
      exact(congrArg ae (h r es n ho)).trans hr
   . cases hr
 . cases hr)
theorem KJ:Known Tryz.prog 168 (iY g1N (fun _ r=>g1R r)):=qq Tryz.func168 rfl (fun r es n h=>by
 rw[KE,cD h rfl (by omega) (by omega),kX (h.adv _) rfl,cD ((h.adv _).adv _) rfl (by omega) (by omega),cD (((h.adv _).adv _).adv _) rfl (by omega) (by omega)])
theorem KK:Known Tryz.prog 179 (iY g3N g3R):=qq Tryz.func179 rfl (fun r es n h=>by
 rw[KF,cD h rfl (by omega) (by omega),cD (h.adv _) rfl (by omega) (by omega),kX ((h.adv _).adv _) rfl])
theorem KL:Known Tryz.prog 181 (iY g4N g4R):=qq Tryz.func181 rfl (fun r es n h=>by
 rw[KG,cD h rfl (by omega) (by omega),kX (h.adv _) rfl,kX ((h.adv _).adv _) rfl])
theorem KM:Known Tryz.prog 183 (iY g5N (fun _ r=>g5R r)):=qq Tryz.func183 rfl (fun r es n h=>by
 have h5:OkRd (g5r r) es:=((h.adv _).adv _).adv _
 rw[KH,cD h rfl (by omega) (by omega),kX (h.adv _) rfl,cD ((h.adv _).adv _) rfl (by omega) (by omega),cD h5 rfl (by omega) (by omega),cD (h5.adv _) rfl (by omega) (by omega),cD ((h5.adv _).adv _) rfl (by omega) (by omega),cD (((h5.adv _).adv _).adv _) rfl (by omega) (by omega)])
theorem KN:Known Tryz.prog 173 (iY g2N g2R):=qq Tryz.func173 rfl (fun r es n h=>by
 have h6:OkRd (((((r.adv 8).adv 10).adv 4).adv 1).adv 6) es:=((((h.adv _).adv _).adv _).adv _).adv _
 have h7:OkRd (g2r es r) es:=D0 h6
 rw[KI,cD h rfl (by omega) (by omega),kX (h.adv _) rfl,cD ((h.adv _).adv _) rfl (by omega) (by omega),cD (((h.adv _).adv _).adv _) rfl (by omega) (by omega),cD ((((h.adv _).adv _).adv _).adv _) rfl (by omega) (by omega),kX h6 rfl,cD h7 rfl (by omega) (by omega)]
 unfold g2N g2R
 cases decide (left ((g2r es r).adv 3) > 0)with
 | true=>rw[cT,cD (h7.adv _) rfl (by omega) (by omega)];rfl
 | false=>rfl)
end Go.Proofs.YtnlmhpancboddaaGreat
