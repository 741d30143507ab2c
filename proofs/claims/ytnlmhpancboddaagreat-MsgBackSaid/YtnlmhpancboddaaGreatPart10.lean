/- Attributes are read: announced routes, known. -/
import Derived.Test.YtnlmhpancboddaaGreatPart9
set_option linter.unusedVariables false
set_option linter.unusedSimpArgs false
namespace Go.Proofs.YtnlmhpancboddaaGreat
open Go.Am
set_option maxRecDepth 100000
noncomputable def tN(v:List SV):Bool:=bif decide (9<=v.length)then(bif tkN v 0 3==6470 then(bif dg v 3==4 then(bif dg v 8==0 then(bif rdE (v.drop 9)==0 then decide (((rdL (v.drop 9)).length:Int) > 0)else false)else false)else false)else false)else false
noncomputable def rcG(v:List SV)(d:Ds):Ds:={d with nx:=tkN v 4 4,rch:=rdL (v.drop 9)}
theorem Hb{r:Rd}{es:List SV}(h:(r.err !=0)=true):roC r es=false:=by
 unfold roC
 rw[sY h]
 have:(r.err==0)=false:=by simpa using h
 rw[this]
 cases rdE (ii r es)==0 <;> rfl
theorem Nk   :Known Tryz.prog 120 (lM   (fun _ _ _=>true) tN   rcG id id id):=rI    (aj        qOk Tryz.func120 rfl) (by
 intro s t n es off fl cd pb cb mb d ho _
 have ht:=Ml (RD s t) n es off fl cd pb cb mb d
 have hl:=ho.len
 have hr:=ho.rd
 obtain⟨h1,h2,h3,h4,h5⟩:=ho
 have hv:byl (vl es s t):=h1.sl _ _
 rw[eU hr h2,eU (hr.adv 3) h2,eU ((hr.adv 3).adv 1) h2,eU (((hr.adv 3).adv 1).adv 4) h2,By ((((hr.adv 3).adv 1).adv 4).adv 1) h2 h1 (.inl rfl)]at ht
 by_cases h9:s+9<=t
 . have a1:(RD s t).adv 3=RD (s+3) t:=ez    (s:=s) 0 3 (by omega)
   have a2:(RD (s+3) t).adv 1=RD (s+4) t:=ez 3 1 (by omega)
   have a3:(RD (s+4) t).adv 4=RD (s+8) t:=ez 4 4 (by omega)
   have a4:(RD (s+8) t).adv 1=RD (s+9) t:=ez 8 1 (by omega)
   have m0:(RD s t).num es 3=tkN (vl es s t) 0 3:=iV (n:=n) (s:=s) 0 3 (by omega)
   have m1:(RD (s+3) t).num es 1=dg (vl es s t) 3:=by rw[<- tk1];exact iV (n:=n) 3 1 (by omega)
   have m2:(RD (s+4) t).num es 4=tkN (vl es s t) 4 4:=iV (n:=n) 4 4 (by omega)
   have m3:(RD (s+8) t).num es 1=dg (vl es s t) 8:=by rw[<- tk1];exact iV (n:=n) 8 1 (by omega)
   obtain⟨q5,q6⟩:=bT hv.ok 4 4
   have hok:tN (vl es s t)=(bif tkN (vl es s t) 0 3==6470 then(bif dg (vl es s t) 3==4 then(bif dg (vl es s t) 8==0 then(bif rdE ((vl es s t).drop 9)==0 then decide (((rdL ((vl es s t).drop 9)).length:Int) > 0)else false)else false)else false)else false):=by
    unfold tN;rw[hl,dT0 (show 9<=t - s by omega)];rfl
   rw[a1,a2,a3,a4,m0,m1,m2,m3,Hv h9 (by omega),Bx h9 (by omega)]at ht
   rw[hok]
   cases hf:tkN (vl es s t) 0 3==6470 with
   | false=>
    rw[show(tkN (vl es s t) 0 3 !=6470)=true by unfold bne;rw[hf];rfl]at ht
    exact⟨_,_,congrArg ae ht,.inr (fG (d':=d) (.inl rfl))⟩
   | true=>
    rw[show(tkN (vl es s t) 0 3 !=6470)=false by unfold bne;rw[hf];rfl,cF]at ht
    rw[cT]
    cases hg:dg (vl es s t) 3==4 with
    | false=>
     rw[show(dg (vl es s t) 3 !=4)=true by unfold bne;rw[hg];rfl]at ht
     exact⟨_,_,congrArg ae ht,.inr (fG (d':=d) (.inl rfl))⟩
    | true=>
     rw[show(dg (vl es s t) 3 !=4)=false by unfold bne;rw[hg];rfl,cF]at ht
     rw[cT]
     cases hh:dg (vl es s t) 8==0 with
     | false=>
      rw[hh]at ht
      exact⟨_,_,congrArg ae ht,.inr (fG (.inr rfl))⟩
     | true=>
      rw[hh,cT]at ht
      rw[cT]
      cases hk:rdE ((vl es s t).drop 9)==0 with
      | false=>
       rw[hk]at ht
       exact⟨_,_,congrArg ae ht,.inr (fG (.inr rfl))⟩
      | true=>
       rw[hk,cT]at ht
       rw[cT]
       have hd:dO 15 ((vl es s t).drop 9) (dNx d (tkN (vl es s t) 4 4))=rcG (vl es s t) d:=by
        unfold dO dNx rcG
        rw[bS q5 q6];rfl
       rw[hd]at ht
       refine⟨_,_,congrArg ae ht,.inr ?_⟩
       show Am.Told _ _ (.bool (decide (((rdL ((vl es s t).drop 9)).length:Int) > 0))) _ _ _
       cases decide (((rdL ((vl es s t).drop 9)).length:Int) > 0)with
       | false=>exact fG (.inr rfl)
       | true=>exact Bz
 . have hok:tN   (vl es s t)=false:=by unfold tN  ;rw[hl,dF0             (show ¬ 9<=t - s by omega)];rfl
   rw[hok]
   have hbad:(((((((RD s t).adv 3).adv 1).adv 4).adv 1)).err !=0)=true:=by
    by_cases c1:s+3<=t
    . have a1:(RD s t).adv 3=RD (s+3) t:=ez (s:=s) 0 3 (by omega)
      rw[a1]
      by_cases c2:s+4<=t
      . rw[ez (s:=s) (t:=t) 3 1 (by omega)]
        by_cases c3:s+8<=t
        . rw[ez (s:=s) (t:=t) (3+1) 4 (by omega)];exact fS (by omega)
        . exact dp (fS (by omega)) _
      . exact dp (dp (fS (by omega)) _) _
    . exact dp (dp (dp (fS c1) _) _) _
   rw[Hb hbad]at ht
   cases hf:((RD s t).num es 3 !=6470)with
   | true=>rw[hf]at ht;exact⟨_,_,congrArg ae ht,.inr (fG (d':=d) (.inl rfl))⟩
   | false=>
    rw[hf,cF]at ht
    cases hg:(((RD s t).adv 3).num es 1 !=4)with
    | true=>rw[hg]at ht;exact⟨_,_,congrArg ae ht,.inr (fG (d':=d) (.inl rfl))⟩
    | false=>
     rw[hg,cF]at ht
     cases hh:((((RD s t).adv 3).adv 1).adv 4).num es 1==0 with
     | true=>rw[hh]at ht;exact⟨_,_,congrArg ae ht,.inr (fG (.inr rfl))⟩
     | false=>rw[hh]at ht;exact⟨_,_,congrArg ae ht,.inr (fG (.inr rfl))⟩)
def rCk(k:Nat)(r:Rd)(n:Nat):Chunk:=.cells 157 [.int .i64 r.at_,.int .i64 r.end_,.qs k 1 0 n,.int .i64 r.err,.int .i64 r.fat,.bool true]
def dLx(p c m:SV)(d:Ds):Chunk:=.cells 177 [.int .i64 d.ori,p,.int .u32 d.nx,.bool d.hm,.int .u32 d.med,.bool d.hp,.int .u32 d.prf,.bool d.ho,.int .u32 d.orr,c,m,.int .i64 d.tk,.int .u32 d.tl,.int .u32 d.tr,.int .u32 d.tg,.psl 88 d.rch,.psl 88 d.unr]
structure Ax where
 (off fl cd:Int)
def aC(k:Nat)(x:Ax):Chunk:=.cells 182 [.ptr k 0,.int .i64 x.off,.int .u8 x.fl,.int .u8 x.cd]
def wd(es:List SV)(a:Nat):Nat->List SV
 | 0=>[]
 | k+1=>.int .u32 (tkN es a 4) :: wd es (a+4) k
theorem xd(es:List SV):∀ (k a:Nat),(wd es a k).length=k
 | 0,_=>rfl
 | k+1,a=>by simp[wd,xd es k (a+4)]
def cw(es:List SV)(a:Nat):Nat->List SV
 | 0=>[]
 | k+1=>.agg (gK (sl es a 8) 0 8) :: cw es (a+8) k
theorem Cy(es:List SV):∀ (k a:Nat),(cw es a k).length=k
 | 0,_=>rfl
 | k+1,a=>by simp[cw,Cy es k (a+8)]
def Jz:SV->Bool
 | .psl _ _=>false
 | _=>true
def dQ:List SV->Option (Bool × Bool × Bool × Ds)
 | [.int .i64 ori,p,.int .u32 nx,.bool hm,.int .u32 med,.bool hp,.int .u32 prf,.bool ho,.int .u32 orr,c,m,.int .i64 tk,.int .u32 tl,.int .u32 tr,.int .u32 tg,.psl 88 rch,.psl 88 unr]=>
  some (Jz p,Jz c,Jz m,⟨ori,nx,med,prf,orr,tk,tl,tr,tg,hm,hp,ho,asL p,asL c,asL m,rch,unr⟩)
 | _=>none
def pOk(z s t n:Nat)(es:List SV)(m i:Int):Prop:=okV es n s t/\0<=i/\i<=m/\m<=1000/\s+z * (m - i).toNat<=t
theorem Mm(r:Rd)(n:Nat)(es rs:List SV)(c:Chunk):pp Tryz.prog (rH r n es) (.qs 2 1 0 rs.length) [(0,some c),(2,some (.seq 5 rs))] (.psl 5 rs) [(0,some c)]:=by
 refine⟨2,5,rs,rfl,.qs rfl,fun x c' hx=> ?_⟩
 by_cases h0:x=0
 . subst h0;simp only[ad,if_true]at hx;cases hx;exact⟨by decide,_,rfl,.rfl'⟩
 . simp only[ad,h0,if_false]at hx
   have h2:x≠2:=by rintro rfl;cases hx
   exact⟨h2,c',by simp only[ad,h0,h2,if_false];exact hx,.rfl'⟩
noncomputable def yC:ag:=fun args H=>match args with
 | [.ptr 0 0,.int .i64 k]=>match rOf H with
  | some (r,n,es)=>.ite (dec (OkRd r es/\n=es.length/\0<=k/\k<=1000000)) (.ret (.psl 5 (r.sub es k.toNat)) [(0,some (rC (r.adv k.toNat) n))]) .fail
  | none=>.fail
 | _=>.fail
theorem HC   :Known Tryz.prog 126 yC   :=Ad        zd    (by
 intro args H v ups h
 unfold yC at h
 split at h
 . rename_i k
   split at h
   . rename_i r n es hr
     rw[aa]at h
     cases hc:dec (OkRd r es/\n=es.length/\0<=k/\k<=1000000)with
     | false=>rw[hc]at h;cases h
     | true=>
      rw[hc,cT]at h
      cases h
      refine .inr ⟨.qs 2 1 0 (r.sub es k.toNat).length,[(0,some (rC (r.adv k.toNat) n)),(2,some (.seq 5 (r.sub es k.toNat)))],?_,?_⟩
      . unfold rZ
        simp only[hr]
        rw[aa,hc];rfl
      . rw[nS hr];exact Mm ..
   . cases h
 . cases h)
noncomputable abbrev κpt:=tbl [(70,fx 4),(126,yC)]
theorem Cz:KOk Tryz.prog κpt:=ac rY (ac HC ok0)
noncomputable abbrev κy:=bt Tryz.prog κpt 300 5
noncomputable abbrev ιy:Nat->Bool:=fun g=>inl κpt g&&bJ Tryz.prog g
/- The path. -/
noncomputable def CA:Code:=Tryz.f114.body.getD .skip
noncomputable def c54:Code:=(bx 8 CA).getD .skip
def pA(r:Rd)(n:Nat)(es:List SV)(x:Ax)(cb mb:Bool)(d:Ds):HpL:=[(0,dLx .nils (nz cb 37 d.cl) (nz mb 136 d.cm) d),(1,aC 2 x),(2,rCk 3 r n),(3,.seq 5 es)]
def pB(r:Rd)(n:Nat)(es:List SV)(x:Ax)(cb mb:Bool)(d:Ds)(j:Nat)(l:List SV):HpL:=[(0,dLx (.qs 1 1 0 j) (nz cb 37 d.cl) (nz mb 136 d.cm) d),(1,.seq 36 l),(2,aC 3 x),(3,rCk 4 r n),(4,.seq 5 es)]
noncomputable def FY:ag:=fun args H=>match args,H with
 | [.ptr 0 0,.ptr 1 0,.int .i64 m,.int .i64 i],[(0,.cells 177 cs),(1,.cells 182 [_,.int .i64 off,.int .u8 fl,.int .u8 cd]),(2,.cells 157 [.int .i64 a,.int .i64 e,.qs 3 1 0 n,_,_,_]),(3,.seq 5 es)]=>
  match dQ cs with
  | some (_,c,k,d)=>.ite (dec (H=pA (RD a.toNat e.toNat) n es ⟨off,fl,cd⟩ c k d/\pOk 4 a.toNat e.toNat n es m i/\i < m))
    (.ret (.tup [.int .i64 2]) [(0,some (dLx (.qs 4 1 0 (m - i).toNat) (nz c 37 d.cl) (nz k 136 d.cm) d)),(2,some (rCk 3 (RD (a.toNat+4 * (m - i).toNat) e.toNat) n)),(4,some (.seq 36 (wd es a.toNat (m - i).toNat)))]) .fail
  | none=>.fail
 | [.ptr 0 0,.ptr 2 0,.int .i64 m,.int .i64 i],[(0,.cells 177 cs),(1,.seq 36 l),(2,.cells 182 [_,.int .i64 off,.int .u8 fl,.int .u8 cd]),(3,.cells 157 [.int .i64 a,.int .i64 e,.qs 4 1 0 n,_,_,_]),(4,.seq 5 es)]=>
  match dQ cs with
  | some (_,c,k,d)=>.ite (dec (H=pB (RD a.toNat e.toNat) n es ⟨off,fl,cd⟩ c k d l.length l/\pOk 4 a.toNat e.toNat n es m i/\l.length+(m - i).toNat<=2000))
    (.ret (.tup [.int .i64 2]) [(0,some (dLx (.qs 5 1 0 (l.length+(m - i).toNat)) (nz c 37 d.cl) (nz k 136 d.cm) d)),(1,none),(3,some (rCk 4 (RD (a.toNat+4 * (m - i).toNat) e.toNat) n)),(5,some (.seq 36 (l++wd es a.toNat (m - i).toNat)))]) .fail
  | none=>.fail
 | _,_=>.fail
def ptM:List SV->HpL->Nat
 | [_,_,.int _ m,.int _ i],_=>(m - i).toNat
 | _,_=>0
noncomputable def e54:LEnt:={ins:=[0,3,36,37],outs:=[],keep:=[],size:=55,code:=c54,s:=FY}
noncomputable def pNx(N q:Nat)(r:Rd)(n:Nat)(es:List SV)(x:Ax)(cb mb:Bool)(d:Ds)(m i:Int)(j:Nat)(l:List SV)(K:Chunk->Rd->List SV->CTree):CTree:=
 bif Nat.blt (m - i).toNat N then bif dec (pB r n es x cb mb d j l=pB (RD r.at_.toNat r.end_.toNat) n es x cb mb d l.length l/\pOk 4 r.at_.toNat r.end_.toNat n es m i/\l.length+(m - i).toNat<=2000)then
  K (dLx (.qs q 1 0 (l.length+(m - i).toNat)) (nz cb 37 d.cl) (nz mb 136 d.cm) d) (RD (r.at_.toNat+4 * (m - i).toNat) r.end_.toNat) (l++wd es r.at_.toNat (m - i).toNat)
 else .fail else .fail
theorem Ot(N:Nat)(r:Rd)(n:Nat)(es:List SV)(x:Ax)(cb mb:Bool)(d:Ds)(m i:Int):ay Tryz.prog κy ιy (aL []) true 300 e54 {e54 with s:=az ptM FY N} c54 [.ptr 0 0,.ptr 1 0,.int .i64 m,.int .i64 i] (pA r n es x cb mb d)=
 bif decide (i < m)then bif dec (OkRd r es/\n=es.length)then pNx N 4 (r.adv 4) n es x cb mb d m (IntKind.i64.wrap (i+1)) 1 [.int .u32 (w3 (r.num es 4))] (fun c r' l'=>.ret (.tup [.int .i64 2]) [(0,some c),(2,some (rCk 3 r' n)),(4,some (.seq 36 l'))])
 else .fail else .ret (.tup [.int .i64 2]) []:=by cases cb <;> cases mb <;> kernel_rfl
theorem Ou(N:Nat)(r:Rd)(n:Nat)(es:List SV)(x:Ax)(cb mb:Bool)(d:Ds)(m i:Int)(j:Nat)(l:List SV):ay Tryz.prog κy ιy (aL []) true 300 e54 {e54 with s:=az ptM FY N} c54 [.ptr 0 0,.ptr 2 0,.int .i64 m,.int .i64 i] (pB r n es x cb mb d j l)=
 bif decide (i < m)then bif dec (OkRd r es/\n=es.length)then bif decide (j=l.length)then bif decide (l.length+1<=9223372036854775807)&&decide ((l.length+1) * 4<=140737488355328)then pNx N 5 (r.adv 4) n es x cb mb d m (IntKind.i64.wrap (i+1)) (l.length+1) (l++[.int .u32 (w3 (r.num es 4))]) (fun c r' l'=>.ret (.tup [.int .i64 2]) [(0,some c),(1,none),(3,some (rCk 4 r' n)),(5,some (.seq 36 l'))])
 else .fail else .fail else .fail else .ret (.tup [.int .i64 2]) []:=by cases cb <;> cases mb <;> kernel_rfl
theorem Nm{r:Rd}{n:Nat}{es:List SV}{x:Ax}{cb mb:Bool}{d:Ds}{j:Nat}{l:List SV}:∀ y c,(pB r n es x cb mb d j l).get y=some c->5 ∉ aJ c:=by
 intro y c hx
 have:=aU _ _ _ hx
 simp only[pB,List.mem_cons,pJ,List.not_mem_nil,or_false]at this
 rcases this with ⟨_,rfl⟩ | ⟨_,rfl⟩ | ⟨_,rfl⟩ | ⟨_,rfl⟩ | ⟨_,rfl⟩ <;> cases cb <;> cases mb <;> simp[aJ,aF,ak,dLx,aC,rCk,nz]
theorem Lb{r:Rd}{n:Nat}{es:List SV}{x:Ax}{cb mb:Bool}{d:Ds}{j:Nat}{l:List SV}:cg (pB r n es x cb mb d j l) (.tup [.int .i64 2]) [] (.tup [.int .i64 2]) [(0,some (dLx (.qs 5 1 0 j) (nz cb 37 d.cl) (nz mb 136 d.cm) d)),(1,none),(3,some (rCk 4 r n)),(5,some (.seq 36 l))]:=by
 refine⟨1,5,by simp[pB],by simp[ak,aF],Nm,rfl,fun y=> ?_⟩
 match y with
 | 0=>cases cb <;> cases mb <;> rfl
 | 1=>rfl
 | 2=>rfl
 | 3=>rfl
 | 4=>rfl
 | 5=>rfl
 | y+6=>
  have h2:∀ k,k < 6->Nat.beq k (y+6)=false:=fun k hk=>b8 (by omega)
  have h1:∀ k,k < 6->¬ (y+6=k):=fun k hk=>by omega
  simp only[ad,pB,HpL.get,h1 5 (by omega),h1 3 (by omega),h1 1 (by omega),h1 0 (by omega),if_false,h2 0 (by omega),h2 1 (by omega),h2 2 (by omega),h2 3 (by omega),h2 4 (by omega),cF,Option.map_none]
theorem tO{es:List SV}{s j:Nat}(h:0 < j):wd es s j= .int .u32 (tkN es s 4) :: wd es (s+4) (j - 1):=by
 obtain⟨k,rfl⟩:∃ k,j=k+1:=⟨j - 1,by omega⟩
 rfl
theorem Ez{N q s t n:Nat}{es:List SV}{x:Ax}{cb mb:Bool}{d:Ds}{m i:Int}{j:Nat}{l:List SV}(hN:(m - i).toNat < N)(hj:j=l.length)(hl:l.length+(m - i).toNat<=2000)(h:pOk 4 s t n es m i)(K:Chunk->Rd->List SV->CTree):
  pNx N q (RD s t) n es x cb mb d m i j l K=K (dLx (.qs q 1 0 (l.length+(m - i).toNat)) (nz cb 37 d.cl) (nz mb 136 d.cm) d) (RD (s+4 * (m - i).toNat) t) (l++wd es s (m - i).toNat):=by
 unfold pNx
 rw[show Nat.blt (m - i).toNat N=true by rw[bL];exact hN,dec_iff.2 ⟨by subst hj;rfl,by simpa [RD]using h,hl⟩]
 rfl
theorem pOk.next{s t n:Nat}{es:List SV}{m i:Int}{z:Nat}(h:pOk z s t n es m i)(hlt:i < m):pOk z (s+z) t n es m (i+1)/\s+z<=t/\(m - i).toNat=(m - (i+1)).toNat+1:=by
 obtain⟨⟨h1,h2,h3,h4,h5⟩,h6,h7,h8,h9⟩:=h
 have e:(m - i).toNat=(m - (i+1)).toNat+1:=by omega
 rw[e,Nat.mul_succ]at h9
 exact⟨⟨⟨h1,h2,h3,by omega,h5⟩,by omega,by omega,h8,by omega⟩,by omega,e⟩
theorem EA      :aR     Tryz.prog e54:=cH          (κ:=κy) (ι:=ιy) (T:=aL   []) (sp:=true) (fuel:=300) (c:=c54) (μ:=ptM) (aG       ap       ax     Cz    300 5) ax     aE       (show aM    (aL   []) c54=c54 by kernel_rfl) (by
 intro N args H v' ups' hbt h
 unfold e54 FY at h
 simp only[]at h
 split at h
 . rename_i m i cs x1 off fl cd a e n x2 x3 x4 es
   split at h
   . rename_i pb cb mb d hd
     rw[aa]at h
     cases hc:dec _ with
     | false=>rw[hc]at h;cases h
     | true=>
      rw[hc,cT]at h
      obtain⟨hH,hp,hlt⟩:=dec_iff.1 hc
      rw[hH]
      have hrd:=Ot N (RD a.toNat e.toNat) n es ⟨off,fl,cd⟩ cb mb d m i
      generalize a.toNat=s at *
      generalize e.toNat=t at *
      obtain⟨q1,q2,q3⟩:=hp.next hlt
      have hr:=hp.1.rd
      obtain⟨⟨h1,h2,h3,h4,h5⟩,h6,h7,h8,h9⟩:=hp
      obtain⟨k1,k2⟩:=bT h1.ok s 4
      have hN:Nat.blt (m - i).toNat (N+1)=true:=hbt
      rw[bL]at hN
      rw[dT0 hlt,cT,dec_iff.2 ⟨hr,h2⟩,cT,aO q2,aY q2,bS k1 (Int.lt_of_lt_of_le k2 (by decide)),am (by omega) (by omega),Ez (j:=1) (l:=[.int .u32 (tkN es s 4)]) (by omega) rfl (by simp;omega) q1]at hrd
      cases h
      refine .inl ⟨_,congrArg ae hrd,fun x=> ?_⟩
      rw[tO (j:=(m - i).toNat) (by omega),show(m - i).toNat - 1=(m - (i+1)).toNat by omega,show(m - i).toNat=(m - (i+1)).toNat+1 by omega,show s+4 * ((m - (i+1)).toNat+1)=s+4+4 * (m - (i+1)).toNat by omega,Nat.add_comm _ 1]
      rfl
   . cases h
 . rename_i m i cs l x1 off fl cd a e n x2 x3 x4 es
   split at h
   . rename_i pb cb mb d hd
     rw[aa]at h
     cases hc:dec _ with
     | false=>rw[hc]at h;cases h
     | true=>
      rw[hc,cT]at h
      obtain⟨hH,hp,hl⟩:=dec_iff.1 hc
      rw[hH]
      have hrd:=Ou N (RD a.toNat e.toNat) n es ⟨off,fl,cd⟩ cb mb d m i l.length l
      generalize a.toNat=s at *
      generalize e.toNat=t at *
      by_cases hlt:i < m
      . obtain⟨q1,q2,q3⟩:=hp.next hlt
        have hr:=hp.1.rd
        obtain⟨⟨h1,h2,h3,h4,h5⟩,h6,h7,h8,h9⟩:=hp
        obtain⟨k1,k2⟩:=bT h1.ok s 4
        have hN:Nat.blt (m - i).toNat (N+1)=true:=hbt
        rw[bL]at hN
        rw[dT0 hlt,cT,dec_iff.2 ⟨hr,h2⟩,cT,dT0 rfl,cT,dT0 (show l.length+1<=9223372036854775807 by omega),dT0 (show(l.length+1) * 4<=140737488355328 by omega),Bool.and_self,cT,aO q2,aY q2,bS k1 (Int.lt_of_lt_of_le k2 (by decide)),am (by omega) (by omega),Ez (j:=l.length+1) (l:=l++[SV.int IntKind.u32 (tkN es s 4)]) (by omega) (by simp) (by simp;omega) q1]at hrd
        cases h
        refine .inl ⟨_,congrArg ae hrd,fun x=> ?_⟩
        rw[tO (j:=(m - i).toNat) (by omega),show(m - i).toNat - 1=(m - (i+1)).toNat by omega,show(m - i).toNat=(m - (i+1)).toNat+1 by omega,show s+4 * ((m - (i+1)).toNat+1)=s+4+4 * (m - (i+1)).toNat by omega,lA0,aA]
        simp only[lS,List.singleton_append,Nat.add_assoc,Nat.add_comm 1]
      . have hm:m=i:=by have:=hp.2.2.1;omega
        subst hm
        rw[dF0 hlt,cF]at hrd
        cases h
        refine .inr ⟨_,_,congrArg ae hrd,?_⟩
        rw[show(m - m).toNat=0 by omega]
        simp only[wd,List.append_nil,Nat.add_zero,Nat.mul_zero]
        exact Lb
   . cases h
 . cases h)
def elQ(L z:Int):Int:=IntKind.i64.wrap (L.tdiv z)
def elB(L z k:Int):Bool:=bif(bif decide (elQ L z > 0)then decide (elQ L z<=k)else false)then L==IntKind.i64.wrap (elQ L z * z)else false
noncomputable abbrev κgt:=tbl [(49,fx 1),(70,fx 4),(126,yC)]
theorem Kq:KOk Tryz.prog κgt:=ac AF (ac rY (ac HC ok0))
noncomputable abbrev κht:=bt Tryz.prog κgt 300 5
noncomputable abbrev ιht:Nat->Bool:=fun g=>inl κgt g&&bJ Tryz.prog g
noncomputable abbrev T54:cQ:=aL [("p",e54)]
noncomputable abbrev m54:Code:=bF [(8, "p")] CA
noncomputable def zk:ag:=bV Tryz.prog κht ιht T54 true 300 Tryz.f114 m54
theorem Kr:Known Tryz.prog 114 zk:=⟨⟨Tryz.f114,Tryz.func114,bc ap Tryz.func114,rfl⟩,aZ (aG ap ax Kq 300 5) ax (bf EA aE) Tryz.func114 (show Tryz.f114.body=some (aM T54 m54)by kernel_rfl)⟩
def pH(r:Rd)(n:Nat)(es:List SV)(cb mb:Bool)(d:Ds):HpL:=[(0,dLx .nils (nz cb 37 d.cl) (nz mb 136 d.cm) d),(1,rCk 2 r n),(2,.seq 5 es)]
def pAr(x:Ax):List SV:=[.ptr 0 0,.agg [.ptr 1 0,.int .i64 x.off,.int .u8 x.fl,.int .u8 x.cd]]
noncomputable def pLp(r:Rd)(n:Nat)(es:List SV)(x:Ax)(cb mb:Bool)(d:Ds)(m:Int):CTree:=
 bif dec (pA r n es x cb mb d=pA (RD r.at_.toNat r.end_.toNat) n es x cb mb d/\pOk 4 r.at_.toNat r.end_.toNat n es m 0/\0 < m)then
  .ret (.bool true) [(0,some (dLx (.qs 3 1 0 (m - 0).toNat) (nz cb 37 d.cl) (nz mb 136 d.cm) d)),(1,some (rCk 2 (RD (r.at_.toNat+4 * (m - 0).toNat) r.end_.toNat) n)),(3,some (.seq 36 (wd es r.at_.toNat (m - 0).toNat)))]else .fail
theorem MX(r:Rd)(n:Nat)(es:List SV)(x:Ax)(cb mb:Bool)(d:Ds):zk (pAr x) (pH r n es cb mb d)=
 bif lfI r==0 then .ret (.bool true) []else ruC r n es (ruC (r.adv 1) n es (
  bif(bif(bif r.num es 1 !=2 then true else !(elB (lfI ((r.adv 1).adv 1)) 4 32))then true else elQ (lfI ((r.adv 1).adv 1)) 4 !=w64 ((r.adv 1).num es 1))then .ret (.bool false) [(1,some (rCk 2 ((r.adv 1).adv 1) n))]
  else pLp ((r.adv 1).adv 1) n es x cb mb d (elQ (lfI ((r.adv 1).adv 1)) 4))):=by cases cb <;> cases mb <;> kernel_rfl
def kw(v:List SV):Bool:=bif v.length==0 then true else bif decide (2<=v.length)then bif(bif(bif dg v 0 !=2 then true else !(elB ((v.length - 2:Nat):Int) 4 32))then true else elQ ((v.length - 2:Nat):Int) 4 !=dg v 1)then false else true else false
def ptG(v:List SV)(d:Ds):Ds:={d with path:=bif v.length==0 then []else wd v 2 (elQ ((v.length - 2:Nat):Int) 4).toNat}
theorem vk(k:Nat)(hk:k<=1000000)(z:Nat)(hz:1<=z):elQ (k:Int) (z:Int)=((k / z:Nat):Int):=by
 have h1:k / z<=k:=Nat.div_le_self k z
 unfold elQ
 rw[Int.tdiv_eq_ediv_of_nonneg (by omega),<- Int.natCast_ediv]
 generalize k / z=q at *
 exact am (by omega) (by omega)
theorem rU   {k:Nat}(hk:k<=1000000){z m:Nat}(hz:1<=z):elB (k:Int) (z:Int) (m:Int)=true↔0 < k / z/\k / z<=m/\k=k / z * z:=by
 have h1:k / z<=k:=Nat.div_le_self k z
 have h2:k / z * z<=k:=Nat.div_mul_le_self k z
 unfold elB
 rw[vk k hk z hz,<- Int.natCast_mul]
 generalize k / z * z=y at *
 generalize k / z=q at *
 rw[am (by omega) (by omega)]
 by_cases c1:0 < q
 . rw[dT0 (show((q:Nat):Int) > 0 by omega),cT]
   by_cases c2:q<=m
   . rw[dT0 (show((q:Nat):Int)<=m by omega),cT]
     rw[beq_iff_eq,Int.natCast_inj]
     exact⟨fun h=>⟨c1,c2,h⟩,fun h=>h.2.2⟩
   . rw[dF0 (show ¬ ((q:Nat):Int)<=m by omega)]
     exact⟨fun h=>(by cases h),fun h=>absurd h.2.1 c2⟩
 . rw[dF0 (show ¬ ((q:Nat):Int) > 0 by omega)]
   exact⟨fun h=>(by cases h),fun h=>absurd h.1 c1⟩
theorem CW{es:List SV}{s m:Nat}:∀ (k j:Nat),j+4 * k<=m->wd es (s+j) k=wd (sl es s m) j k
 | 0,_,_=>rfl
 | k+1,j,h=>by
  rw[wd,wd,lY (m:=m) 4 (by omega),Nat.add_assoc,CW (m:=m) k (j+4) (by omega)]
noncomputable def CX:ag:=fun args H=>match args,H with
 | [.ptr 0 0,.agg [.ptr 1 0,.int .i64 off,.int .u8 fl,.int .u8 cd]],[(0,.cells 177 cs),(1,.cells 157 [.int .i64 a,.int .i64 e,.qs 2 1 0 n,_,_,_]),(2,.seq 5 es)]=>
  match dP cs with
  | some (pb,cb,mb,d)=>.ite (dec (H=pH (RD a.toNat e.toNat) n es cb mb d/\okV es n a.toNat e.toNat/\pb=true))
    (.ite (kw (vl es a.toNat e.toNat)) (.ret (.bool true) [(0,some (dC false cb mb (ptG (vl es a.toNat e.toNat) d))),(1,none)]) (.ret (.bool false) [(0,some jk),(1,none)])) .fail
  | none=>.fail
 | _,_=>.fail
theorem CY{H:HpL}{c c3:Chunk}(h3:CoC Tryz.prog 0 c3 c){ups:List (Nat × Option Chunk)}(hu:ad ups H.get 0=some c3)(ho:∀ x,x≠0->x≠1->ad ups H.get x=H.get x):∀ x c',ad [(0,some c),(1,none)] H.get x=some c'->∃ c,ad ups H.get x=some c/\CoC Tryz.prog x c c':=by
 intro x c' hx
 simp only[ad]at hx
 by_cases h1:x=1
 . rw[if_pos h1]at hx;cases hx
 . rw[if_neg h1]at hx
   by_cases h0:x=0
   . subst h0;rw[if_pos rfl]at hx;cases hx;exact⟨c3,hu,h3⟩
   . rw[if_neg h0]at hx;exact⟨c',by rw[ho x h0 h1];exact hx,.rfl'⟩
theorem N6{q:SV}{cb mb:Bool}{d:Ds}{x:Nat}:CoC Tryz.prog x (dLx q (nz cb 37 d.cl) (nz mb 136 d.cm) d) jk:=.cells (xp [.int .i64 d.ori,q,.int .u32 d.nx,.bool d.hm,.int .u32 d.med,.bool d.hp,.int .u32 d.prf,.bool d.ho,.int .u32 d.orr,nz cb 37 d.cl,nz mb 136 d.cm,.int .i64 d.tk,.int .u32 d.tl,.int .u32 d.tr,.int .u32 d.tg,.psl 88 d.rch,.psl 88 d.unr])
theorem MA   :Known Tryz.prog 114 CX   :=bw         Kr     (by
 intro args H v' ups' h
 unfold CX at h
 split at h
 . rename_i off fl cd cs a e n x1 x2 x3 es
   split at h
   . rename_i pb cb mb d hd
     rw[aa]at h
     cases hc:dec _ with
     | false=>rw[hc]at h;cases h
     | true=>
      rw[hc,cT,aa]at h
      obtain⟨hH,ho,hp⟩:=dec_iff.1 hc
      rw[hH]
      have ht:=MX (RD a.toNat e.toNat) n es ⟨off,fl,cd⟩ cb mb d
      generalize a.toNat=s at *
      generalize e.toNat=t at *
      have hl:=ho.len
      have hr:=ho.rd
      have hoo:=ho
      obtain⟨h1,h2,h3,h4,h5⟩:=ho
      have hv:byl (vl es s t):=h1.sl _ _
      rw[eU hr h2,eU (hr.adv 1) h2,show lfI (RD s t)=((t - s:Nat):Int)by have:=iR (s:=s) (t:=t) (k:=0) (by omega) (by omega);simpa using this]at ht
      have no:∀ {r':Rd},kw (vl es s t)=false->ae (zk (pAr ⟨off,fl,cd⟩) (pH (RD s t) n es cb mb d))=some (.bool false,[(1,some (rCk 2 r' n))])->
        ∃ v ups,ae (zk [.ptr 0 0,.agg [.ptr 1 0,.int .i64 off,.int .u8 fl,.int .u8 cd]] (pH (RD s t) n es cb mb d))=some (v,ups)/\(pp Tryz.prog (pH (RD s t) n es cb mb d) v ups v' ups'\/Am.Told Tryz.prog (pH (RD s t) n es cb mb d) v ups v' ups'):=by
       intro r' hok hr'
       rw[hok]at h
       cases h
       exact⟨_,_,hr',.inr ⟨.rfl',CY (c3:=dLx .nils (nz cb 37 d.cl) (nz mb 136 d.cm) d) N6 rfl (fun x h0 h1=>by simp only[ad,h1,if_false])⟩⟩
      by_cases hz:t - s=0
      . rw[show(((t - s:Nat):Int)==0)=true by simp;omega]at ht
        have hz':(vl es s t).length=0:=by omega
        rw[show kw (vl es s t)=true by unfold kw;rw[hz'];rfl,show ptG (vl es s t) d={d with path:=[]}by unfold ptG;rw[hz'];rfl]at h
        cases h
        refine⟨_,_,congrArg ae ht,.inr ⟨.rfl',CY (c3:=dLx .nils (nz cb 37 d.cl) (nz mb 136 d.cm) d) ?_ rfl (fun x h0 h1=>rfl)⟩⟩
        exact .cells (.cons .rfl' (.cons .nils .rfl'))
      . rw[show(((t - s:Nat):Int)==0)=false by simp;omega,cF        ]at ht
        have hz':((vl es s t).length==0)=false:=by rw[hl];simp;omega
        by_cases h2':s+2<=t
        . have a1:(RD s t).adv 1=RD (s+1) t:=ez    (s:=s) 0 1 (by omega)
          have a2:(RD (s+1) t).adv 1=RD (s+2) t:=ez 1 1 (by omega)
          have m0:(RD s t).num es 1=dg (vl es s t) 0:=by rw[<- tk1];exact iV (n:=n) (s:=s) 0 1 (by omega)
          have m1:(RD (s+1) t).num es 1=dg (vl es s t) 1:=by rw[<- tk1];exact iV (n:=n) 1 1 (by omega)
          obtain⟨q1,q2⟩:=hv.ok 1
          have hok:kw (vl es s t)=bif(bif(bif dg (vl es s t) 0 !=2 then true else !(elB ((t - s - 2:Nat):Int) 4 32))then true else elQ ((t - s - 2:Nat):Int) 4 !=dg (vl es s t) 1)then false else true:=by
           unfold kw;rw[hz',hl,cF,dT0 (show 2<=t - s by omega),cT]
          rw[a1,a2,m0,m1,show w64 (dg (vl es s t) 1)=dg (vl es s t) 1 from am (by omega) (by omega),iR h2' (by omega)]at ht
          cases hb:(bif(bif dg (vl es s t) 0 !=2 then true else !(elB ((t - s - 2:Nat):Int) 4 32))then true else elQ ((t - s - 2:Nat):Int) 4 !=dg (vl es s t) 1)with
          | true=>
           rw[hb]at ht hok
           exact no hok (congrArg ae ht)
          | false=>
           rw[hb]at ht hok
           rw[cF]at ht hok
           have hB:elB ((t - s - 2:Nat):Int) 4 32=true:=by
            cases hx:elB ((t - s - 2:Nat):Int) 4 32 with
            | true=>rfl
            | false=>rw[hx]at hb;cases hy:dg (vl es s t) 0 !=2 <;> rw[hy]at hb <;> cases hb
           obtain⟨b1,b2,b3⟩:=(rU (k:=t - s - 2) (by omega) (z:=4) (m:=32) (by omega)).1 hB
           have hq:elQ ((t - s - 2:Nat):Int) 4=(((t - s - 2) / 4:Nat):Int):=vk _ (by omega) 4 (by omega)
           rw[hok]at h
           have hG:ptG (vl es s t) d={d with path:=wd es (s+2) ((t - s - 2) / 4)}:=by
            unfold ptG
            rw[hz',hl,hq,CW (es:=es) (s:=s) (m:=t - s) ((t - s - 2) / 4) 2 (by omega)]
            rfl
           rw[hG]at h
           generalize hk:(t - s - 2) / 4=k at *
           unfold pLp at ht
           rw[hq,dec_iff.2 ⟨rfl,⟨⟨h1,h2,h3,by simp[RD];omega,by simpa [RD]using h5⟩,by omega,by omega,by omega,by simp[RD];omega⟩,by omega⟩,cT]at ht
           cases h
           refine⟨_,_,congrArg ae ht,.inl ⟨3,36,wd es (s+2) k,rfl,.rfl',fun x c' hx=> ?_⟩⟩
           simp only[ad]at hx
           by_cases x1:x=1
           . rw[if_pos x1]at hx;cases hx
           . rw[if_neg x1]at hx
             by_cases x0:x=0
             . subst x0;rw[if_pos rfl]at hx;cases hx
               exact⟨by decide,_,rfl,.cells (.cons .rfl' (.cons (.qs (by rw[xd];omega)) .rfl'))⟩
             . rw[if_neg x0]at hx
               have x3:x≠3:=by rintro rfl;cases hx
               exact⟨x3,c',by simp only[ad,x0,x1,x3,if_false];exact hx,.rfl'⟩
        . have a1:(RD s t).adv 1=RD (s+1) t:=ez (s:=s) 0 1 (by omega)
          have a2:(RD (s+1) t).adv 1=⟨(s+1:Nat),t,4,(s+1:Nat)⟩:=jZ (by omega)
          have hts:t=s+1:=by omega
          have hok:kw (vl es s t)=false:=by
           unfold kw;rw[hz',hl,cF,dF0 (show ¬ 2<=t - s by omega)];rfl
          rw[a1,a2]at ht
          have hlf:lfI ⟨(s+1:Nat),t,4,(s+1:Nat)⟩=0:=by
           unfold lfI;simp only[];rw[show((t:Int) - ((s+1:Nat):Int))=0 by omega];rfl
          rw[hlf,show elB 0 4 32=false by decide]at ht
          refine no (r':=⟨(s+1:Nat),t,4,(s+1:Nat)⟩) hok ((congrArg ae ht).trans ?_)
          cases(RD s t).num es 1 !=2 <;> rfl
   . cases h
 . cases h)
theorem yG{H:HpL}{c:Chunk}:∀ x c',ad [(3,some c),(0,none)] H.get x=some c'->∃ c1,ad [(0,none),(3,some c)] H.get x=some c1/\CoC Tryz.prog x c1 c':=by
 intro x c' hx
 refine⟨c',?_,.rfl'⟩
 simp only[ad]at hx ⊢
 by_cases h0:x=0
 . rw[if_pos h0]at hx;cases hx
 . rw[if_neg h0]at hx ⊢;exact hx
theorem MB(r:Rd)(n:Nat)(es:List SV)(off fl cd:Int)(cb mb:Bool)(d:Ds):opn (tbl [(114,CX)]) Tryz.f113 (flA off fl cd) (flH r n es true cb mb d)=
 bif dec (pH r n es cb mb d=pH (RD r.at_.toNat r.end_.toNat) n es cb mb d/\okV es n r.at_.toNat r.end_.toNat/\true=true)then
  bif kw (vl es r.at_.toNat r.end_.toNat)then .ret (.bool true) [(0,none),(3,some (dC false cb mb (ptG (vl es r.at_.toNat r.end_.toNat) d)))]else .ret (.bool false) [(0,none),(3,some jk)]else .fail:=by cases cb <;> cases mb <;> kernel_rfl
theorem JO:Known Tryz.prog 113 (lM (fun pb _ _=>pb) kw ptG (fun _=>false) id id):=rI (aj (ac MA ok0) Tryz.func113 rfl) (by
 intro s t n es off fl cd pb cb mb d ho hp
 have hpb:pb=true:=hp
 subst hpb
 have ht:=MB (RD s t) n es off fl cd cb mb d
 rw[dec_iff.2 ⟨rfl,ho,rfl⟩,cT]at ht
 change _=bif kw (vl es s t)then CTree.ret (.bool true) [(0,none),(3,some (dC false cb mb (ptG (vl es s t) d)))]else CTree.ret (.bool false) [(0,none),(3,some jk)]at ht
 cases hok:kw (vl es s t)with
 | true=>rw[hok]at ht;exact⟨_,_,congrArg ae ht,.inr ⟨.rfl',yG⟩⟩
 | false=>rw[hok]at ht;exact⟨_,_,congrArg ae ht,.inr ⟨.rfl',yG⟩⟩)
end Go.Proofs.YtnlmhpancboddaaGreat
