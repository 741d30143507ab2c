/- Attributes are read: clusters, the loop's round. -/
import Derived.Test.YtnlmhpancboddaaGreatPart10
set_option linter.unusedVariables false
set_option linter.unusedSimpArgs false
namespace Go.Proofs.YtnlmhpancboddaaGreat
open Go.Am
set_option maxRecDepth 100000
noncomputable def Ep:Code:=Tryz.f118.body.getD .skip
noncomputable def c58:Code:=(bx 3 Ep).getD .skip
def klX(q:SV)(b1 b2:Bool)(d:Ds):Chunk:=dLx (nz b1 36 d.path) q (nz b2 136 d.cm) d
def klA(r:Rd)(n:Nat)(es:List SV)(x:Ax)(b1 b2:Bool)(d:Ds):HpL:=[(0,.cells 203 [.ptr 1 0]),(1,klX .nils b1 b2 d),(2,aC 3 x),(3,rCk 4 r n),(4,.seq 5 es)]
def klB(r:Rd)(n:Nat)(es:List SV)(x:Ax)(b1 b2:Bool)(d:Ds)(j:Nat)(l:List SV):HpL:=[(0,.cells 203 [.ptr 1 0]),(1,klX (.qs 2 1 0 j) b1 b2 d),(2,.seq 37 l),(3,aC 4 x),(4,rCk 5 r n),(5,.seq 5 es)]
noncomputable def GZ  :ag   :=fun args H=>match args,H with
 | [.ptr 0 0,.ptr 2 0,.int .i64 m,.bool ok,.int .i64 i],[(0,.cells 203 _),(1,.cells 177 cs),(2,.cells 182 [_,.int .i64 off,.int .u8 fl,.int .u8 cd]),(3,.cells 157 [.int .i64 a,.int .i64 e,.qs 4 1 0 n,_,_,_]),(4,.seq 5 es)]=>
  match dQ cs with
  | some (b1,_,b2,d)=>.ite (dec (H=klA (RD a.toNat e.toNat) n es ⟨off,fl,cd⟩ b1 b2 d))
    (.ite ok (.ite (dec (pOk 4 a.toNat e.toNat n es m i/\i < m)) (.ret (.tup [.int .i64 2,.bool true]) [(1,some (klX (.qs 5 1 0 (m - i).toNat) b1 b2 d)),(3,some (rCk 4 (RD (a.toNat+4 * (m - i).toNat) e.toNat) n)),(5,some (.seq 37 (wd es a.toNat (m - i).toNat)))]) .fail)
     (.ret (.tup [.int .i64 2,.bool false]) [])) .fail
  | none=>.fail
 | [.ptr 0 0,.ptr 3 0,.int .i64 m,.bool ok,.int .i64 i],[(0,.cells 203 _),(1,.cells 177 cs),(2,.seq 37 l),(3,.cells 182 [_,.int .i64 off,.int .u8 fl,.int .u8 cd]),(4,.cells 157 [.int .i64 a,.int .i64 e,.qs 5 1 0 n,_,_,_]),(5,.seq 5 es)]=>
  match dQ cs with
  | some (b1,_,b2,d)=>.ite (dec (H=klB (RD a.toNat e.toNat) n es ⟨off,fl,cd⟩ b1 b2 d l.length l/\ok=true/\pOk 4 a.toNat e.toNat n es m i/\l.length+(m - i).toNat<=2000))
    (.ret (.tup [.int .i64 2,.bool true]) [(1,some (klX (.qs 6 1 0 (l.length+(m - i).toNat)) b1 b2 d)),(2,none),(4,some (rCk 5 (RD (a.toNat+4 * (m - i).toNat) e.toNat) n)),(6,some (.seq 37 (l++wd es a.toNat (m - i).toNat)))]) .fail
  | none=>.fail
 | _,_=>.fail
def klM:List SV->HpL->Nat
 | [_,_,.int _ m,_,.int _ i],_=>(m - i).toNat
 | _,_=>0
noncomputable def e58:LEnt:={ins:=[1,2,4,5,6],outs:=[5],keep:=[],size:=36,code:=c58,s:=GZ}
noncomputable def G6(N q:Nat)(r:Rd)(n:Nat)(es:List SV)(x:Ax)(b1 b2:Bool)(d:Ds)(ok:Bool)(m i:Int)(j:Nat)(l:List SV)(K:Chunk->Rd->List SV->CTree):CTree:=
 bif Nat.blt (m - i).toNat N then bif dec (klB r n es x b1 b2 d j l=klB (RD r.at_.toNat r.end_.toNat) n es x b1 b2 d l.length l/\ok=true/\pOk 4 r.at_.toNat r.end_.toNat n es m i/\l.length+(m - i).toNat<=2000)then
  K (klX (.qs q 1 0 (l.length+(m - i).toNat)) b1 b2 d) (RD (r.at_.toNat+4 * (m - i).toNat) r.end_.toNat) (l++wd es r.at_.toNat (m - i).toNat)
 else .fail else .fail
noncomputable def G7(r:Rd)(n:Nat)(es:List SV)(K:SV->CTree):CTree:=bif dec (OkRd r es/\n=es.length)then K (.int .u32 (w3 (r.num es 4)))else .fail
theorem Ov(N:Nat)(r:Rd)(n:Nat)(es:List SV)(x:Ax)(b1 b2:Bool)(d:Ds)(ok:Bool)(m i:Int):ay Tryz.prog κy ιy (aL []) true 300 e58 {e58 with s:=az klM GZ N} c58 [.ptr 0 0,.ptr 2 0,.int .i64 m,.bool ok,.int .i64 i] (klA r n es x b1 b2 d)=
 bif(bif ok then decide (i < m)else false)then G7 r n es (fun v=>G6 N 5 (r.adv 4) n es x b1 b2 d ok m (IntKind.i64.wrap (i+1)) 1 [v] (fun c r' l'=>.ret (.tup [.int .i64 2,.bool true]) [(1,some c),(3,some (rCk 4 r' n)),(5,some (.seq 37 l'))]))
 else .ret (.tup [.int .i64 2,.bool ok]) []:=by cases b1 <;> cases b2 <;> kernel_rfl
theorem Ow(N:Nat)(r:Rd)(n:Nat)(es:List SV)(x:Ax)(b1 b2:Bool)(d:Ds)(ok:Bool)(m i:Int)(j:Nat)(l:List SV):ay Tryz.prog κy ιy (aL []) true 300 e58 {e58 with s:=az klM GZ N} c58 [.ptr 0 0,.ptr 3 0,.int .i64 m,.bool ok,.int .i64 i] (klB r n es x b1 b2 d j l)=
 bif(bif ok then decide (i < m)else false)then G7 r n es (fun v=>bif decide (j=l.length)then bif decide (l.length+1<=9223372036854775807)&&decide ((l.length+1) * 4<=140737488355328)then G6 N 6 (r.adv 4) n es x b1 b2 d ok m (IntKind.i64.wrap (i+1)) (l.length+1) (l++[v]) (fun c r' l'=>.ret (.tup [.int .i64 2,.bool true]) [(1,some c),(2,none),(4,some (rCk 5 r' n)),(6,some (.seq 37 l'))])
 else .fail else .fail)else .ret (.tup [.int .i64 2,.bool ok]) []:=by cases b1 <;> cases b2 <;> kernel_rfl
noncomputable def B9:Code:=Tryz.f125.body.getD .skip
noncomputable def c66:Code:=(bx 3 B9).getD .skip
def kmX(q:SV)(b1 b2:Bool)(d:Ds):Chunk:=dLx (nz b1 36 d.path) (nz b2 37 d.cl) q d
def kmA(r:Rd)(n:Nat)(es:List SV)(x:Ax)(b1 b2:Bool)(d:Ds):HpL:=[(0,.cells 203 [.ptr 1 0]),(1,kmX .nils b1 b2 d),(2,aC 3 x),(3,rCk 4 r n),(4,.seq 5 es)]
def kmB(r:Rd)(n:Nat)(es:List SV)(x:Ax)(b1 b2:Bool)(d:Ds)(j:Nat)(l:List SV):HpL:=[(0,.cells 203 [.ptr 1 0]),(1,kmX (.qs 2 8 0 j) b1 b2 d),(2,.seq 136 l),(3,aC 4 x),(4,rCk 5 r n),(5,.seq 5 es)]
noncomputable def Fp  :ag   :=fun args H=>match args,H with
 | [.ptr 0 0,.ptr 2 0,.int .i64 m,.bool ok,.int .i64 i],[(0,.cells 203 _),(1,.cells 177 cs),(2,.cells 182 [_,.int .i64 off,.int .u8 fl,.int .u8 cd]),(3,.cells 157 [.int .i64 a,.int .i64 e,.qs 4 1 0 n,_,_,_]),(4,.seq 5 es)]=>
  match dQ cs with
  | some (b1,b2,_,d)=>.ite (dec (H=kmA (RD a.toNat e.toNat) n es ⟨off,fl,cd⟩ b1 b2 d))
    (.ite ok (.ite (dec (pOk 8 a.toNat e.toNat n es m i/\i < m)) (.ret (.tup [.int .i64 2,.bool true]) [(1,some (kmX (.qs 5 8 0 (m - i).toNat) b1 b2 d)),(3,some (rCk 4 (RD (a.toNat+8 * (m - i).toNat) e.toNat) n)),(5,some (.seq 136 (cw es a.toNat (m - i).toNat)))]) .fail)
     (.ret (.tup [.int .i64 2,.bool false]) [])) .fail
  | none=>.fail
 | [.ptr 0 0,.ptr 3 0,.int .i64 m,.bool ok,.int .i64 i],[(0,.cells 203 _),(1,.cells 177 cs),(2,.seq 136 l),(3,.cells 182 [_,.int .i64 off,.int .u8 fl,.int .u8 cd]),(4,.cells 157 [.int .i64 a,.int .i64 e,.qs 5 1 0 n,_,_,_]),(5,.seq 5 es)]=>
  match dQ cs with
  | some (b1,b2,_,d)=>.ite (dec (H=kmB (RD a.toNat e.toNat) n es ⟨off,fl,cd⟩ b1 b2 d l.length l/\ok=true/\pOk 8 a.toNat e.toNat n es m i/\l.length+(m - i).toNat<=2000))
    (.ret (.tup [.int .i64 2,.bool true]) [(1,some (kmX (.qs 6 8 0 (l.length+(m - i).toNat)) b1 b2 d)),(2,none),(4,some (rCk 5 (RD (a.toNat+8 * (m - i).toNat) e.toNat) n)),(6,some (.seq 136 (l++cw es a.toNat (m - i).toNat)))]) .fail
  | none=>.fail
 | _,_=>.fail
def kmM:List SV->HpL->Nat
 | [_,_,.int _ m,_,.int _ i],_=>(m - i).toNat
 | _,_=>0
noncomputable def e66:LEnt:={ins:=[1,2,4,5,6],outs:=[5],keep:=[],size:=37,code:=c66,s:=Fp}
noncomputable def Fq(N q:Nat)(r:Rd)(n:Nat)(es:List SV)(x:Ax)(b1 b2:Bool)(d:Ds)(ok:Bool)(m i:Int)(j:Nat)(l:List SV)(K:Chunk->Rd->List SV->CTree):CTree:=
 bif Nat.blt (m - i).toNat N then bif dec (kmB r n es x b1 b2 d j l=kmB (RD r.at_.toNat r.end_.toNat) n es x b1 b2 d l.length l/\ok=true/\pOk 8 r.at_.toNat r.end_.toNat n es m i/\l.length+(m - i).toNat<=2000)then
  K (kmX (.qs q 8 0 (l.length+(m - i).toNat)) b1 b2 d) (RD (r.at_.toNat+8 * (m - i).toNat) r.end_.toNat) (l++cw es r.at_.toNat (m - i).toNat)
 else .fail else .fail
noncomputable def Fs(r:Rd)(n:Nat)(es:List SV)(K:SV->CTree):CTree:=bif dec (OkRd r es/\n=es.length/\(0:Int)<=8/\(8:Int)<=1000000)then bif decide (8<=(r.sub es 8).length)then K (.agg (gK (r.sub es 8) 0 8))else .fail else .fail
theorem NT(N:Nat)(r:Rd)(n:Nat)(es:List SV)(x:Ax)(b1 b2:Bool)(d:Ds)(ok:Bool)(m i:Int):ay Tryz.prog κy ιy (aL []) true 300 e66 {e66 with s:=az kmM Fp N} c66 [.ptr 0 0,.ptr 2 0,.int .i64 m,.bool ok,.int .i64 i] (kmA r n es x b1 b2 d)=
 bif(bif ok then decide (i < m)else false)then Fs r n es (fun v=>Fq N 5 (r.adv 8) n es x b1 b2 d ok m (IntKind.i64.wrap (i+1)) 1 [v] (fun c r' l'=>.ret (.tup [.int .i64 2,.bool true]) [(1,some c),(3,some (rCk 4 r' n)),(5,some (.seq 136 l'))]))
 else .ret (.tup [.int .i64 2,.bool ok]) []:=by cases b1 <;> cases b2 <;> kernel_rfl
theorem NU(N:Nat)(r:Rd)(n:Nat)(es:List SV)(x:Ax)(b1 b2:Bool)(d:Ds)(ok:Bool)(m i:Int)(j:Nat)(l:List SV):ay Tryz.prog κy ιy (aL []) true 300 e66 {e66 with s:=az kmM Fp N} c66 [.ptr 0 0,.ptr 3 0,.int .i64 m,.bool ok,.int .i64 i] (kmB r n es x b1 b2 d j l)=
 bif(bif ok then decide (i < m)else false)then Fs r n es (fun v=>bif decide (j=l.length)then bif decide (l.length+1<=9223372036854775807)&&decide ((l.length+1) * 8<=140737488355328)then Fq N 6 (r.adv 8) n es x b1 b2 d ok m (IntKind.i64.wrap (i+1)) (l.length+1) (l++[v]) (fun c r' l'=>.ret (.tup [.int .i64 2,.bool true]) [(1,some c),(2,none),(4,some (rCk 5 r' n)),(6,some (.seq 136 l'))])
 else .fail else .fail)else .ret (.tup [.int .i64 2,.bool ok]) []:=by cases b1 <;> cases b2 <;> kernel_rfl
theorem Kw{r:Rd}{n:Nat}{es:List SV}{x:Ax}{b1 b2:Bool}{d:Ds}{j:Nat}{l:List SV}:∀ y c,(klB r n es x b1 b2 d j l).get y=some c->6 ∉ aJ c:=by
 intro y c hx
 have:=aU _ _ _ hx
 simp only[klB,List.mem_cons,pJ,List.not_mem_nil,or_false]at this
 rcases this with ⟨_,rfl⟩ | ⟨_,rfl⟩ | ⟨_,rfl⟩ | ⟨_,rfl⟩ | ⟨_,rfl⟩ | ⟨_,rfl⟩ <;> cases b1 <;> cases b2 <;> simp[aJ,aF,ak,klX,dLx,aC,rCk,nz]
theorem GE{r:Rd}{n:Nat}{es:List SV}{x:Ax}{b1 b2:Bool}{d:Ds}{j:Nat}{l:List SV}:cg (klB r n es x b1 b2 d j l) (.tup [.int .i64 2,.bool true]) [] (.tup [.int .i64 2,.bool true]) [(1,some (klX (.qs 6 1 0 j) b1 b2 d)),(2,none),(4,some (rCk 5 r n)),(6,some (.seq 37 l))]:=by
 refine⟨2,6,by simp[klB],by simp[ak,aF],Kw,rfl,fun y=> ?_⟩
 match y with
 | 0=>rfl
 | 1=>cases b1 <;> cases b2 <;> rfl
 | 2=>rfl
 | 3=>rfl
 | 4=>rfl
 | 5=>rfl
 | 6=>rfl
 | y+7=>
  have h2:∀ k,k < 7->Nat.beq k (y+7)=false:=fun k hk=>b8 (by omega)
  have h1:∀ k,k < 7->¬ (y+7=k):=fun k hk=>by omega
  simp only[ad,klB,HpL.get,h1 6 (by omega),h1 4 (by omega),h1 2 (by omega),h1 1 (by omega),if_false,h2 0 (by omega),h2 1 (by omega),h2 2 (by omega),h2 3 (by omega),h2 4 (by omega),h2 5 (by omega),cF,Option.map_none]
theorem zo{s t n:Nat}{es:List SV}(h1:byl es)(h2:n=es.length)(hr:OkRd (RD s t) es)(hq:s+4<=t){K:SV->CTree}:G7 (RD s t) n es K=K (.int .u32 (tkN es s 4)):=by
 obtain⟨k1,k2⟩:=bT h1.ok s 4
 unfold G7
 rw[dec_iff.2 ⟨hr,h2⟩,cT,aY hq,bS k1 (Int.lt_of_lt_of_le k2 (by decide))]
theorem zp{N q s t n:Nat}{es:List SV}{x:Ax}{b1 b2:Bool}{d:Ds}{ok:Bool}{m i:Int}{j:Nat}{l:List SV}(hN:(m - i).toNat < N)(hj:j=l.length)(hok:ok=true)(hl:l.length+(m - i).toNat<=2000)(h:pOk 4 s t n es m i)(K:Chunk->Rd->List SV->CTree):
  G6 N q (RD s t) n es x b1 b2 d ok m i j l K=K (klX (.qs q 1 0 (l.length+(m - i).toNat)) b1 b2 d) (RD (s+4 * (m - i).toNat) t) (l++wd es s (m - i).toNat):=by
 unfold G6
 rw[show Nat.blt (m - i).toNat N=true by rw[bL];exact hN,dec_iff.2 ⟨by subst hj;rfl,hok,by simpa [RD]using h,hl⟩]
 rfl
theorem DG      :aR     Tryz.prog e58:=cH          (κ:=κy) (ι:=ιy) (T:=aL   []) (sp:=true) (fuel:=300) (c:=c58) (μ:=klM) (aG       ap       ax     Cz    300 5) ax     aE       (show aM    (aL   []) c58=c58 by kernel_rfl) (by
 intro N args H v' ups' hbt h
 unfold e58 GZ at h
 simp only[]at h
 split at h
 . rename_i m ok i x0 cs x1 off fl cd a e n x2 x3 x4 es
   split at h
   . rename_i y1 y2 y3 d hd
     rw[aa]at h
     cases hc:dec _ with
     | false=>rw[hc]at h;cases h
     | true=>
      rw[hc,cT,aa]at h
      have hH:=dec_iff.1 hc
      rw[hH]
      have hrd:=Ov N (RD a.toNat e.toNat) n es ⟨off,fl,cd⟩ y1 y3 d ok m i
      generalize a.toNat=s at *
      generalize e.toNat=t at *
      cases ok with
      | false=>
       rw[cF,cF]at hrd
       rw[cF]at h
       cases h
       exact .inl ⟨_,congrArg ae hrd,fun x=>rfl⟩
      | true=>
       rw[cT,aa]at h
       cases hc2:dec (pOk 4 s t n es m i/\i < m)with
       | false=>rw[hc2]at h;cases h
       | true=>
        rw[hc2,cT]at h
        obtain⟨hp,hlt⟩:=dec_iff.1 hc2
        obtain⟨q1,q2,q3⟩:=hp.next hlt
        have hr:=hp.1.rd
        obtain⟨⟨h1,h2,h3,h4,h5⟩,h6,h7,h8,h9⟩:=hp
        have hN:Nat.blt (m - i).toNat (N+1)=true:=hbt
        rw[bL]at hN
        rw[cT,dT0 hlt,cT,zo h1 h2 hr q2,aO q2,am (by omega) (by omega),zp (j:=1) (l:=[SV.int IntKind.u32 (tkN es s 4)]) (by omega) rfl rfl (by simp;omega) q1]at hrd
        cases h
        refine .inl ⟨_,congrArg ae hrd,fun x=> ?_⟩
        rw[tO (j:=(m - i).toNat) (by omega),show(m - i).toNat - 1=(m - (i+1)).toNat by omega,show(m - i).toNat=(m - (i+1)).toNat+1 by omega,show s+4 * ((m - (i+1)).toNat+1)=s+4+4 * (m - (i+1)).toNat by omega,Nat.add_comm _ 1]
        rfl
   . cases h
 . rename_i m ok i x0 cs l x1 off fl cd a e n x2 x3 x4 es
   split at h
   . rename_i y1 y2 y3 d hd
     rw[aa]at h
     cases hc:dec _ with
     | false=>rw[hc]at h;cases h
     | true=>
      rw[hc,cT]at h
      obtain⟨hH,hok,hp,hl⟩:=dec_iff.1 hc
      subst hok
      rw[hH]
      have hrd:=Ow N (RD a.toNat e.toNat) n es ⟨off,fl,cd⟩ y1 y3 d true m i l.length l
      generalize a.toNat=s at *
      generalize e.toNat=t at *
      rw[cT]at hrd
      by_cases hlt:i < m
      . obtain⟨q1,q2,q3⟩:=hp.next hlt
        have hr:=hp.1.rd
        obtain⟨⟨h1,h2,h3,h4,h5⟩,h6,h7,h8,h9⟩:=hp
        have hN:Nat.blt (m - i).toNat (N+1)=true:=hbt
        rw[bL]at hN
        rw[dT0 hlt,cT,zo h1 h2 hr q2,dT0 rfl,cT,dT0 (show l.length+1<=9223372036854775807 by omega),dT0 (show(l.length+1) * 4<=140737488355328 by omega),Bool.and_self,cT,aO q2,am (by omega) (by omega),zp (j:=l.length+1) (l:=l++[SV.int IntKind.u32 (tkN es s 4)]) (by omega) (by simp) rfl (by simp;omega) q1]at hrd
        cases h
        refine .inl ⟨_,congrArg ae hrd,fun x=> ?_⟩
        rw[tO (j:=(m - i).toNat) (by omega),show(m - i).toNat - 1=(m - (i+1)).toNat by omega,show(m - i).toNat=(m - (i+1)).toNat+1 by omega,show s+4 * ((m - (i+1)).toNat+1)=s+4+4 * (m - (i+1)).toNat by omega,lA0,aA]
        simp only[lS,List.singleton_append,Nat.add_assoc,Nat.add_comm 1]
      . have hm:m=i:=by have:=hp.2.2.1;omega
        subst hm
        rw[dF0 hlt,cF]at hrd
        cases h
        refine .inr ⟨_,_,congrArg ae hrd,?_⟩
        rw[show(m - m).toNat=0 by omega]
        simp only[wd,List.append_nil,Nat.add_zero,Nat.mul_zero]
        exact GE
   . cases h
 . cases h)
theorem Ki{r:Rd}{n:Nat}{es:List SV}{x:Ax}{b1 b2:Bool}{d:Ds}{j:Nat}{l:List SV}:∀ y c,(kmB r n es x b1 b2 d j l).get y=some c->6 ∉ aJ c:=by
 intro y c hx
 have:=aU _ _ _ hx
 simp only[kmB,List.mem_cons,pJ,List.not_mem_nil,or_false]at this
 rcases this with ⟨_,rfl⟩ | ⟨_,rfl⟩ | ⟨_,rfl⟩ | ⟨_,rfl⟩ | ⟨_,rfl⟩ | ⟨_,rfl⟩ <;> cases b1 <;> cases b2 <;> simp[aJ,aF,ak,kmX,dLx,aC,rCk,nz]
theorem Gh{r:Rd}{n:Nat}{es:List SV}{x:Ax}{b1 b2:Bool}{d:Ds}{j:Nat}{l:List SV}:cg (kmB r n es x b1 b2 d j l) (.tup [.int .i64 2,.bool true]) [] (.tup [.int .i64 2,.bool true]) [(1,some (kmX (.qs 6 8 0 j) b1 b2 d)),(2,none),(4,some (rCk 5 r n)),(6,some (.seq 136 l))]:=by
 refine⟨2,6,by simp[kmB],by simp[ak,aF],Ki,rfl,fun y=> ?_⟩
 match y with
 | 0=>rfl
 | 1=>cases b1 <;> cases b2 <;> rfl
 | 2=>rfl
 | 3=>rfl
 | 4=>rfl
 | 5=>rfl
 | 6=>rfl
 | y+7=>
  have h2:∀ k,k < 7->Nat.beq k (y+7)=false:=fun k hk=>b8 (by omega)
  have h1:∀ k,k < 7->¬ (y+7=k):=fun k hk=>by omega
  simp only[ad,kmB,HpL.get,h1 6 (by omega),h1 4 (by omega),h1 2 (by omega),h1 1 (by omega),if_false,h2 0 (by omega),h2 1 (by omega),h2 2 (by omega),h2 3 (by omega),h2 4 (by omega),h2 5 (by omega),cF,Option.map_none]
theorem Dd{es:List SV}{s j:Nat}(h:0 < j):cw es s j= .agg (gK (sl es s 8) 0 8) :: cw es (s+8) (j - 1):=by
 obtain⟨k,rfl⟩:∃ k,j=k+1:=⟨j - 1,by omega⟩
 rfl
theorem yQ{s t n:Nat}{es:List SV}(h1:byl es)(h2:n=es.length)(hr:OkRd (RD s t) es)(hq:s+8<=t){K:SV->CTree}:Fs (RD s t) n es K=K (.agg (gK (sl es s 8) 0 8)):=by
 unfold Fs
 have ht:t<=es.length:=by have:=hr.3;simpa [RD]using this
 have hs:(RD s t).sub es 8=sl es s 8:=iP hq
 rw[dec_iff.2 ⟨hr,h2,by decide,by decide⟩,cT,hs,eR (by omega),dT0 (by decide),cT]
theorem yR{N q s t n:Nat}{es:List SV}{x:Ax}{b1 b2:Bool}{d:Ds}{ok:Bool}{m i:Int}{j:Nat}{l:List SV}(hN:(m - i).toNat < N)(hj:j=l.length)(hok:ok=true)(hl:l.length+(m - i).toNat<=2000)(h:pOk 8 s t n es m i)(K:Chunk->Rd->List SV->CTree):
  Fq N q (RD s t) n es x b1 b2 d ok m i j l K=K (kmX (.qs q 8 0 (l.length+(m - i).toNat)) b1 b2 d) (RD (s+8 * (m - i).toNat) t) (l++cw es s (m - i).toNat):=by
 unfold Fq
 rw[show Nat.blt (m - i).toNat N=true by rw[bL];exact hN,dec_iff.2 ⟨by subst hj;rfl,hok,by simpa [RD]using h,hl⟩]
 rfl
theorem De      :aR     Tryz.prog e66:=cH          (κ:=κy) (ι:=ιy) (T:=aL   []) (sp:=true) (fuel:=300) (c:=c66) (μ:=kmM) (aG       ap       ax     Cz    300 5) ax     aE       (show aM    (aL   []) c66=c66 by kernel_rfl) (by
 intro N args H v' ups' hbt h
 unfold e66 Fp at h
 simp only[]at h
 split at h
 . rename_i m ok i x0 cs x1 off fl cd a e n x2 x3 x4 es
   split at h
   . rename_i y1 y2 y3 d hd
     rw[aa]at h
     cases hc:dec _ with
     | false=>rw[hc]at h;cases h
     | true=>
      rw[hc,cT,aa]at h
      have hH:=dec_iff.1 hc
      rw[hH]
      have hrd:=NT N (RD a.toNat e.toNat) n es ⟨off,fl,cd⟩ y1 y2 d ok m i
      generalize a.toNat=s at *
      generalize e.toNat=t at *
      cases ok with
      | false=>
       rw[cF,cF]at hrd
       rw[cF]at h
       cases h
       exact .inl ⟨_,congrArg ae hrd,fun x=>rfl⟩
      | true=>
       rw[cT,aa]at h
       cases hc2:dec (pOk 8 s t n es m i/\i < m)with
       | false=>rw[hc2]at h;cases h
       | true=>
        rw[hc2,cT]at h
        obtain⟨hp,hlt⟩:=dec_iff.1 hc2
        obtain⟨q1,q2,q3⟩:=hp.next hlt
        have hr:=hp.1.rd
        obtain⟨⟨h1,h2,h3,h4,h5⟩,h6,h7,h8,h9⟩:=hp
        have hN:Nat.blt (m - i).toNat (N+1)=true:=hbt
        rw[bL]at hN
        rw[cT,dT0 hlt,cT,yQ h1 h2 hr q2,aO q2,am (by omega) (by omega),yR (j:=1) (l:=[SV.agg (gK (sl es s 8) 0 8)]) (by omega) rfl rfl (by simp;omega) q1]at hrd
        cases h
        refine .inl ⟨_,congrArg ae hrd,fun x=> ?_⟩
        rw[Dd (j:=(m - i).toNat) (by omega),show(m - i).toNat - 1=(m - (i+1)).toNat by omega,show(m - i).toNat=(m - (i+1)).toNat+1 by omega,show s+8 * ((m - (i+1)).toNat+1)=s+8+8 * (m - (i+1)).toNat by omega,Nat.add_comm _ 1]
        rfl
   . cases h
 . rename_i m ok i x0 cs l x1 off fl cd a e n x2 x3 x4 es
   split at h
   . rename_i y1 y2 y3 d hd
     rw[aa]at h
     cases hc:dec _ with
     | false=>rw[hc]at h;cases h
     | true=>
      rw[hc,cT]at h
      obtain⟨hH,hok,hp,hl⟩:=dec_iff.1 hc
      subst hok
      rw[hH]
      have hrd:=NU N (RD a.toNat e.toNat) n es ⟨off,fl,cd⟩ y1 y2 d true m i l.length l
      generalize a.toNat=s at *
      generalize e.toNat=t at *
      rw[cT]at hrd
      by_cases hlt:i < m
      . obtain⟨q1,q2,q3⟩:=hp.next hlt
        have hr:=hp.1.rd
        obtain⟨⟨h1,h2,h3,h4,h5⟩,h6,h7,h8,h9⟩:=hp
        have hN:Nat.blt (m - i).toNat (N+1)=true:=hbt
        rw[bL]at hN
        rw[dT0 hlt,cT,yQ h1 h2 hr q2,dT0 rfl,cT,dT0 (show l.length+1<=9223372036854775807 by omega),dT0 (show(l.length+1) * 8<=140737488355328 by omega),Bool.and_self,cT,aO q2,am (by omega) (by omega),yR (j:=l.length+1) (l:=l++[SV.agg (gK (sl es s 8) 0 8)]) (by omega) (by simp) rfl (by simp;omega) q1]at hrd
        cases h
        refine .inl ⟨_,congrArg ae hrd,fun x=> ?_⟩
        rw[Dd (j:=(m - i).toNat) (by omega),show(m - i).toNat - 1=(m - (i+1)).toNat by omega,show(m - i).toNat=(m - (i+1)).toNat+1 by omega,show s+8 * ((m - (i+1)).toNat+1)=s+8+8 * (m - (i+1)).toNat by omega,lA0,aA]
        simp only[lS,List.singleton_append,Nat.add_assoc,Nat.add_comm 1]
      . have hm:m=i:=by have:=hp.2.2.1;omega
        subst hm
        rw[dF0 hlt,cF]at hrd
        cases h
        refine .inr ⟨_,_,congrArg ae hrd,?_⟩
        rw[show(m - m).toNat=0 by omega]
        simp only[cw,List.append_nil,Nat.add_zero,Nat.mul_zero]
        exact Gh
   . cases h
 . cases h)
noncomputable abbrev T58:cQ:=aL [("p",e58)]
noncomputable abbrev m58:Code:=bF [(3, "p")] Ep
noncomputable def HQ:ag:=bV Tryz.prog κht ιht T58 true 300 Tryz.f118 m58
theorem Kk:Known Tryz.prog 118 HQ:=⟨⟨Tryz.f118,Tryz.func118,bc ap Tryz.func118,rfl⟩,aZ (aG ap ax Kq 300 5) ax (bf DG aE) Tryz.func118 (show Tryz.f118.body=some (aM T58 m58)by kernel_rfl)⟩
theorem ML(r:Rd)(n:Nat)(es:List SV)(off fl cd:Int)(b1 b2:Bool)(d:Ds):HQ (flA off fl cd) (flH r n es b1 true b2 d)=
 bif dec (klA r n es ⟨off,fl,cd⟩ b1 b2 d=klA (RD r.at_.toNat r.end_.toNat) n es ⟨off,fl,cd⟩ b1 b2 d)then bif elB (lfI r) 4 16 then bif dec (pOk 4 r.at_.toNat r.end_.toNat n es (elQ (lfI r) 4) 0/\0 < elQ (lfI r) 4)then
  .ret (.bool true) [(0,some (rCk 1 (RD (r.at_.toNat+4 * (elQ (lfI r) 4 - 0).toNat) r.end_.toNat) n)),(3,some (klX (.qs 4 1 0 (elQ (lfI r) 4 - 0).toNat) b1 b2 d)),(4,some (.seq 37 (wd es r.at_.toNat (elQ (lfI r) 4 - 0).toNat)))]
 else .fail else .ret (.bool false) []else .fail:=by cases b1 <;> cases b2 <;> kernel_rfl
def AE(v:List SV):Bool:=elB (v.length:Int) 4 16
def klG(v:List SV)(d:Ds):Ds:={d with cl:=wd v 0 (v.length / 4)}
theorem MM   :Known Tryz.prog 118 (lM   (fun pb cb mb=>cb) AE   klG id (fun _=>false) id):=rI    Kk     (by
 intro s t n es off fl cd pb cb mb d ho hp
 have hpb:cb=true:=hp
 subst hpb
 have ht:=ML (RD s t) n es off fl cd pb mb d
 have hl:=ho.len
 have hoo:=ho
 obtain⟨h1,h2,h3,h4,h5⟩:=ho
 have hL:lfI (RD s t)=((t - s:Nat):Int):=by have:=iR (s:=s) (t:=t) (k:=0) (by omega) (by omega);simpa using this
 simp only[show(RD s t).at_.toNat=s from rfl,show(RD s t).end_.toNat=t from rfl]at ht
 rw[dec_iff.2 trivial,cT,hL]at ht
 cases hok:AE (vl es s t)with
 | false=>
  have hb:elB ((t - s:Nat):Int) 4 16=false:=by unfold AE at hok;rw[hl]at hok;exact hok
  rw[hb,cF]at ht
  exact⟨_,_,congrArg ae ht,.inr ⟨.rfl',nO (c3:=dC pb true mb d) pT rfl (fun x h0 h6=>rfl)⟩⟩
 | true=>
  have hb:elB ((t - s:Nat):Int) 4 16=true:=by unfold AE at hok;rw[hl]at hok;exact hok
  obtain⟨b1,b2,b3⟩:=(rU (k:=t - s) (by omega) (z:=4) (m:=16) (by omega)).1 hb
  have hq:elQ ((t - s:Nat):Int) 4=(((t - s) / 4:Nat):Int):=vk _ (by omega) 4 (by omega)
  have hG:klG (vl es s t) d={d with cl:=wd es s ((t - s) / 4)}:=by
   unfold klG
   rw[hl]
   have:=CW (es:=es) (s:=s) (m:=t - s) ((t - s) / 4) 0 (by omega)
   rw[Nat.add_zero]at this
   rw[this];rfl
  rw[hG,cT]
  generalize hk:(t - s) / 4=k at *
  rw[hb,cT,hq,dec_iff.2 ⟨⟨⟨h1,h2,h3,h4,h5⟩,by omega,by omega,by omega,by omega⟩,by omega⟩,cT]at ht
  refine⟨_,_,congrArg ae ht,.inl ⟨4,37,wd es s k,rfl,.rfl',fun x c' hx=> ?_⟩⟩
  simp only[ad]at hx
  by_cases x0:x=0
  . rw[if_pos x0]at hx;cases hx
  . rw[if_neg x0]at hx
    by_cases x3:x=3
    . subst x3;rw[if_pos rfl]at hx;cases hx
      exact⟨by decide,_,rfl,.cells (.cons .rfl' (.cons .rfl' (.cons .rfl' (.cons .rfl' (.cons .rfl' (.cons .rfl' (.cons .rfl' (.cons .rfl' (.cons .rfl' (.cons (.qs (by rw[xd];omega)) .rfl'))))))))))⟩
    . rw[if_neg x3]at hx
      have x4:x≠4:=by rintro rfl;cases hx
      exact⟨x4,c',by simp only[ad,x0,x3,x4,if_false];exact hx,.rfl'⟩)
noncomputable abbrev T66:cQ:=aL [("p",e66)]
noncomputable abbrev m66:Code:=bF [(3, "p")] B9
noncomputable def HK:ag:=bV Tryz.prog κht ιht T66 true 300 Tryz.f125 m66
theorem JM:Known Tryz.prog 125 HK:=⟨⟨Tryz.f125,Tryz.func125,bc ap Tryz.func125,rfl⟩,aZ (aG ap ax Kq 300 5) ax (bf De aE) Tryz.func125 (show Tryz.f125.body=some (aM T66 m66)by kernel_rfl)⟩
theorem Mx(r:Rd)(n:Nat)(es:List SV)(off fl cd:Int)(b1 b2:Bool)(d:Ds):HK (flA off fl cd) (flH r n es b1 b2 true d)=
 bif dec (kmA r n es ⟨off,fl,cd⟩ b1 b2 d=kmA (RD r.at_.toNat r.end_.toNat) n es ⟨off,fl,cd⟩ b1 b2 d)then bif elB (lfI r) 8 64 then bif dec (pOk 8 r.at_.toNat r.end_.toNat n es (elQ (lfI r) 8) 0/\0 < elQ (lfI r) 8)then
  .ret (.bool true) [(0,some (rCk 1 (RD (r.at_.toNat+8 * (elQ (lfI r) 8 - 0).toNat) r.end_.toNat) n)),(3,some (kmX (.qs 4 8 0 (elQ (lfI r) 8 - 0).toNat) b1 b2 d)),(4,some (.seq 136 (cw es r.at_.toNat (elQ (lfI r) 8 - 0).toNat)))]
 else .fail else .ret (.bool false) []else .fail:=by cases b1 <;> cases b2 <;> kernel_rfl
theorem HL{es:List SV}{s m:Nat}:∀ (k j:Nat),j+8 * k<=m->cw es (s+j) k=cw (sl es s m) j k
 | 0,_,_=>rfl
 | k+1,j,h=>by
  rw[cw,cw,Nat.add_assoc,HL (m:=m) k (j+8) (by omega)]
  congr 3
  unfold sl
  rw[List.drop_take,List.drop_drop,List.take_take,Nat.min_eq_left (by omega)]
def Au(v:List SV):Bool:=elB (v.length:Int) 8 64
def kmG(v:List SV)(d:Ds):Ds:={d with cm:=cw v 0 (v.length / 8)}
theorem My   :Known Tryz.prog 125 (lM   (fun pb cb mb=>mb) Au   kmG id id (fun _=>false)):=rI    JM     (by
 intro s t n es off fl cd pb cb mb d ho hp
 have hpb:mb=true:=hp
 subst hpb
 have ht:=Mx (RD s t) n es off fl cd pb cb d
 have hl:=ho.len
 have hoo:=ho
 obtain⟨h1,h2,h3,h4,h5⟩:=ho
 have hL:lfI (RD s t)=((t - s:Nat):Int):=by have:=iR (s:=s) (t:=t) (k:=0) (by omega) (by omega);simpa using this
 simp only[show(RD s t).at_.toNat=s from rfl,show(RD s t).end_.toNat=t from rfl]at ht
 rw[dec_iff.2 trivial,cT,hL]at ht
 cases hok:Au (vl es s t)with
 | false=>
  have hb:elB ((t - s:Nat):Int) 8 64=false:=by unfold Au at hok;rw[hl]at hok;exact hok
  rw[hb,cF]at ht
  exact⟨_,_,congrArg ae ht,.inr ⟨.rfl',nO (c3:=dC pb cb true d) pT rfl (fun x h0 h6=>rfl)⟩⟩
 | true=>
  have hb:elB ((t - s:Nat):Int) 8 64=true:=by unfold Au at hok;rw[hl]at hok;exact hok
  obtain⟨b1,b2,b3⟩:=(rU (k:=t - s) (by omega) (z:=8) (m:=64) (by omega)).1 hb
  have hq:elQ ((t - s:Nat):Int) 8=(((t - s) / 8:Nat):Int):=vk _ (by omega) 8 (by omega)
  have hG:kmG (vl es s t) d={d with cm:=cw es s ((t - s) / 8)}:=by
   unfold kmG
   rw[hl]
   have:=HL (es:=es) (s:=s) (m:=t - s) ((t - s) / 8) 0 (by omega)
   rw[Nat.add_zero]at this
   rw[this];rfl
  rw[hG,cT]
  generalize hk:(t - s) / 8=k at *
  rw[hb,cT,hq,dec_iff.2 ⟨⟨⟨h1,h2,h3,h4,h5⟩,by omega,by omega,by omega,by omega⟩,by omega⟩,cT]at ht
  refine⟨_,_,congrArg ae ht,.inl ⟨4,136,cw es s k,rfl,.rfl',fun x c' hx=> ?_⟩⟩
  simp only[ad]at hx
  by_cases x0:x=0
  . rw[if_pos x0]at hx;cases hx
  . rw[if_neg x0]at hx
    by_cases x3:x=3
    . subst x3;rw[if_pos rfl]at hx;cases hx
      exact⟨by decide,_,rfl,.cells (.cons .rfl' (.cons .rfl' (.cons .rfl' (.cons .rfl' (.cons .rfl' (.cons .rfl' (.cons .rfl' (.cons .rfl' (.cons .rfl' (.cons .rfl' (.cons (.qs (by rw[Cy];omega)) .rfl')))))))))))⟩
    . rw[if_neg x3]at hx
      have x4:x≠4:=by rintro rfl;cases hx
      exact⟨x4,c',by simp only[ad,x0,x3,x4,if_false];exact hx,.rfl'⟩)
def vS(es:List SV)(a:Nat):Nat:=a+hdN es a
def vE(es:List SV)(a:Nat):Nat:=a+hdN es a+lnN es a
def cz(es:List SV)(a:Nat):Int:=dg es (a+1)
def knC(g:Int):Bool:=bif g==1 then true else bif g==2 then true else bif g==4 then true else bif g==5 then true else bif g==9 then true else bif g==10 then true else bif g==14 then true else bif g==15 then true else bif g==16 then true else g==22
noncomputable def kY(g:Int):ag:=fun args H=>match args with
 | [.ptr 0 0]=>match rOf H with
  | some (r,n,es)=>.ite (dec (r=RD r.at_.toNat n/\cdN es r.at_.toNat n/\okN es r.at_.toNat n/\cz es r.at_.toNat=g))
    (.ret (.tup [.agg [.ptr 2 0,.int .i64 (r.at_.toNat:Int),.int .u8 (dg es r.at_.toNat),.int .u8 g],.bool true]) [(0,some (rC (RD (vE es r.at_.toNat) n) n)),(2,some (rC (RD (vS es r.at_.toNat) (vE es r.at_.toNat)) n))]) .fail
  | none=>.fail
 | _=>.fail
theorem Om  (g:Int):Known Tryz.prog 98 (kY   g):=(aj        nOk Tryz.func98 rfl).weak (by
 intro args H v ups h
 unfold kY at h
 split at h
 . split at h
   . rename_i r n es hr
     rw[aa]at h
     cases hc:dec _ with
     | false=>rw[hc]at h;cases h
     | true=>
      rw[hc,cT]at h
      obtain⟨h1,h2,h3,h4⟩:=dec_iff.1 hc
      rw[nS hr,h1]
      subst h4
      exact(congrArg ae (ve h2 h3)).trans h
   . cases h
 . cases h)
noncomputable def KO:ag:=fun args H=>match args with
 | [.ptr 0 0]=>match rOf H with
  | some (r,n,es)=>.ite (dec (r=RD r.at_.toNat n/\cdN es r.at_.toNat n/\okN es r.at_.toNat n/\knC (cz es r.at_.toNat)=false))
    (.ret (.tup [.agg [.ptr 2 0,.int .i64 (r.at_.toNat:Int),.int .u8 (dg es r.at_.toNat),.int .u8 (cz es r.at_.toNat)],.bool true]) [(0,some (rC (RD (vE es r.at_.toNat) n) n)),(2,some (rC (RD (vS es r.at_.toNat) (vE es r.at_.toNat)) n))]) .fail
  | none=>.fail
 | _=>.fail
theorem nu_k:Known Tryz.prog 98 KO  :=(aj        nOk Tryz.func98 rfl).weak (by
 intro args H v ups h
 unfold KO at h
 split at h
 . split at h
   . rename_i r n es hr
     rw[aa]at h
     cases hc:dec _ with
     | false=>rw[hc]at h;cases h
     | true=>
      rw[hc,cT]at h
      obtain⟨h1,h2,h3,h4⟩:=dec_iff.1 hc
      rw[nS hr,h1]
      exact(congrArg ae (ve h2 h3)).trans h
   . cases h
 . cases h)
noncomputable def wj(es:List SV)(a n:Nat):Int × Int × Rd:=by
 classical
 exact if h:∃ q:Int × Int × Rd,∃ c,opn κn Tryz.f98 [.ptr 0 0] (rH (RD a n) n es)= .ret (.tup [.agg [.ptr 2 0,.int .i64 a,.int .u8 q.1,.int .u8 q.2.1],.bool false]) [(0,some (rC q.2.2 n)),(2,some c)]then Classical.choose h else(0,0,RD 0 0)
theorem GQ{es:List SV}{a n:Nat}(hc:cdN es a n)(ho:¬ okN es a n):∃ c,opn κn Tryz.f98 [.ptr 0 0] (rH (RD a n) n es)= .ret (.tup [.agg [.ptr 2 0,.int .i64 a,.int .u8 (wj es a n).1,.int .u8 (wj es a n).2.1],.bool false]) [(0,some (rC (wj es a n).2.2 n)),(2,some c)]:=by
 have h:∃ q:Int × Int × Rd,∃ c,opn κn Tryz.f98 [.ptr 0 0] (rH (RD a n) n es)= .ret (.tup [.agg [.ptr 2 0,.int .i64 a,.int .u8 q.1,.int .u8 q.2.1],.bool false]) [(0,some (rC q.2.2 n)),(2,some c)]:=by
  obtain⟨f,g,c,r',h⟩:=FM hc ho
  exact⟨(f,g,r'),c,h⟩
 unfold wj
 rw[dif_pos h]
 exact Classical.choose_spec h
noncomputable def D1:ag:=fun args H=>match args with
 | [.ptr 0 0]=>match rOf H with
  | some (r,n,es)=>.ite (dec (r=RD r.at_.toNat n/\cdN es r.at_.toNat n/\¬ okN es r.at_.toNat n))
    (.ret (.tup [.agg [.ptr 2 0,.int .i64 (r.at_.toNat:Int),.int .u8 (wj es r.at_.toNat n).1,.int .u8 (wj es r.at_.toNat n).2.1],.bool false]) [(0,some (rC (wj es r.at_.toNat n).2.2 n))]) .fail
  | none=>.fail
 | _=>.fail
theorem On  :Known Tryz.prog 98 D1  :=bw         (aj        nOk Tryz.func98 rfl) (by
 intro args H v ups h
 unfold D1 at h
 split at h
 . split at h
   . rename_i r n es hr
     rw[aa]at h
     cases hc:dec _ with
     | false=>rw[hc]at h;cases h
     | true=>
      rw[hc,cT]at h
      obtain⟨h1,h2,h3⟩:=dec_iff.1 hc
      rw[nS hr,h1]
      obtain⟨c,ht⟩:=GQ h2 h3
      cases h
      refine⟨_,_,congrArg ae ht,.inr ⟨.rfl',fun x c' hx=>⟨c',?_,.rfl'⟩⟩⟩
      simp only[ad]at hx ⊢
      by_cases x2:x=2
      . subst x2;rw[if_neg (by decide)]at hx;cases hx
      . rw[if_neg x2];exact hx
   . cases h
 . cases h)
end Go.Proofs.YtnlmhpancboddaaGreat
