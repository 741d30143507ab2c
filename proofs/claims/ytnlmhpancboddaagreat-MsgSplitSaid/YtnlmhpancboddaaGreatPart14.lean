/- Attributes are read: clusters, the loop's round. -/
import Derived.Test.YtnlmhpancboddaaGreatPart13
set_option linter.unusedVariables false
set_option linter.unusedSimpArgs false
namespace Go.Proofs.YtnlmhpancboddaaGreat
open Go.Am
set_option maxRecDepth 100000
noncomputable def Ew:Code:=Tryz.f118.body.getD .skip
noncomputable def c58:Code:=(bv 3 Ew).getD .skip
def klX(q:SV)(b1 b2:Bool)(d:Ds):Chunk:=dLx (nz b1 36 d.path) q (nz b2 136 d.cm) d
def klA(r:Rd)(n:Nat)(es:List SV)(x:Ax)(b1 b2:Bool)(d:Ds):HpL:=[(0,.cells 203 [.ptr 1 0]),(1,klX .nils b1 b2 d),(2,aC 3 x),(3,rCk 4 r n),(4,.seq 5 es)]
def klB(r:Rd)(n:Nat)(es:List SV)(x:Ax)(b1 b2:Bool)(d:Ds)(j:Nat)(l:List SV):HpL:=[(0,.cells 203 [.ptr 1 0]),(1,klX (.qs 2 1 0 j) b1 b2 d),(2,.seq 37 l),(3,aC 4 x),(4,rCk 5 r n),(5,.seq 5 es)]
noncomputable def Hg  :ag   :=fun args H=>match args,H with
 | [.ptr 0 0,.ptr 2 0,.int .i64 m,.bool ok,.int .i64 i],[(0,.cells 203 _),(1,.cells 177 cs),(2,.cells 182 [_,.int .i64 off,.int .u8 fl,.int .u8 cd]),(3,.cells 157 [.int .i64 a,.int .i64 e,.qs 4 1 0 n,_,_,_]),(4,.seq 5 es)]=>
  match dQ cs with
  | some (b1,_,b2,d)=>.ite (dec (H=klA (RD a.toNat e.toNat) n es ⟨off,fl,cd⟩ b1 b2 d))
    (.ite ok (.ite (dec (pOk 4 a.toNat e.toNat n es m i/\i < m)) (.ret (.tup [.int .i64 2,.bool true]) [(1,some (klX (.qs 5 1 0 (m - i).toNat) b1 b2 d)),(3,some (rCk 4 (RD (a.toNat+4 * (m - i).toNat) e.toNat) n)),(5,some (.seq 37 (wd es a.toNat (m - i).toNat)))]) .fail)
     (.ret (.tup [.int .i64 2,.bool false]) [])) .fail
  | none=>.fail
 | [.ptr 0 0,.ptr 3 0,.int .i64 m,.bool ok,.int .i64 i],[(0,.cells 203 _),(1,.cells 177 cs),(2,.seq 37 l),(3,.cells 182 [_,.int .i64 off,.int .u8 fl,.int .u8 cd]),(4,.cells 157 [.int .i64 a,.int .i64 e,.qs 5 1 0 n,_,_,_]),(5,.seq 5 es)]=>
  match dQ cs with
  | some (b1,_,b2,d)=>.ite (dec (H=klB (RD a.toNat e.toNat) n es ⟨off,fl,cd⟩ b1 b2 d l.length l/\ok=true/\pOk 4 a.toNat e.toNat n es m i/\l.length+(m - i).toNat<=2000))
    (.ret (.tup [.int .i64 2,.bool true]) [(1,some (klX (.qs 6 1 0 (l.length+(m - i).toNat)) b1 b2 d)),(2,none),(4,some (rCk 5 (RD (a.toNat+4 * (m - i).toNat) e.toNat) n)),(6,some (.seq 37 (l++wd es a.toNat (m - i).toNat)))]) .fail
  | none=>.fail
 | _,_=>.fail
def klM:List SV->HpL->Nat
 | [_,_,.int _ m,_,.int _ i],_=>(m - i).toNat
 | _,_=>0
noncomputable def e58:LEnt:={ins:=[1,2,4,5,6],outs:=[5],keep:=[],size:=36,code:=c58,s:=Hg}
noncomputable def Hh(N q:Nat)(r:Rd)(n:Nat)(es:List SV)(x:Ax)(b1 b2:Bool)(d:Ds)(ok:Bool)(m i:Int)(j:Nat)(l:List SV)(K:Chunk->Rd->List SV->CTree):CTree:=
 bif Nat.blt (m - i).toNat N then bif dec (klB r n es x b1 b2 d j l=klB (RD r.at_.toNat r.end_.toNat) n es x b1 b2 d l.length l/\ok=true/\pOk 4 r.at_.toNat r.end_.toNat n es m i/\l.length+(m - i).toNat<=2000)then
  K (klX (.qs q 1 0 (l.length+(m - i).toNat)) b1 b2 d) (RD (r.at_.toNat+4 * (m - i).toNat) r.end_.toNat) (l++wd es r.at_.toNat (m - i).toNat)
 else .fail else .fail
noncomputable def Hi(r:Rd)(n:Nat)(es:List SV)(K:SV->CTree):CTree:=bif dec (OkRd r es/\n=es.length)then K (.int .u32 (w3 (r.num es 4)))else .fail
theorem OU(N:Nat)(r:Rd)(n:Nat)(es:List SV)(x:Ax)(b1 b2:Bool)(d:Ds)(ok:Bool)(m i:Int):av Tryz.prog κy ιy (aF []) true 300 e58 {e58 with s:=ay klM Hg N} c58 [.ptr 0 0,.ptr 2 0,.int .i64 m,.bool ok,.int .i64 i] (klA r n es x b1 b2 d)=
 bif(bif ok then decide (i < m)else false)then Hi r n es (fun v=>Hh N 5 (r.adv 4) n es x b1 b2 d ok m (IntKind.i64.wrap (i+1)) 1 [v] (fun c r' l'=>.ret (.tup [.int .i64 2,.bool true]) [(1,some c),(3,some (rCk 4 r' n)),(5,some (.seq 37 l'))]))
 else .ret (.tup [.int .i64 2,.bool ok]) []:=by cases b1 <;> cases b2 <;> kernel_rfl
theorem OV(N:Nat)(r:Rd)(n:Nat)(es:List SV)(x:Ax)(b1 b2:Bool)(d:Ds)(ok:Bool)(m i:Int)(j:Nat)(l:List SV):av Tryz.prog κy ιy (aF []) true 300 e58 {e58 with s:=ay klM Hg N} c58 [.ptr 0 0,.ptr 3 0,.int .i64 m,.bool ok,.int .i64 i] (klB r n es x b1 b2 d j l)=
 bif(bif ok then decide (i < m)else false)then Hi r n es (fun v=>bif decide (j=l.length)then bif decide (l.length+1<=9223372036854775807)&&decide ((l.length+1) * 4<=140737488355328)then Hh N 6 (r.adv 4) n es x b1 b2 d ok m (IntKind.i64.wrap (i+1)) (l.length+1) (l++[v]) (fun c r' l'=>.ret (.tup [.int .i64 2,.bool true]) [(1,some c),(2,none),(4,some (rCk 5 r' n)),(6,some (.seq 37 l'))])
 else .fail else .fail)else .ret (.tup [.int .i64 2,.bool ok]) []:=by cases b1 <;> cases b2 <;> kernel_rfl
noncomputable def Ce:Code:=Tryz.f125.body.getD .skip
noncomputable def c66:Code:=(bv 3 Ce).getD .skip
def kmX(q:SV)(b1 b2:Bool)(d:Ds):Chunk:=dLx (nz b1 36 d.path) (nz b2 37 d.cl) q d
def kmA(r:Rd)(n:Nat)(es:List SV)(x:Ax)(b1 b2:Bool)(d:Ds):HpL:=[(0,.cells 203 [.ptr 1 0]),(1,kmX .nils b1 b2 d),(2,aC 3 x),(3,rCk 4 r n),(4,.seq 5 es)]
def kmB(r:Rd)(n:Nat)(es:List SV)(x:Ax)(b1 b2:Bool)(d:Ds)(j:Nat)(l:List SV):HpL:=[(0,.cells 203 [.ptr 1 0]),(1,kmX (.qs 2 8 0 j) b1 b2 d),(2,.seq 136 l),(3,aC 4 x),(4,rCk 5 r n),(5,.seq 5 es)]
noncomputable def FF  :ag   :=fun args H=>match args,H with
 | [.ptr 0 0,.ptr 2 0,.int .i64 m,.bool ok,.int .i64 i],[(0,.cells 203 _),(1,.cells 177 cs),(2,.cells 182 [_,.int .i64 off,.int .u8 fl,.int .u8 cd]),(3,.cells 157 [.int .i64 a,.int .i64 e,.qs 4 1 0 n,_,_,_]),(4,.seq 5 es)]=>
  match dQ cs with
  | some (b1,b2,_,d)=>.ite (dec (H=kmA (RD a.toNat e.toNat) n es ⟨off,fl,cd⟩ b1 b2 d))
    (.ite ok (.ite (dec (pOk 8 a.toNat e.toNat n es m i/\i < m)) (.ret (.tup [.int .i64 2,.bool true]) [(1,some (kmX (.qs 5 8 0 (m - i).toNat) b1 b2 d)),(3,some (rCk 4 (RD (a.toNat+8 * (m - i).toNat) e.toNat) n)),(5,some (.seq 136 (cw es a.toNat (m - i).toNat)))]) .fail)
     (.ret (.tup [.int .i64 2,.bool false]) [])) .fail
  | none=>.fail
 | [.ptr 0 0,.ptr 3 0,.int .i64 m,.bool ok,.int .i64 i],[(0,.cells 203 _),(1,.cells 177 cs),(2,.seq 136 l),(3,.cells 182 [_,.int .i64 off,.int .u8 fl,.int .u8 cd]),(4,.cells 157 [.int .i64 a,.int .i64 e,.qs 5 1 0 n,_,_,_]),(5,.seq 5 es)]=>
  match dQ cs with
  | some (b1,b2,_,d)=>.ite (dec (H=kmB (RD a.toNat e.toNat) n es ⟨off,fl,cd⟩ b1 b2 d l.length l/\ok=true/\pOk 8 a.toNat e.toNat n es m i/\l.length+(m - i).toNat<=2000))
    (.ret (.tup [.int .i64 2,.bool true]) [(1,some (kmX (.qs 6 8 0 (l.length+(m - i).toNat)) b1 b2 d)),(2,none),(4,some (rCk 5 (RD (a.toNat+8 * (m - i).toNat) e.toNat) n)),(6,some (.seq 136 (l++cw es a.toNat (m - i).toNat)))]) .fail
  | none=>.fail
 | _,_=>.fail
def kmM:List SV->HpL->Nat
 | [_,_,.int _ m,_,.int _ i],_=>(m - i).toNat
 | _,_=>0
noncomputable def e66:LEnt:={ins:=[1,2,4,5,6],outs:=[5],keep:=[],size:=37,code:=c66,s:=FF}
noncomputable def FG(N q:Nat)(r:Rd)(n:Nat)(es:List SV)(x:Ax)(b1 b2:Bool)(d:Ds)(ok:Bool)(m i:Int)(j:Nat)(l:List SV)(K:Chunk->Rd->List SV->CTree):CTree:=
 bif Nat.blt (m - i).toNat N then bif dec (kmB r n es x b1 b2 d j l=kmB (RD r.at_.toNat r.end_.toNat) n es x b1 b2 d l.length l/\ok=true/\pOk 8 r.at_.toNat r.end_.toNat n es m i/\l.length+(m - i).toNat<=2000)then
  K (kmX (.qs q 8 0 (l.length+(m - i).toNat)) b1 b2 d) (RD (r.at_.toNat+8 * (m - i).toNat) r.end_.toNat) (l++cw es r.at_.toNat (m - i).toNat)
 else .fail else .fail
noncomputable def FH(r:Rd)(n:Nat)(es:List SV)(K:SV->CTree):CTree:=bif dec (OkRd r es/\n=es.length/\(0:Int)<=8/\(8:Int)<=1000000)then bif decide (8<=(r.sub es 8).length)then K (.agg (du (r.sub es 8) 0 8))else .fail else .fail
theorem NY(N:Nat)(r:Rd)(n:Nat)(es:List SV)(x:Ax)(b1 b2:Bool)(d:Ds)(ok:Bool)(m i:Int):av Tryz.prog κy ιy (aF []) true 300 e66 {e66 with s:=ay kmM FF N} c66 [.ptr 0 0,.ptr 2 0,.int .i64 m,.bool ok,.int .i64 i] (kmA r n es x b1 b2 d)=
 bif(bif ok then decide (i < m)else false)then FH r n es (fun v=>FG N 5 (r.adv 8) n es x b1 b2 d ok m (IntKind.i64.wrap (i+1)) 1 [v] (fun c r' l'=>.ret (.tup [.int .i64 2,.bool true]) [(1,some c),(3,some (rCk 4 r' n)),(5,some (.seq 136 l'))]))
 else .ret (.tup [.int .i64 2,.bool ok]) []:=by cases b1 <;> cases b2 <;> kernel_rfl
theorem NZ(N:Nat)(r:Rd)(n:Nat)(es:List SV)(x:Ax)(b1 b2:Bool)(d:Ds)(ok:Bool)(m i:Int)(j:Nat)(l:List SV):av Tryz.prog κy ιy (aF []) true 300 e66 {e66 with s:=ay kmM FF N} c66 [.ptr 0 0,.ptr 3 0,.int .i64 m,.bool ok,.int .i64 i] (kmB r n es x b1 b2 d j l)=
 bif(bif ok then decide (i < m)else false)then FH r n es (fun v=>bif decide (j=l.length)then bif decide (l.length+1<=9223372036854775807)&&decide ((l.length+1) * 8<=140737488355328)then FG N 6 (r.adv 8) n es x b1 b2 d ok m (IntKind.i64.wrap (i+1)) (l.length+1) (l++[v]) (fun c r' l'=>.ret (.tup [.int .i64 2,.bool true]) [(1,some c),(2,none),(4,some (rCk 5 r' n)),(6,some (.seq 136 l'))])
 else .fail else .fail)else .ret (.tup [.int .i64 2,.bool ok]) []:=by cases b1 <;> cases b2 <;> kernel_rfl
theorem Ka{r:Rd}{n:Nat}{es:List SV}{x:Ax}{b1 b2:Bool}{d:Ds}{j:Nat}{l:List SV}:∀ y c,(klB r n es x b1 b2 d j l).get y=some c->6 ∉ aJ c:=by
 intro y c hx
 have:=aQ _ _ _ hx
 simp only[klB,List.mem_cons,pJ,List.not_mem_nil,or_false]at this
 rcases this with ⟨_,rfl⟩ | ⟨_,rfl⟩ | ⟨_,rfl⟩ | ⟨_,rfl⟩ | ⟨_,rfl⟩ | ⟨_,rfl⟩ <;> cases b1 <;> cases b2 <;> simp[aJ,az,aj,klX,dLx,aC,rCk,nz]
theorem GT{r:Rd}{n:Nat}{es:List SV}{x:Ax}{b1 b2:Bool}{d:Ds}{j:Nat}{l:List SV}:bN (klB r n es x b1 b2 d j l) (.tup [.int .i64 2,.bool true]) [] (.tup [.int .i64 2,.bool true]) [(1,some (klX (.qs 6 1 0 j) b1 b2 d)),(2,none),(4,some (rCk 5 r n)),(6,some (.seq 37 l))]:=by
 refine⟨2,6,by simp[klB],by simp[aj,az],Ka,rfl,fun y=> ?_⟩
 match y with
 | 0=>rfl
 | 1=>cases b1 <;> cases b2 <;> rfl
 | 2=>rfl
 | 3=>rfl
 | 4=>rfl
 | 5=>rfl
 | 6=>rfl
 | y+7=>
  have h2:∀ k,k < 7->Nat.beq k (y+7)=false:=fun k hk=>bK (by omega)
  have h1:∀ k,k < 7->¬ (y+7=k):=fun k hk=>by omega
  simp only[ad,klB,HpL.get,h1 6 (by omega),h1 4 (by omega),h1 2 (by omega),h1 1 (by omega),if_false,h2 0 (by omega),h2 1 (by omega),h2 2 (by omega),h2 3 (by omega),h2 4 (by omega),h2 5 (by omega),cF,Option.map_none]
theorem zb{s t n:Nat}{es:List SV}(h1:byl es)(h2:n=es.length)(hr:OkRd (RD s t) es)(hq:s+4<=t){K:SV->CTree}:Hi (RD s t) n es K=K (.int .u32 (tkN es s 4)):=by
 obtain⟨k1,k2⟩:=aX h1.ok s 4
 unfold Hi
 rw[dec_iff.2 ⟨hr,h2⟩,cT,bi hq,bc k1 (Int.lt_of_lt_of_le k2 (by decide))]
theorem zd{N q s t n:Nat}{es:List SV}{x:Ax}{b1 b2:Bool}{d:Ds}{ok:Bool}{m i:Int}{j:Nat}{l:List SV}(hN:(m - i).toNat < N)(hj:j=l.length)(hok:ok=true)(hl:l.length+(m - i).toNat<=2000)(h:pOk 4 s t n es m i)(K:Chunk->Rd->List SV->CTree):
  Hh N q (RD s t) n es x b1 b2 d ok m i j l K=K (klX (.qs q 1 0 (l.length+(m - i).toNat)) b1 b2 d) (RD (s+4 * (m - i).toNat) t) (l++wd es s (m - i).toNat):=by
 unfold Hh
 rw[show Nat.blt (m - i).toNat N=true by rw[bL];exact hN,dec_iff.2 ⟨by subst hj;rfl,hok,by simpa [RD]using h,hl⟩]
 rfl
theorem DN      :aO     Tryz.prog e58:=bG          (κ:=κy) (ι:=ιy) (T:=aF   []) (sp:=true) (fuel:=300) (c:=c58) (μ:=klM) (aL       ak       aq     CB    300 5) aq     aE       (show aN    (aF   []) c58=c58 by kernel_rfl) (by
 intro N args H v' ups' hbt h
 unfold e58 Hg at h
 simp only[]at h
 split at h
 . rename_i m ok i x0 cs x1 off fl cd a e n x2 x3 x4 es
   split at h
   . rename_i y1 y2 y3 d hd
     rw[aa]at h
     cases hc:dec _ with
     | false=>rw[hc]at h;cases h
     | true=>
      rw[hc,cT,aa]at h
      have hH:=dec_iff.1 hc
      rw[hH]
      have hrd:=OU N (RD a.toNat e.toNat) n es ⟨off,fl,cd⟩ y1 y3 d ok m i
      generalize a.toNat=s at *
      generalize e.toNat=t at *
      cases ok with
      | false=>
       rw[cF,cF]at hrd
       rw[cF]at h
       cases h
       exact .inl ⟨_,congrArg ac hrd,fun x=>rfl⟩
      | true=>
       rw[cT,aa]at h
       cases hc2:dec (pOk 4 s t n es m i/\i < m)with
       | false=>rw[hc2]at h;cases h
       | true=>
        rw[hc2,cT]at h
        obtain⟨hp,hlt⟩:=dec_iff.1 hc2
        obtain⟨q1,q2,q3⟩:=hp.next hlt
        have hr:=hp.1.rd
        obtain⟨⟨h1,h2,h3,h4,h5⟩,h6,h7,h8,h9⟩:=hp
        have hN:Nat.blt (m - i).toNat (N+1)=true:=hbt
        rw[bL]at hN
        rw[cT,dT0 hlt,cT,zb h1 h2 hr q2,aW q2,ai (by omega) (by omega),zd (j:=1) (l:=[SV.int IntKind.u32 (tkN es s 4)]) (by omega) rfl rfl (by simp;omega) q1]at hrd
        cases h
        refine .inl ⟨_,congrArg ac hrd,fun x=> ?_⟩
        rw[tQ (j:=(m - i).toNat) (by omega),show(m - i).toNat - 1=(m - (i+1)).toNat by omega,show(m - i).toNat=(m - (i+1)).toNat+1 by omega,show s+4 * ((m - (i+1)).toNat+1)=s+4+4 * (m - (i+1)).toNat by omega,Nat.add_comm _ 1]
        rfl
   . cases h
 . rename_i m ok i x0 cs l x1 off fl cd a e n x2 x3 x4 es
   split at h
   . rename_i y1 y2 y3 d hd
     rw[aa]at h
     cases hc:dec _ with
     | false=>rw[hc]at h;cases h
     | true=>
      rw[hc,cT]at h
      obtain⟨hH,hok,hp,hl⟩:=dec_iff.1 hc
      subst hok
      rw[hH]
      have hrd:=OV N (RD a.toNat e.toNat) n es ⟨off,fl,cd⟩ y1 y3 d true m i l.length l
      generalize a.toNat=s at *
      generalize e.toNat=t at *
      rw[cT]at hrd
      by_cases hlt:i < m
      . obtain⟨q1,q2,q3⟩:=hp.next hlt
        have hr:=hp.1.rd
        obtain⟨⟨h1,h2,h3,h4,h5⟩,h6,h7,h8,h9⟩:=hp
        have hN:Nat.blt (m - i).toNat (N+1)=true:=hbt
        rw[bL]at hN
        rw[dT0 hlt,cT,zb h1 h2 hr q2,dT0 rfl,cT,dT0 (show l.length+1<=9223372036854775807 by omega),dT0 (show(l.length+1) * 4<=140737488355328 by omega),Bool.and_self,cT,aW q2,ai (by omega) (by omega),zd (j:=l.length+1) (l:=l++[SV.int IntKind.u32 (tkN es s 4)]) (by omega) (by simp) rfl (by simp;omega) q1]at hrd
        cases h
        refine .inl ⟨_,congrArg ac hrd,fun x=> ?_⟩
        rw[tQ (j:=(m - i).toNat) (by omega),show(m - i).toNat - 1=(m - (i+1)).toNat by omega,show(m - i).toNat=(m - (i+1)).toNat+1 by omega,show s+4 * ((m - (i+1)).toNat+1)=s+4+4 * (m - (i+1)).toNat by omega,lA0,aA]
        simp only[lS,List.singleton_append,Nat.add_assoc,Nat.add_comm 1]
      . have hm:m=i:=by have:=hp.2.2.1;omega
        subst hm
        rw[dF hlt,cF]at hrd
        cases h
        refine .inr ⟨_,_,congrArg ac hrd,?_⟩
        rw[show(m - m).toNat=0 by omega]
        simp only[wd,List.append_nil,Nat.add_zero,Nat.mul_zero]
        exact GT
   . cases h
 . cases h)
theorem JG{r:Rd}{n:Nat}{es:List SV}{x:Ax}{b1 b2:Bool}{d:Ds}{j:Nat}{l:List SV}:∀ y c,(kmB r n es x b1 b2 d j l).get y=some c->6 ∉ aJ c:=by
 intro y c hx
 have:=aQ _ _ _ hx
 simp only[kmB,List.mem_cons,pJ,List.not_mem_nil,or_false]at this
 rcases this with ⟨_,rfl⟩ | ⟨_,rfl⟩ | ⟨_,rfl⟩ | ⟨_,rfl⟩ | ⟨_,rfl⟩ | ⟨_,rfl⟩ <;> cases b1 <;> cases b2 <;> simp[aJ,az,aj,kmX,dLx,aC,rCk,nz]
theorem Gl{r:Rd}{n:Nat}{es:List SV}{x:Ax}{b1 b2:Bool}{d:Ds}{j:Nat}{l:List SV}:bN (kmB r n es x b1 b2 d j l) (.tup [.int .i64 2,.bool true]) [] (.tup [.int .i64 2,.bool true]) [(1,some (kmX (.qs 6 8 0 j) b1 b2 d)),(2,none),(4,some (rCk 5 r n)),(6,some (.seq 136 l))]:=by
 refine⟨2,6,by simp[kmB],by simp[aj,az],JG,rfl,fun y=> ?_⟩
 match y with
 | 0=>rfl
 | 1=>cases b1 <;> cases b2 <;> rfl
 | 2=>rfl
 | 3=>rfl
 | 4=>rfl
 | 5=>rfl
 | 6=>rfl
 | y+7=>
  have h2:∀ k,k < 7->Nat.beq k (y+7)=false:=fun k hk=>bK (by omega)
  have h1:∀ k,k < 7->¬ (y+7=k):=fun k hk=>by omega
  simp only[ad,kmB,HpL.get,h1 6 (by omega),h1 4 (by omega),h1 2 (by omega),h1 1 (by omega),if_false,h2 0 (by omega),h2 1 (by omega),h2 2 (by omega),h2 3 (by omega),h2 4 (by omega),h2 5 (by omega),cF,Option.map_none]
theorem De{es:List SV}{s j:Nat}(h:0 < j):cw es s j= .agg (du (sl es s 8) 0 8) :: cw es (s+8) (j - 1):=by
 obtain⟨k,rfl⟩:∃ k,j=k+1:=⟨j - 1,by omega⟩
 rfl
theorem yz{s t n:Nat}{es:List SV}(h1:byl es)(h2:n=es.length)(hr:OkRd (RD s t) es)(hq:s+8<=t){K:SV->CTree}:FH (RD s t) n es K=K (.agg (du (sl es s 8) 0 8)):=by
 unfold FH
 have ht:t<=es.length:=by have:=hr.3;simpa [RD]using this
 have hs:(RD s t).sub es 8=sl es s 8:=iC hq
 rw[dec_iff.2 ⟨hr,h2,by decide,by decide⟩,cT,hs,dK (by omega),dT0 (by decide),cT]
theorem yA{N q s t n:Nat}{es:List SV}{x:Ax}{b1 b2:Bool}{d:Ds}{ok:Bool}{m i:Int}{j:Nat}{l:List SV}(hN:(m - i).toNat < N)(hj:j=l.length)(hok:ok=true)(hl:l.length+(m - i).toNat<=2000)(h:pOk 8 s t n es m i)(K:Chunk->Rd->List SV->CTree):
  FG N q (RD s t) n es x b1 b2 d ok m i j l K=K (kmX (.qs q 8 0 (l.length+(m - i).toNat)) b1 b2 d) (RD (s+8 * (m - i).toNat) t) (l++cw es s (m - i).toNat):=by
 unfold FG
 rw[show Nat.blt (m - i).toNat N=true by rw[bL];exact hN,dec_iff.2 ⟨by subst hj;rfl,hok,by simpa [RD]using h,hl⟩]
 rfl
theorem Df      :aO     Tryz.prog e66:=bG          (κ:=κy) (ι:=ιy) (T:=aF   []) (sp:=true) (fuel:=300) (c:=c66) (μ:=kmM) (aL       ak       aq     CB    300 5) aq     aE       (show aN    (aF   []) c66=c66 by kernel_rfl) (by
 intro N args H v' ups' hbt h
 unfold e66 FF at h
 simp only[]at h
 split at h
 . rename_i m ok i x0 cs x1 off fl cd a e n x2 x3 x4 es
   split at h
   . rename_i y1 y2 y3 d hd
     rw[aa]at h
     cases hc:dec _ with
     | false=>rw[hc]at h;cases h
     | true=>
      rw[hc,cT,aa]at h
      have hH:=dec_iff.1 hc
      rw[hH]
      have hrd:=NY N (RD a.toNat e.toNat) n es ⟨off,fl,cd⟩ y1 y2 d ok m i
      generalize a.toNat=s at *
      generalize e.toNat=t at *
      cases ok with
      | false=>
       rw[cF,cF]at hrd
       rw[cF]at h
       cases h
       exact .inl ⟨_,congrArg ac hrd,fun x=>rfl⟩
      | true=>
       rw[cT,aa]at h
       cases hc2:dec (pOk 8 s t n es m i/\i < m)with
       | false=>rw[hc2]at h;cases h
       | true=>
        rw[hc2,cT]at h
        obtain⟨hp,hlt⟩:=dec_iff.1 hc2
        obtain⟨q1,q2,q3⟩:=hp.next hlt
        have hr:=hp.1.rd
        obtain⟨⟨h1,h2,h3,h4,h5⟩,h6,h7,h8,h9⟩:=hp
        have hN:Nat.blt (m - i).toNat (N+1)=true:=hbt
        rw[bL]at hN
        rw[cT,dT0 hlt,cT,yz h1 h2 hr q2,aW q2,ai (by omega) (by omega),yA (j:=1) (l:=[SV.agg (du (sl es s 8) 0 8)]) (by omega) rfl rfl (by simp;omega) q1]at hrd
        cases h
        refine .inl ⟨_,congrArg ac hrd,fun x=> ?_⟩
        rw[De (j:=(m - i).toNat) (by omega),show(m - i).toNat - 1=(m - (i+1)).toNat by omega,show(m - i).toNat=(m - (i+1)).toNat+1 by omega,show s+8 * ((m - (i+1)).toNat+1)=s+8+8 * (m - (i+1)).toNat by omega,Nat.add_comm _ 1]
        rfl
   . cases h
 . rename_i m ok i x0 cs l x1 off fl cd a e n x2 x3 x4 es
   split at h
   . rename_i y1 y2 y3 d hd
     rw[aa]at h
     cases hc:dec _ with
     | false=>rw[hc]at h;cases h
     | true=>
      rw[hc,cT]at h
      obtain⟨hH,hok,hp,hl⟩:=dec_iff.1 hc
      subst hok
      rw[hH]
      have hrd:=NZ N (RD a.toNat e.toNat) n es ⟨off,fl,cd⟩ y1 y2 d true m i l.length l
      generalize a.toNat=s at *
      generalize e.toNat=t at *
      rw[cT]at hrd
      by_cases hlt:i < m
      . obtain⟨q1,q2,q3⟩:=hp.next hlt
        have hr:=hp.1.rd
        obtain⟨⟨h1,h2,h3,h4,h5⟩,h6,h7,h8,h9⟩:=hp
        have hN:Nat.blt (m - i).toNat (N+1)=true:=hbt
        rw[bL]at hN
        rw[dT0 hlt,cT,yz h1 h2 hr q2,dT0 rfl,cT,dT0 (show l.length+1<=9223372036854775807 by omega),dT0 (show(l.length+1) * 8<=140737488355328 by omega),Bool.and_self,cT,aW q2,ai (by omega) (by omega),yA (j:=l.length+1) (l:=l++[SV.agg (du (sl es s 8) 0 8)]) (by omega) (by simp) rfl (by simp;omega) q1]at hrd
        cases h
        refine .inl ⟨_,congrArg ac hrd,fun x=> ?_⟩
        rw[De (j:=(m - i).toNat) (by omega),show(m - i).toNat - 1=(m - (i+1)).toNat by omega,show(m - i).toNat=(m - (i+1)).toNat+1 by omega,show s+8 * ((m - (i+1)).toNat+1)=s+8+8 * (m - (i+1)).toNat by omega,lA0,aA]
        simp only[lS,List.singleton_append,Nat.add_assoc,Nat.add_comm 1]
      . have hm:m=i:=by have:=hp.2.2.1;omega
        subst hm
        rw[dF hlt,cF]at hrd
        cases h
        refine .inr ⟨_,_,congrArg ac hrd,?_⟩
        rw[show(m - m).toNat=0 by omega]
        simp only[cw,List.append_nil,Nat.add_zero,Nat.mul_zero]
        exact Gl
   . cases h
 . cases h)
noncomputable abbrev T58:cu:=aF [("p",e58)]
noncomputable abbrev m58:Code:=bx [(3, "p")] Ew
noncomputable def HS:ag:=bE Tryz.prog κht ιht T58 true 300 Tryz.f118 m58
theorem JK:Known Tryz.prog 118 HS:=⟨⟨Tryz.f118,Tryz.func118,bf ak Tryz.func118,rfl⟩,aS (aL ak aq JY 300 5) aq (ba DN aE) Tryz.func118 (show Tryz.f118.body=some (aN T58 m58)by kernel_rfl)⟩
theorem Mv(r:Rd)(n:Nat)(es:List SV)(off fl cd:Int)(b1 b2:Bool)(d:Ds):HS (flA off fl cd) (flH r n es b1 true b2 d)=
 bif dec (klA r n es ⟨off,fl,cd⟩ b1 b2 d=klA (RD r.at_.toNat r.end_.toNat) n es ⟨off,fl,cd⟩ b1 b2 d)then bif elB (lfI r) 4 16 then bif dec (pOk 4 r.at_.toNat r.end_.toNat n es (elQ (lfI r) 4) 0/\0 < elQ (lfI r) 4)then
  .ret (.bool true) [(0,some (rCk 1 (RD (r.at_.toNat+4 * (elQ (lfI r) 4 - 0).toNat) r.end_.toNat) n)),(3,some (klX (.qs 4 1 0 (elQ (lfI r) 4 - 0).toNat) b1 b2 d)),(4,some (.seq 37 (wd es r.at_.toNat (elQ (lfI r) 4 - 0).toNat)))]
 else .fail else .ret (.bool false) []else .fail:=by cases b1 <;> cases b2 <;> kernel_rfl
def AJ(v:List SV):Bool:=elB (v.length:Int) 4 16
def klG(v:List SV)(d:Ds):Ds:={d with cl:=wd v 0 (v.length / 4)}
theorem Mw   :Known Tryz.prog 118 (ln   (fun pb cb mb=>cb) AJ   klG id (fun _=>false) id):=rq    JK     (by
 intro s t n es off fl cd pb cb mb d ho hp
 have hpb:cb=true:=hp
 subst hpb
 have ht:=Mv (RD s t) n es off fl cd pb mb d
 have hl:=ho.len
 have hoo:=ho
 obtain⟨h1,h2,h3,h4,h5⟩:=ho
 have hL:lfI (RD s t)=((t - s:Nat):Int):=by have:=iE (s:=s) (t:=t) (k:=0) (by omega) (by omega);simpa using this
 simp only[show(RD s t).at_.toNat=s from rfl,show(RD s t).end_.toNat=t from rfl]at ht
 rw[dec_iff.2 trivial,cT,hL]at ht
 cases hok:AJ (vl es s t)with
 | false=>
  have hb:elB ((t - s:Nat):Int) 4 16=false:=by unfold AJ at hok;rw[hl]at hok;exact hok
  rw[hb,cF]at ht
  exact⟨_,_,congrArg ac ht,.inr ⟨.rfl',nm (c3:=dC pb true mb d) pC rfl (fun x h0 h6=>rfl)⟩⟩
 | true=>
  have hb:elB ((t - s:Nat):Int) 4 16=true:=by unfold AJ at hok;rw[hl]at hok;exact hok
  obtain⟨b1,b2,b3⟩:=(pw (k:=t - s) (by omega) (z:=4) (m:=16) (by omega)).1 hb
  have hq:elQ ((t - s:Nat):Int) 4=(((t - s) / 4:Nat):Int):=rJ _ (by omega) 4 (by omega)
  have hG:klG (vl es s t) d={d with cl:=wd es s ((t - s) / 4)}:=by
   unfold klG
   rw[hl]
   have:=CV (es:=es) (s:=s) (m:=t - s) ((t - s) / 4) 0 (by omega)
   rw[Nat.add_zero]at this
   rw[this];rfl
  rw[hG,cT]
  generalize hk:(t - s) / 4=k at *
  rw[hb,cT,hq,dec_iff.2 ⟨⟨⟨h1,h2,h3,h4,h5⟩,by omega,by omega,by omega,by omega⟩,by omega⟩,cT]at ht
  refine⟨_,_,congrArg ac ht,.inl ⟨4,37,wd es s k,rfl,.rfl',fun x c' hx=> ?_⟩⟩
  simp only[ad]at hx
  by_cases x0:x=0
  . rw[if_pos x0]at hx;cases hx
  . rw[if_neg x0]at hx
    by_cases x3:x=3
    . subst x3;rw[if_pos rfl]at hx;cases hx
      exact⟨by decide,_,rfl,.cells (.cons .rfl' (.cons .rfl' (.cons .rfl' (.cons .rfl' (.cons .rfl' (.cons .rfl' (.cons .rfl' (.cons .rfl' (.cons .rfl' (.cons (.qs (by rw[fW];omega)) .rfl'))))))))))⟩
    . rw[if_neg x3]at hx
      have x4:x≠4:=by rintro rfl;cases hx
      exact⟨x4,c',by simp only[ad,x0,x3,x4,if_false];exact hx,.rfl'⟩)
noncomputable abbrev T66:cu:=aF [("p",e66)]
noncomputable abbrev m66:Code:=bx [(3, "p")] Ce
noncomputable def HM:ag:=bE Tryz.prog κht ιht T66 true 300 Tryz.f125 m66
theorem Jl:Known Tryz.prog 125 HM:=⟨⟨Tryz.f125,Tryz.func125,bf ak Tryz.func125,rfl⟩,aS (aL ak aq JY 300 5) aq (ba Df aE) Tryz.func125 (show Tryz.f125.body=some (aN T66 m66)by kernel_rfl)⟩
theorem Mh(r:Rd)(n:Nat)(es:List SV)(off fl cd:Int)(b1 b2:Bool)(d:Ds):HM (flA off fl cd) (flH r n es b1 b2 true d)=
 bif dec (kmA r n es ⟨off,fl,cd⟩ b1 b2 d=kmA (RD r.at_.toNat r.end_.toNat) n es ⟨off,fl,cd⟩ b1 b2 d)then bif elB (lfI r) 8 64 then bif dec (pOk 8 r.at_.toNat r.end_.toNat n es (elQ (lfI r) 8) 0/\0 < elQ (lfI r) 8)then
  .ret (.bool true) [(0,some (rCk 1 (RD (r.at_.toNat+8 * (elQ (lfI r) 8 - 0).toNat) r.end_.toNat) n)),(3,some (kmX (.qs 4 8 0 (elQ (lfI r) 8 - 0).toNat) b1 b2 d)),(4,some (.seq 136 (cw es r.at_.toNat (elQ (lfI r) 8 - 0).toNat)))]
 else .fail else .ret (.bool false) []else .fail:=by cases b1 <;> cases b2 <;> kernel_rfl
theorem HN{es:List SV}{s m:Nat}:∀ (k j:Nat),j+8 * k<=m->cw es (s+j) k=cw (sl es s m) j k
 | 0,_,_=>rfl
 | k+1,j,h=>by
  rw[cw,cw,Nat.add_assoc,HN (m:=m) k (j+8) (by omega)]
  congr 3
  unfold sl
  rw[List.drop_take,List.drop_drop,List.take_take,Nat.min_eq_left (by omega)]
def Aw(v:List SV):Bool:=elB (v.length:Int) 8 64
def kmG(v:List SV)(d:Ds):Ds:={d with cm:=cw v 0 (v.length / 8)}
theorem Mi   :Known Tryz.prog 125 (ln   (fun pb cb mb=>mb) Aw   kmG id id (fun _=>false)):=rq    Jl     (by
 intro s t n es off fl cd pb cb mb d ho hp
 have hpb:mb=true:=hp
 subst hpb
 have ht:=Mh (RD s t) n es off fl cd pb cb d
 have hl:=ho.len
 have hoo:=ho
 obtain⟨h1,h2,h3,h4,h5⟩:=ho
 have hL:lfI (RD s t)=((t - s:Nat):Int):=by have:=iE (s:=s) (t:=t) (k:=0) (by omega) (by omega);simpa using this
 simp only[show(RD s t).at_.toNat=s from rfl,show(RD s t).end_.toNat=t from rfl]at ht
 rw[dec_iff.2 trivial,cT,hL]at ht
 cases hok:Aw (vl es s t)with
 | false=>
  have hb:elB ((t - s:Nat):Int) 8 64=false:=by unfold Aw at hok;rw[hl]at hok;exact hok
  rw[hb,cF]at ht
  exact⟨_,_,congrArg ac ht,.inr ⟨.rfl',nm (c3:=dC pb cb true d) pC rfl (fun x h0 h6=>rfl)⟩⟩
 | true=>
  have hb:elB ((t - s:Nat):Int) 8 64=true:=by unfold Aw at hok;rw[hl]at hok;exact hok
  obtain⟨b1,b2,b3⟩:=(pw (k:=t - s) (by omega) (z:=8) (m:=64) (by omega)).1 hb
  have hq:elQ ((t - s:Nat):Int) 8=(((t - s) / 8:Nat):Int):=rJ _ (by omega) 8 (by omega)
  have hG:kmG (vl es s t) d={d with cm:=cw es s ((t - s) / 8)}:=by
   unfold kmG
   rw[hl]
   have:=HN (es:=es) (s:=s) (m:=t - s) ((t - s) / 8) 0 (by omega)
   rw[Nat.add_zero]at this
   rw[this];rfl
  rw[hG,cT]
  generalize hk:(t - s) / 8=k at *
  rw[hb,cT,hq,dec_iff.2 ⟨⟨⟨h1,h2,h3,h4,h5⟩,by omega,by omega,by omega,by omega⟩,by omega⟩,cT]at ht
  refine⟨_,_,congrArg ac ht,.inl ⟨4,136,cw es s k,rfl,.rfl',fun x c' hx=> ?_⟩⟩
  simp only[ad]at hx
  by_cases x0:x=0
  . rw[if_pos x0]at hx;cases hx
  . rw[if_neg x0]at hx
    by_cases x3:x=3
    . subst x3;rw[if_pos rfl]at hx;cases hx
      exact⟨by decide,_,rfl,.cells (.cons .rfl' (.cons .rfl' (.cons .rfl' (.cons .rfl' (.cons .rfl' (.cons .rfl' (.cons .rfl' (.cons .rfl' (.cons .rfl' (.cons .rfl' (.cons (.qs (by rw[sS];omega)) .rfl')))))))))))⟩
    . rw[if_neg x3]at hx
      have x4:x≠4:=by rintro rfl;cases hx
      exact⟨x4,c',by simp only[ad,x0,x3,x4,if_false];exact hx,.rfl'⟩)
def vS(es:List SV)(a:Nat):Nat:=a+hdN es a
def vE(es:List SV)(a:Nat):Nat:=a+hdN es a+lnN es a
def bC(es:List SV)(a:Nat):Int:=dg es (a+1)
def knC(g:Int):Bool:=bif g==1 then true else bif g==2 then true else bif g==4 then true else bif g==5 then true else bif g==9 then true else bif g==10 then true else bif g==14 then true else bif g==15 then true else bif g==16 then true else g==22
noncomputable def kI(g:Int):ag:=fun args H=>match args with
 | [.ptr 0 0]=>match rOf H with
  | some (r,n,es)=>.ite (dec (r=RD r.at_.toNat n/\cdN es r.at_.toNat n/\okN es r.at_.toNat n/\bC es r.at_.toNat=g))
    (.ret (.tup [.agg [.ptr 2 0,.int .i64 (r.at_.toNat:Int),.int .u8 (dg es r.at_.toNat),.int .u8 g],.bool true]) [(0,some (rC (RD (vE es r.at_.toNat) n) n)),(2,some (rC (RD (vS es r.at_.toNat) (vE es r.at_.toNat)) n))]) .fail
  | none=>.fail
 | _=>.fail
theorem OL  (g:Int):Known Tryz.prog 98 (kI   g):=(am        nOk Tryz.func98 rfl).weak (by
 intro args H v ups h
 unfold kI at h
 split at h
 . split at h
   . rename_i r n es hr
     rw[aa]at h
     cases hc:dec _ with
     | false=>rw[hc]at h;cases h
     | true=>
      rw[hc,cT]at h
      obtain⟨h1,h2,h3,h4⟩:=dec_iff.1 hc
      rw[nr hr,h1]
      subst h4
      exact(congrArg ac (uX h2 h3)).trans h
   . cases h
 . cases h)
noncomputable def Kw:ag:=fun args H=>match args with
 | [.ptr 0 0]=>match rOf H with
  | some (r,n,es)=>.ite (dec (r=RD r.at_.toNat n/\cdN es r.at_.toNat n/\okN es r.at_.toNat n/\knC (bC es r.at_.toNat)=false))
    (.ret (.tup [.agg [.ptr 2 0,.int .i64 (r.at_.toNat:Int),.int .u8 (dg es r.at_.toNat),.int .u8 (bC es r.at_.toNat)],.bool true]) [(0,some (rC (RD (vE es r.at_.toNat) n) n)),(2,some (rC (RD (vS es r.at_.toNat) (vE es r.at_.toNat)) n))]) .fail
  | none=>.fail
 | _=>.fail
theorem nu_k:Known Tryz.prog 98 Kw  :=(am        nOk Tryz.func98 rfl).weak (by
 intro args H v ups h
 unfold Kw at h
 split at h
 . split at h
   . rename_i r n es hr
     rw[aa]at h
     cases hc:dec _ with
     | false=>rw[hc]at h;cases h
     | true=>
      rw[hc,cT]at h
      obtain⟨h1,h2,h3,h4⟩:=dec_iff.1 hc
      rw[nr hr,h1]
      exact(congrArg ac (uX h2 h3)).trans h
   . cases h
 . cases h)
noncomputable def vW(es:List SV)(a n:Nat):Int × Int × Rd:=by
 classical
 exact if h:∃ q:Int × Int × Rd,∃ c,opn κn Tryz.f98 [.ptr 0 0] (rH (RD a n) n es)= .ret (.tup [.agg [.ptr 2 0,.int .i64 a,.int .u8 q.1,.int .u8 q.2.1],.bool false]) [(0,some (rC q.2.2 n)),(2,some c)]then Classical.choose h else(0,0,RD 0 0)
theorem G7{es:List SV}{a n:Nat}(hc:cdN es a n)(ho:¬ okN es a n):∃ c,opn κn Tryz.f98 [.ptr 0 0] (rH (RD a n) n es)= .ret (.tup [.agg [.ptr 2 0,.int .i64 a,.int .u8 (vW es a n).1,.int .u8 (vW es a n).2.1],.bool false]) [(0,some (rC (vW es a n).2.2 n)),(2,some c)]:=by
 have h:∃ q:Int × Int × Rd,∃ c,opn κn Tryz.f98 [.ptr 0 0] (rH (RD a n) n es)= .ret (.tup [.agg [.ptr 2 0,.int .i64 a,.int .u8 q.1,.int .u8 q.2.1],.bool false]) [(0,some (rC q.2.2 n)),(2,some c)]:=by
  obtain⟨f,g,c,r',h⟩:=FU hc ho
  exact⟨(f,g,r'),c,h⟩
 unfold vW
 rw[dif_pos h]
 exact Classical.choose_spec h
noncomputable def D5:ag:=fun args H=>match args with
 | [.ptr 0 0]=>match rOf H with
  | some (r,n,es)=>.ite (dec (r=RD r.at_.toNat n/\cdN es r.at_.toNat n/\¬ okN es r.at_.toNat n))
    (.ret (.tup [.agg [.ptr 2 0,.int .i64 (r.at_.toNat:Int),.int .u8 (vW es r.at_.toNat n).1,.int .u8 (vW es r.at_.toNat n).2.1],.bool false]) [(0,some (rC (vW es r.at_.toNat n).2.2 n))]) .fail
  | none=>.fail
 | _=>.fail
theorem OM  :Known Tryz.prog 98 D5  :=bd         (am        nOk Tryz.func98 rfl) (by
 intro args H v ups h
 unfold D5 at h
 split at h
 . split at h
   . rename_i r n es hr
     rw[aa]at h
     cases hc:dec _ with
     | false=>rw[hc]at h;cases h
     | true=>
      rw[hc,cT]at h
      obtain⟨h1,h2,h3⟩:=dec_iff.1 hc
      rw[nr hr,h1]
      obtain⟨c,ht⟩:=G7 h2 h3
      cases h
      refine⟨_,_,congrArg ac ht,.inr ⟨.rfl',fun x c' hx=>⟨c',?_,.rfl'⟩⟩⟩
      simp only[ad]at hx ⊢
      by_cases x2:x=2
      . subst x2;rw[if_neg (by decide)]at hx;cases hx
      . rw[if_neg x2];exact hx
   . cases h
 . cases h)
end Go.Proofs.YtnlmhpancboddaaGreat
