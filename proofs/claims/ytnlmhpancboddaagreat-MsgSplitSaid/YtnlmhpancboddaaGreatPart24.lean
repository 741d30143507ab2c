/- The reference reads attributes: the loop over clusters. -/
import Derived.Test.YtnlmhpancboddaaGreatPart23
set_option linter.unusedVariables false
set_option linter.unusedSimpArgs false
namespace Go.Proofs.YtnlmhpancboddaaGreat
open Go.Am
set_option maxRecDepth 100000
def rSx(p c m:SV)(d:Ds)(f:Nat->Bool):Chunk:=.cells 129 ([.int .i64 d.ori,p,.int .u32 d.nx,.bool d.hm,.int .u32 d.med,.bool d.hp,.int .u32 d.prf,.bool d.ho,.int .u32 d.orr,c,m,.int .i64 d.tk,.int .u32 d.tl,.int .u32 d.tr,.int .u32 d.tg,.psl 88 d.rch,.psl 88 d.unr]++mtL f 256 0)
def mtF(l:List SV)(i:Nat):Bool:=asB (l.getD i .junk)
def yP:List SV->Option (Bool × Bool × Bool × Ds × (Nat->Bool))
 | .int .i64 ori :: p :: .int .u32 nx :: .bool hm :: .int .u32 med :: .bool hp :: .int .u32 prf :: .bool ho :: .int .u32 orr :: c :: m :: .int .i64 tk :: .int .u32 tl :: .int .u32 tr :: .int .u32 tg :: .psl 88 rch :: .psl 88 unr :: l=>
  some (Au p,Au c,Au m,⟨ori,nx,med,prf,orr,tk,tl,tr,tg,hm,hp,ho,asL p,asL c,asL m,rch,unr⟩,mtF l)
 | _=>none
def n32(x:SV):SV:=.int .u32 (asI x)
def wv(v:List SV)(i:Int):List SV:=(v.drop i.toNat).map n32
def cv(v:List SV)(i:Int):List SV:=cw v i.toNat ((v.length - i.toNat) / 8)
noncomputable def rN:Code:=(bv 23 cD).getD .skip
def ylX(q:SV)(b1 b2:Bool)(d:Ds)(f:Nat->Bool):Chunk:=rSx (nz b1 36 d.path) q (nz b2 136 d.cm) d f
def ylA(b1 b2:Bool)(d:Ds)(f:Nat->Bool):HpL:=[(0,ylX .nils b1 b2 d f)]
def ylB(b1 b2:Bool)(d:Ds)(f:Nat->Bool)(j:Nat)(k:List SV):HpL:=[(0,ylX (.qs 1 1 0 j) b1 b2 d f),(1,.seq 37 k)]
def td(v:List SV)(i:Int)(k:List SV):Prop:=True/\0<=i/\i<=v.length/\v.length<=20000/\k.length+(v.length - i.toNat)<=40000
def ylN(v:List SV)(i:Int):Nat:=(v.length - i.toNat)
noncomputable def Gs:ag:=fun args H=>match args,H with
 | [.ptr 0 0,.psl 36 v,.int .i64 i],[(0,.cells 129 cs)]=>
  match yP cs with
  | some (b1,_,b2,d,f)=>.ite (decide (i < v.length)) (.ite (dec (H=ylA b1 b2 d f/\td v i [])) (.ret (.tup [.int .i64 3]) [(0,some (ylX (.qs 1 1 0 (ylN v i)) b1 b2 d f)),(1,some (.seq 37 (wv v i)))]) .fail) (.ite (dec (H=ylA b1 b2 d f)) (.ret (.tup [.int .i64 3]) []) .fail)
  | none=>.fail
 | [.ptr 0 0,.psl 36 v,.int .i64 i],[(0,.cells 129 cs),(1,.seq 37 k)]=>
  match yP cs with
  | some (b1,_,b2,d,f)=>.ite (dec (H=ylB b1 b2 d f k.length k/\td v i k)) (.ret (.tup [.int .i64 3]) [(0,some (ylX (.qs 2 1 0 (k.length+ylN v i)) b1 b2 d f)),(1,none),(2,some (.seq 37 (k++wv v i)))]) .fail
  | none=>.fail
 | _,_=>.fail
def ylM:List SV->HpL->Nat
 | [_,.psl _ v,.int _ i],_=>v.length - i.toNat
 | _,_=>0
noncomputable def pM:LEnt:={ins:=[0,7,9],outs:=[],keep:=[8],size:=160,code:=rN,s:=Gs}
noncomputable def Gt(N q:Nat)(v:List SV)(b1 b2:Bool)(d:Ds)(f:Nat->Bool)(i:Int)(j:Nat)(k:List SV)(K:Chunk->List SV->CTree):CTree:=
 bif Nat.blt (v.length - i.toNat) N then bif dec (ylB b1 b2 d f j k=ylB b1 b2 d f k.length k/\td v i k)then
  K (ylX (.qs q 1 0 (k.length+ylN v i)) b1 b2 d f) (k++wv v i)else .fail else .fail
def Gu(v:List SV)(i:Int)(K:SV->CTree):CTree:=bif inB i v.length then K (n32 (v.getD i.toNat .junk))else .fail
theorem Ow(N:Nat)(v:List SV)(b1 b2:Bool)(d:Ds)(f:Nat->Bool)(i:Int):av Tryz.prog κva ιva (aF []) true 300 pM {pM with s:=ay ylM Gs N} rN [.ptr 0 0,.psl 36 v,.int .i64 i] (ylA b1 b2 d f)=
 bif decide (i < v.length)then Gu v i (fun x=>Gt N 1 v b1 b2 d f (w64 (i+1)) 1 [x] (fun c k'=>.ret (.tup [.int .i64 3]) [(0,some c),(1,some (.seq 37 k'))]))
 else .ret (.tup [.int .i64 3]) []:=by cases b1 <;> cases b2 <;> kernel_rfl
theorem Ox(N:Nat)(v:List SV)(b1 b2:Bool)(d:Ds)(f:Nat->Bool)(i:Int)(j:Nat)(k:List SV):av Tryz.prog κva ιva (aF []) true 300 pM {pM with s:=ay ylM Gs N} rN [.ptr 0 0,.psl 36 v,.int .i64 i] (ylB b1 b2 d f j k)=
 bif decide (i < v.length)then Gu v i (fun x=>bif decide (j=k.length)then bif decide (k.length+1<=9223372036854775807)&&decide ((k.length+1) * 4<=140737488355328)then Gt N 2 v b1 b2 d f (w64 (i+1)) (k.length+1) (k++[x]) (fun c k'=>.ret (.tup [.int .i64 3]) [(0,some c),(1,none),(2,some (.seq 37 k'))])
  else .fail else .fail)
 else .ret (.tup [.int .i64 3]) []:=by cases b1 <;> cases b2 <;> kernel_rfl
noncomputable def sj:Code:=(bv 33 cD).getD .skip
def ymX(q:SV)(b1 b2:Bool)(d:Ds)(f:Nat->Bool):Chunk:=rSx (nz b1 36 d.path) (nz b2 37 d.cl) q d f
def ymA(b1 b2:Bool)(d:Ds)(f:Nat->Bool):HpL:=[(0,ymX .nils b1 b2 d f)]
def ymB(b1 b2:Bool)(d:Ds)(f:Nat->Bool)(j:Nat)(k:List SV):HpL:=[(0,ymX (.qs 1 8 0 j) b1 b2 d f),(1,.seq 136 k)]
def tK(v:List SV)(i:Int)(k:List SV):Prop:=(v.length - i.toNat) % 8=0/\0<=i/\i<=v.length/\v.length<=20000/\k.length+((v.length - i.toNat) / 8)<=40000
def ymN(v:List SV)(i:Int):Nat:=((v.length - i.toNat) / 8)
noncomputable def Hd:ag:=fun args H=>match args,H with
 | [.ptr 0 0,.psl 5 v,.int .i64 i],[(0,.cells 129 cs)]=>
  match yP cs with
  | some (b1,b2,_,d,f)=>.ite (decide (i < v.length)) (.ite (dec (H=ymA b1 b2 d f/\tK v i [])) (.ret (.tup [.int .i64 5]) [(0,some (ymX (.qs 1 8 0 (ymN v i)) b1 b2 d f)),(1,some (.seq 136 (cv v i)))]) .fail) (.ite (dec (H=ymA b1 b2 d f)) (.ret (.tup [.int .i64 5]) []) .fail)
  | none=>.fail
 | [.ptr 0 0,.psl 5 v,.int .i64 i],[(0,.cells 129 cs),(1,.seq 136 k)]=>
  match yP cs with
  | some (b1,b2,_,d,f)=>.ite (dec (H=ymB b1 b2 d f k.length k/\tK v i k)) (.ret (.tup [.int .i64 5]) [(0,some (ymX (.qs 2 8 0 (k.length+ymN v i)) b1 b2 d f)),(1,none),(2,some (.seq 136 (k++cv v i)))]) .fail
  | none=>.fail
 | _,_=>.fail
def ymM:List SV->HpL->Nat
 | [_,.psl _ v,.int _ i],_=>v.length - i.toNat
 | _,_=>0
noncomputable def qL:LEnt:={ins:=[0,2,10],outs:=[],keep:=[8],size:=160,code:=sj,s:=Hd}
noncomputable def He(N q:Nat)(v:List SV)(b1 b2:Bool)(d:Ds)(f:Nat->Bool)(i:Int)(j:Nat)(k:List SV)(K:Chunk->List SV->CTree):CTree:=
 bif Nat.blt (v.length - i.toNat) N then bif dec (ymB b1 b2 d f j k=ymB b1 b2 d f k.length k/\tK v i k)then
  K (ymX (.qs q 8 0 (k.length+ymN v i)) b1 b2 d f) (k++cv v i)else .fail else .fail
def Hf(v:List SV)(i:Int)(K:SV->CTree):CTree:=bif decide (0<=i)&&decide (i<=w64 (i+8))&&decide (w64 (i+8)<=(v.length:Int))then bif decide (8<=((v.drop i.toNat).take ((w64 (i+8)).toNat - i.toNat)).length)then K (.agg (du ((v.drop i.toNat).take ((w64 (i+8)).toNat - i.toNat)) 0 8))else .fail else .fail
theorem OP(N:Nat)(v:List SV)(b1 b2:Bool)(d:Ds)(f:Nat->Bool)(i:Int):av Tryz.prog κva ιva (aF []) true 300 qL {qL with s:=ay ymM Hd N} sj [.ptr 0 0,.psl 5 v,.int .i64 i] (ymA b1 b2 d f)=
 bif decide (i < v.length)then Hf v i (fun x=>He N 1 v b1 b2 d f (w64 (i+8)) 1 [x] (fun c k'=>.ret (.tup [.int .i64 5]) [(0,some c),(1,some (.seq 136 k'))]))
 else .ret (.tup [.int .i64 5]) []:=by cases b1 <;> cases b2 <;> kernel_rfl
theorem OQ(N:Nat)(v:List SV)(b1 b2:Bool)(d:Ds)(f:Nat->Bool)(i:Int)(j:Nat)(k:List SV):av Tryz.prog κva ιva (aF []) true 300 qL {qL with s:=ay ymM Hd N} sj [.ptr 0 0,.psl 5 v,.int .i64 i] (ymB b1 b2 d f j k)=
 bif decide (i < v.length)then Hf v i (fun x=>bif decide (j=k.length)then bif decide (k.length+1<=9223372036854775807)&&decide ((k.length+1) * 8<=140737488355328)then He N 2 v b1 b2 d f (w64 (i+8)) (k.length+1) (k++[x]) (fun c k'=>.ret (.tup [.int .i64 5]) [(0,some c),(1,none),(2,some (.seq 136 k'))])
  else .fail else .fail)
 else .ret (.tup [.int .i64 5]) []:=by cases b1 <;> cases b2 <;> kernel_rfl
theorem vR:∀ (f:Nat->Bool) (n i:Nat),az (mtL f n i)=[]
 | _,0,_=>rfl
 | f,n+1,i=>by rw[mtL];show aj _++az _=_;rw[vR f n (i+1)];rfl
theorem r9:∀ (a b:List SV),az (a++b)=az a++az b
 | [],b=>rfl
 | x :: a,b=>by rw[List.cons_append,az,az,r9 a b,aA]
theorem DZ(g:Nat->Nat):∀ (f:Nat->Bool) (n i:Nat),bM g (mtL f n i)=mtL f n i
 | _,0,_=>rfl
 | f,n+1,i=>by rw[mtL];show bu g _ :: bM g _=_;rw[DZ g f n (i+1)];rfl
theorem zl(g:Nat->Nat):∀ (a b:List SV),bM g (a++b)=bM g a++bM g b
 | [],b=>rfl
 | x :: a,b=>by rw[List.cons_append,bM,bM,zl g a b,List.cons_append]
theorem Kg{b1 b2:Bool}{d:Ds}{f:Nat->Bool}{j:Nat}{k:List SV}:∀ y c,(ylB b1 b2 d f j k).get y=some c->2 ∉ aJ c:=by
 intro y c hx
 have:=aQ _ _ _ hx
 simp only[ylB,List.mem_cons,pJ,List.not_mem_nil,or_false]at this
 rcases this with ⟨_,rfl⟩ | ⟨_,rfl⟩
 . unfold ylX rSx;rw[aJ,r9,vR];cases b1 <;> cases b2 <;> simp[az,aj,nz]
 . simp[aJ]
theorem GY{b1 b2:Bool}{d:Ds}{f:Nat->Bool}{j:Nat}{k:List SV}:bN (ylB b1 b2 d f j k) (.tup [.int .i64 3]) [] (.tup [.int .i64 3]) [(0,some (ylX (.qs 2 1 0 j) b1 b2 d f)),(1,none),(2,some (.seq 37 k))]:=by
 refine⟨1,2,by simp[ylB],by simp[aj,az],Kg,rfl,fun y=> ?_⟩
 match y with
 | 0=>
  show some (ylX (.qs 2 1 0 j) b1 b2 d f)=some (br (sw 1 2) (ylX (.qs 1 1 0 j) b1 b2 d f))
  unfold ylX rSx;rw[br,zl,DZ];cases b1 <;> cases b2 <;> rfl
 | 1=>rfl
 | 2=>rfl
 | y+3=>
  have h2:∀ k,k < 3->Nat.beq k (y+3)=false:=fun k hk=>bK (by omega)
  have h1:∀ k,k < 3->¬ (y+3=k):=fun k hk=>by omega
  simp only[ad,ylB,HpL.get,h1 2 (by omega),h1 1 (by omega),h1 0 (by omega),if_false,h2 0 (by omega),h2 1 (by omega),cF,Option.map_none]
theorem zm{v k:List SV}{i:Int}(h:td v i k)(hlt:i < v.length){K:SV->CTree}:Gu v i K=K (n32 (v.getD i.toNat .junk)):=by
 obtain⟨h1,h2,h3,h4,h5⟩:=h
 unfold Gu
 rw[show inB i v.length=true by unfold inB;simp;omega];rfl
theorem zn{N:Nat}{v k:List SV}{i:Int}(h:td v i k)(hlt:i < v.length):w64 (i+1)=i+1/\(v.length - i.toNat < N+1->v.length - (i+1).toNat < N)/\(∀ k':List SV,k'.length=k.length+1->td v (i+1) k')/\wv v i=n32 (v.getD i.toNat .junk) :: wv v (i+1)/\ylN v i=ylN v (i+1)+1:=by
 obtain⟨h1,h2,h3,h4,h5⟩:=h
 refine⟨ai (by omega) (by omega),fun _=>by omega,fun k' hk=>⟨trivial,by omega,by omega,h4,by omega⟩,?_,by unfold ylN;omega⟩
 unfold wv
 rw[show(i+1).toNat=i.toNat+1 by omega,List.drop_eq_getElem_cons (show i.toNat < v.length by omega),List.map_cons,gD0,List.getElem?_eq_getElem (show i.toNat < v.length by omega)]
 rfl
theorem Kh{v k:List SV}{i:Int}(h:td v i k)(hlt:¬ i < v.length):ylN v i=0/\wv v i=[]:=by
 obtain⟨h1,h2,h3,h4,h5⟩:=h
 refine⟨by unfold ylN;omega,?_⟩
 unfold wv
 rw[List.drop_eq_nil_of_le (by omega)];rfl
theorem zo{N q:Nat}{v:List SV}{b1 b2:Bool}{d:Ds}{f:Nat->Bool}{i:Int}{j:Nat}{k:List SV}(hN:v.length - i.toNat < N)(hj:j=k.length)(h:td v i k)(K:Chunk->List SV->CTree):
  Gt N q v b1 b2 d f i j k K=K (ylX (.qs q 1 0 (k.length+ylN v i)) b1 b2 d f) (k++wv v i):=by
 unfold Gt
 rw[show Nat.blt (v.length - i.toNat) N=true by rw[bL];exact hN,dec_iff.2 ⟨by subst hj;rfl,h⟩]
 rfl
theorem D0      :aO     Tryz.prog pM   :=bG          (κ:=κva) (ι:=ιva) (T:=aF   []) (sp:=true) (fuel:=300) (c:=rN   ) (μ:=ylM) IS   aq     aE       (show aN    (aF   []) rN   =rN    by kernel_rfl) (by
 intro N args H v' ups' hbt h
 unfold pM Gs at h
 simp only[]at h
 split at h
 . rename_i v i cs
   split at h
   . rename_i y1 y2 y3 d f hd
     rw[aa]at h
     have hrd:=Ow N v y1 y3 d f i
     by_cases hlt:i < v.length
     case neg=>
      rw[dF hlt,cF,aa]at h
      cases hc:dec _ with
      | false=>rw[hc]at h;cases h
      | true=>
       rw[hc,cT]at h
       rw[dF hlt,cF]at hrd
       rw[dec_iff.1 hc]
       exact .inl ⟨_,(congrArg ac hrd).trans h,fun x=>rfl⟩
     rw[dT0 hlt,cT,aa]at h
     cases hc:dec _ with
     | false=>rw[hc]at h;cases h
     | true=>
      rw[hc,cT]at h
      obtain⟨hH,hp⟩:=dec_iff.1 hc
      rw[hH]
      have hN:Nat.blt (v.length - i.toNat) (N+1)=true:=hbt
      rw[bL]at hN
      obtain⟨q1,q2,q3,q4,q5⟩:=zn (N:=N) hp hlt
      rw[dT0 hlt,cT,zm hp hlt,q1,zo (j:=1) (k:=[n32 (v.getD i.toNat .junk)]) (q2 hN) rfl (q3 [n32 (v.getD i.toNat .junk)] (by simp))]at hrd
      rw[q5,q4]at h
      cases h
      rw[show [n32 (v.getD i.toNat .junk)].length+ylN v (i+1)=ylN v (i+1)+1 by simp;omega]at hrd
      exact .inl ⟨_,congrArg ac hrd,fun x=>rfl⟩
   . cases h
 . rename_i v i cs k
   split at h
   . rename_i y1 y2 y3 d f hd
     rw[aa]at h
     cases hc:dec _ with
     | false=>rw[hc]at h;cases h
     | true=>
      rw[hc,cT]at h
      obtain⟨hH,hp⟩:=dec_iff.1 hc
      rw[hH]
      have hrd:=Ox N v y1 y3 d f i k.length k
      have hN:Nat.blt (v.length - i.toNat) (N+1)=true:=hbt
      rw[bL]at hN
      by_cases hlt:i < v.length
      . obtain⟨q1,q2,q3,q4,q5⟩:=zn (N:=N) hp hlt
        have hk:k.length<=40000:=by have:=hp.2.2.2.2;omega
        rw[dT0 hlt,cT,zm hp hlt,dT0 rfl,cT,dT0 (show k.length+1<=9223372036854775807 by omega),dT0 (show(k.length+1) * 4<=140737488355328 by omega),Bool.and_self,cT,q1,zo (j:=k.length+1) (k:=k++[n32 (v.getD i.toNat .junk)]) (q2 hN) (by simp) (q3 (k++[n32 (v.getD i.toNat .junk)]) (by simp))]at hrd
        rw[q5,q4]at h
        cases h
        rw[lA0,aA,lS,List.singleton_append,Nat.add_assoc,Nat.add_comm 1]at hrd
        exact .inl ⟨_,congrArg ac hrd,fun x=>rfl⟩
      . have hz:ylN v i=0/\wv v i=[]:=Kh hp hlt
        rw[dF hlt,cF]at hrd
        rw[hz.1,hz.2,Nat.add_zero,List.append_nil]at h
        cases h
        exact .inr ⟨_,_,congrArg ac hrd,GY⟩
   . cases h
 . cases h)
theorem vP:∀ (f:Nat->Bool) (n i:Nat),az (mtL f n i)=[]
 | _,0,_=>rfl
 | f,n+1,i=>by rw[mtL];show aj _++az _=_;rw[vP f n (i+1)];rfl
theorem r7:∀ (a b:List SV),az (a++b)=az a++az b
 | [],b=>rfl
 | x :: a,b=>by rw[List.cons_append,az,az,r7 a b,aA]
theorem DO(g:Nat->Nat):∀ (f:Nat->Bool) (n i:Nat),bM g (mtL f n i)=mtL f n i
 | _,0,_=>rfl
 | f,n+1,i=>by rw[mtL];show bu g _ :: bM g _=_;rw[DO g f n (i+1)];rfl
theorem ze(g:Nat->Nat):∀ (a b:List SV),bM g (a++b)=bM g a++bM g b
 | [],b=>rfl
 | x :: a,b=>by rw[List.cons_append,bM,bM,ze g a b,List.cons_append]
theorem Kb{b1 b2:Bool}{d:Ds}{f:Nat->Bool}{j:Nat}{k:List SV}:∀ y c,(ymB b1 b2 d f j k).get y=some c->2 ∉ aJ c:=by
 intro y c hx
 have:=aQ _ _ _ hx
 simp only[ymB,List.mem_cons,pJ,List.not_mem_nil,or_false]at this
 rcases this with ⟨_,rfl⟩ | ⟨_,rfl⟩
 . unfold ymX rSx;rw[aJ,r7,vP];cases b1 <;> cases b2 <;> simp[az,aj,nz]
 . simp[aJ]
theorem GU{b1 b2:Bool}{d:Ds}{f:Nat->Bool}{j:Nat}{k:List SV}:bN (ymB b1 b2 d f j k) (.tup [.int .i64 5]) [] (.tup [.int .i64 5]) [(0,some (ymX (.qs 2 8 0 j) b1 b2 d f)),(1,none),(2,some (.seq 136 k))]:=by
 refine⟨1,2,by simp[ymB],by simp[aj,az],Kb,rfl,fun y=> ?_⟩
 match y with
 | 0=>
  show some (ymX (.qs 2 8 0 j) b1 b2 d f)=some (br (sw 1 2) (ymX (.qs 1 8 0 j) b1 b2 d f))
  unfold ymX rSx;rw[br,ze,DO];cases b1 <;> cases b2 <;> rfl
 | 1=>rfl
 | 2=>rfl
 | y+3=>
  have h2:∀ k,k < 3->Nat.beq k (y+3)=false:=fun k hk=>bK (by omega)
  have h1:∀ k,k < 3->¬ (y+3=k):=fun k hk=>by omega
  simp only[ad,ymB,HpL.get,h1 2 (by omega),h1 1 (by omega),h1 0 (by omega),if_false,h2 0 (by omega),h2 1 (by omega),cF,Option.map_none]
theorem M4{v:List SV}{i:Int}(h0:0<=i)(h1:v.length<=20000)(h2:i<=v.length):(v.drop i.toNat).take ((w64 (i+8)).toNat - i.toNat)=sl v i.toNat 8:=by
 rw[show w64 (i+8)=i+8 from ai (by omega) (by omega),show(i+8).toNat - i.toNat=8 by omega];rfl
theorem zf{v k:List SV}{i:Int}(h:tK v i k)(hlt:i < v.length){K:SV->CTree}:Hf v i K=K (.agg (du (sl v i.toNat 8) 0 8)):=by
 obtain⟨h1,h2,h3,h4,h5⟩:=h
 unfold Hf
 rw[M4 h2 h4 h3,show w64 (i+8)=i+8 from ai (by omega) (by omega),dK (by omega),dT0 h2,dT0 (show i<=i+8 by omega),dT0 (show i+8<=(v.length:Int)by omega),dT0 (by decide)]
 rfl
theorem zg{N:Nat}{v k:List SV}{i:Int}(h:tK v i k)(hlt:i < v.length):w64 (i+8)=i+8/\(v.length - i.toNat < N+1->v.length - (i+8).toNat < N)/\(∀ k':List SV,k'.length=k.length+1->tK v (i+8) k')/\cv v i= .agg (du (sl v i.toNat 8) 0 8) :: cv v (i+8)/\ymN v i=ymN v (i+8)+1:=by
 obtain⟨h1,h2,h3,h4,h5⟩:=h
 refine⟨ai (by omega) (by omega),fun _=>by omega,fun k' hk=>⟨by omega,by omega,by omega,h4,by omega⟩,?_,by unfold ymN;omega⟩
 unfold cv
 rw[show(v.length - i.toNat) / 8=(v.length - (i+8).toNat) / 8+1 by omega,cw,show(i+8).toNat=i.toNat+8 by omega]
theorem Kc{v k:List SV}{i:Int}(h:tK v i k)(hlt:¬ i < v.length):ymN v i=0/\cv v i=[]:=by
 obtain⟨h1,h2,h3,h4,h5⟩:=h
 refine⟨by unfold ymN;omega,?_⟩
 unfold cv
 rw[show(v.length - i.toNat) / 8=0 by omega];rfl
theorem zh{N q:Nat}{v:List SV}{b1 b2:Bool}{d:Ds}{f:Nat->Bool}{i:Int}{j:Nat}{k:List SV}(hN:v.length - i.toNat < N)(hj:j=k.length)(h:tK v i k)(K:Chunk->List SV->CTree):
  He N q v b1 b2 d f i j k K=K (ymX (.qs q 8 0 (k.length+ymN v i)) b1 b2 d f) (k++cv v i):=by
 unfold He
 rw[show Nat.blt (v.length - i.toNat) N=true by rw[bL];exact hN,dec_iff.2 ⟨by subst hj;rfl,h⟩]
 rfl
theorem DP      :aO     Tryz.prog qL   :=bG          (κ:=κva) (ι:=ιva) (T:=aF   []) (sp:=true) (fuel:=300) (c:=sj   ) (μ:=ymM) IS   aq     aE       (show aN    (aF   []) sj   =sj    by kernel_rfl) (by
 intro N args H v' ups' hbt h
 unfold qL Hd at h
 simp only[]at h
 split at h
 . rename_i v i cs
   split at h
   . rename_i y1 y2 y3 d f hd
     rw[aa]at h
     have hrd:=OP N v y1 y2 d f i
     by_cases hlt:i < v.length
     case neg=>
      rw[dF hlt,cF,aa]at h
      cases hc:dec _ with
      | false=>rw[hc]at h;cases h
      | true=>
       rw[hc,cT]at h
       rw[dF hlt,cF]at hrd
       rw[dec_iff.1 hc]
       exact .inl ⟨_,(congrArg ac hrd).trans h,fun x=>rfl⟩
     rw[dT0 hlt,cT,aa]at h
     cases hc:dec _ with
     | false=>rw[hc]at h;cases h
     | true=>
      rw[hc,cT]at h
      obtain⟨hH,hp⟩:=dec_iff.1 hc
      rw[hH]
      have hN:Nat.blt (v.length - i.toNat) (N+1)=true:=hbt
      rw[bL]at hN
      obtain⟨q1,q2,q3,q4,q5⟩:=zg (N:=N) hp hlt
      rw[dT0 hlt,cT,zf hp hlt,q1,zh (j:=1) (k:=[SV.agg (du (sl v i.toNat 8) 0 8)]) (q2 hN) rfl (q3 [SV.agg (du (sl v i.toNat 8) 0 8)] (by simp))]at hrd
      rw[q5,q4]at h
      cases h
      rw[show [SV.agg (du (sl v i.toNat 8) 0 8)].length+ymN v (i+8)=ymN v (i+8)+1 by simp;omega]at hrd
      exact .inl ⟨_,congrArg ac hrd,fun x=>rfl⟩
   . cases h
 . rename_i v i cs k
   split at h
   . rename_i y1 y2 y3 d f hd
     rw[aa]at h
     cases hc:dec _ with
     | false=>rw[hc]at h;cases h
     | true=>
      rw[hc,cT]at h
      obtain⟨hH,hp⟩:=dec_iff.1 hc
      rw[hH]
      have hrd:=OQ N v y1 y2 d f i k.length k
      have hN:Nat.blt (v.length - i.toNat) (N+1)=true:=hbt
      rw[bL]at hN
      by_cases hlt:i < v.length
      . obtain⟨q1,q2,q3,q4,q5⟩:=zg (N:=N) hp hlt
        have hk:k.length<=40000:=by have:=hp.2.2.2.2;omega
        rw[dT0 hlt,cT,zf hp hlt,dT0 rfl,cT,dT0 (show k.length+1<=9223372036854775807 by omega),dT0 (show(k.length+1) * 8<=140737488355328 by omega),Bool.and_self,cT,q1,zh (j:=k.length+1) (k:=k++[SV.agg (du (sl v i.toNat 8) 0 8)]) (q2 hN) (by simp) (q3 (k++[SV.agg (du (sl v i.toNat 8) 0 8)]) (by simp))]at hrd
        rw[q5,q4]at h
        cases h
        rw[lA0,aA,lS,List.singleton_append,Nat.add_assoc,Nat.add_comm 1]at hrd
        exact .inl ⟨_,congrArg ac hrd,fun x=>rfl⟩
      . have hz:ymN v i=0/\cv v i=[]:=Kc hp hlt
        rw[dF hlt,cF]at hrd
        rw[hz.1,hz.2,Nat.add_zero,List.append_nil]at h
        cases h
        exact .inr ⟨_,_,congrArg ac hrd,GU⟩
   . cases h
 . cases h)
noncomputable abbrev T77:cu:=aF [("c",pM),("m",qL)]
noncomputable abbrev m77:Code:=bx [(23, "c"),(33, "m")] cD
noncomputable def ylL(l:List SV)(pb mb:Bool)(d:Ds)(f:Nat->Bool)(b:Bool):CTree:=
 bif decide ((0:Int) < l.length)then bif dec (ylA pb mb d f=ylA pb mb d (mtF (mtL f 256 0))/\td l 0 [])then .ret (.bool b) [(0,some (ylX (.qs 1 1 0 (ylN l 0)) pb mb d f)),(1,some (.seq 37 (wv l 0)))]else .fail
 else bif dec (ylA pb mb d f=ylA pb mb d (mtF (mtL f 256 0)))then .ret (.bool b) []else .fail
theorem Oz(v:List SV)(pb mb:Bool)(d:Ds)(f:Nat->Bool):vB T77 m77 (vAr 10 v) [(0,rS pb true mb d f)]=
 liC v 16 (fun l b=>ylL l pb mb d f b):=by cases pb <;> cases mb <;> kernel_rfl
noncomputable def ymL(v:List SV)(pb cb:Bool)(d:Ds)(f:Nat->Bool):CTree:=
 bif decide ((0:Int) < v.length)then bif dec (ymA pb cb d f=ymA pb cb d (mtF (mtL f 256 0))/\tK v 0 [])then .ret (.bool true) [(0,some (ymX (.qs 1 8 0 (ymN v 0)) pb cb d f)),(1,some (.seq 136 (cv v 0)))]else .fail
 else bif dec (ymA pb cb d f=ymA pb cb d (mtF (mtL f 256 0)))then .ret (.bool true) []else .fail
theorem OA(v:List SV)(pb cb:Bool)(d:Ds)(f:Nat->Bool):vB T77 m77 (vAr 16 v) [(0,rS pb cb true d f)]=
 bif(v.length:Int)==0 then vF else bif(v.length:Int).tmod 8 !=0 then vF else bif decide ((v.length:Int) > 512)then vF else ymL v pb cb d f:=by cases pb <;> cases cb <;> kernel_rfl
theorem Ke(v:List SV)(k:Nat):frm v (k:Int)=v.drop k:=by
 unfold frm
 exact List.take_of_length_le (by rw[List.length_drop];simp)
theorem tv{v:List SV}{k:Nat}(h:k<=v.length)(K:List SV->CTree):frC v (k:Int) K=K (v.drop k):=by
 unfold frC
 rw[dT0 (show(0:Int)<=k by omega),dT0 (show(k:Int)<=v.length by omega),dT0 (Int.le_refl _),Ke];rfl
theorem HX   {n k:Nat}(hn:n<=1000000)(hk:k<=1000):liB (n:Int) (k:Int)= !(elB (n:Int) 4 (k:Int)):=by
 have h1:liB (n:Int) (k:Int)=false↔n≠0/\n % 4=0/\n<=4 * k:=by
  unfold liB
  rw[Int.tmod_eq_emod_of_nonneg (by omega),show w64 (4 * (k:Int))=4 * k from ai (by omega) (by omega)]
  cases c1:((n:Int)==0)with
  | true=>
   have : n = 0 := by have : (n : Int) = 0 := by simpa using c1
                      omega
   exact⟨fun h=>(by cases h),fun h=>absurd this h.1⟩
  | false=>
   have n0:n≠0:=by rintro rfl;cases c1
   cases c2:((n:Int) % 4 !=0)with
   | true=>
    have:(n:Int) % 4≠0:=by simpa using c2
    exact⟨fun h=>(by cases h),fun h=>by have:=h.2.1;omega⟩
   | false=>
    have:(n:Int) % 4=0:=by simpa using c2
    by_cases c3:(n:Int) > 4 * k
    . rw[dT0 c3]
      exact⟨fun h=>(by cases h),fun h=>by have:=h.2.2;omega⟩
    . rw[dF c3]
      exact⟨fun _=>⟨n0,by omega,by omega⟩,fun _=>rfl⟩
 have h2:=pw (k:=n) hn (z:=4) (m:=k) (by omega)
 cases hb:elB (n:Int) 4 (k:Int)with
 | true=>have:=h2.1 hb;rw[Bool.not_true];exact h1.2 ⟨by omega,by omega,by omega⟩
 | false=>
  rw[Bool.not_false]
  cases hl:liB (n:Int) (k:Int)with
  | true=>rfl
  | false=>
   have:=h1.1 hl
   have:=h2.2 ⟨by omega,by omega,by omega⟩
   rw[show((4:Nat):Int)=4 from rfl,hb]at this;cases this
theorem DW(es:List SV):∀ (k a:Nat),(wd es a k).map n32=wd es a k
 | 0,_=>rfl
 | k+1,a=>by rw[wd,List.map_cons,DW es k (a+4)];rfl
theorem zi{es:List SV}{s:Nat}:∀ (k j:Nat),wd (es.drop s) j k=wd es (s+j) k
 | 0,_=>rfl
 | k+1,j=>by
  have ht:∀ m,tkN (es.drop s) j m=tkN es (s+j) m:=by
   intro m
   induction m with
   | zero=>rfl
   | succ m ih=>rw[tkN,tkN,ih];unfold dg;rw[gD0,List.getElem?_drop,gD0,Nat.add_assoc]
  rw[wd,wd,ht,zi k (j+4),Nat.add_assoc]
theorem qa{es:List SV}{s j:Nat}:∀ m,tkN (es.drop s) j m=tkN es (s+j) m
 | 0=>rfl
 | m+1=>by rw[tkN,tkN,qa m];unfold dg;rw[gD0,List.getElem?_drop,gD0,Nat.add_assoc]
theorem lU{es:List SV}{s j:Nat}:dg (es.drop s) j=dg es (s+j):=by
 unfold dg;rw[gD0,List.getElem?_drop,gD0]
theorem xq{n m:Int}(h1:0<=n/\n<=255)(h2:0<=m/\m<=255)(h:UInt8.ofNat n.toNat=UInt8.ofNat m.toNat):n=m:=by
 have:=congrArg UInt8.toNat h
 rw[UInt8.toNat_ofNat',UInt8.toNat_ofNat']at this
 omega
theorem zj     {v:List SV}(hv:byl v)(hl:3<=v.length):(hd3 v==Cf  )=(tkN v 0 3==6470):=by
 match v,hl with
 | a :: b :: c :: t,_=>
  obtain⟨x,rfl,x0,x1⟩:=hv a (by simp)
  obtain⟨y,rfl,y0,y1⟩:=hv b (by simp)
  obtain⟨z,rfl,w0,w1⟩:=hv c (by simp)
  have e1:hd3 (.int .u8 x :: .int .u8 y :: .int .u8 z :: t)=[UInt8.ofNat x.toNat,UInt8.ofNat y.toNat,UInt8.ofNat z.toNat]:=rfl
  have e2:tkN (.int .u8 x :: .int .u8 y :: .int .u8 z :: t) 0 3=((0 * 256+x) * 256+y) * 256+z:=rfl
  rw[e1,e2]
  by_cases h:((0 * 256+x) * 256+y) * 256+z=6470
  . have hx:x=0:=by omega
    have hy:y=25:=by omega
    have hz:z=70:=by omega
    subst hx hy hz
    rfl
  . rw[show(((0 * 256+x) * 256+y) * 256+z==6470)=false by simpa using h]
    cases hq:([UInt8.ofNat x.toNat,UInt8.ofNat y.toNat,UInt8.ofNat z.toNat]==Cf)with
    | false=>rfl
    | true=>
     have hq':=eq_of_beq hq
     unfold Cf at hq'
     simp only[List.cons.injEq,and_true]at hq'
     obtain⟨g1,g2,g3⟩:=hq'
     have:=xq (m:=0) ⟨x0,x1⟩ (by omega) g1
     have:=xq (m:=25) ⟨y0,y1⟩ (by omega) g2
     have:=xq (m:=70) ⟨w0,w1⟩ (by omega) g3
     omega
def fd(F:Int->List SV->Cs->Bool × Cs):List SV->Cs->Option Cs
 | [],s=>some s
 | x :: xs,s=>bif(F (ci x 0) (cl x 1) s).1 then fd F xs (F (ci x 0) (cl x 1) s).2 else none
theorem tL{F:Int->List SV->Cs->Bool × Cs}{x:SV}{xs:List SV}{s:Cs}:fd F (x :: xs) s=bif(F (ci x 0) (cl x 1) s).1 then fd F xs (F (ci x 0) (cl x 1) s).2 else none:=rfl
theorem Hl{c:Int}{v:List SV}{s:Cs}:fV c v s=bif c==2 then eJ cQ v s else(false,s):=rfl
theorem xD{F:Int->List SV->Cs->Bool × Cs}:∀ (a b:List SV) (s:Cs),fd F (a++b) s=(fd F a s).bind (fd F b)
 | [],b,s=>rfl
 | x :: a,b,s=>by
  show(bif(F (ci x 0) (cl x 1) s).1 then fd F (a++b) (F (ci x 0) (cl x 1) s).2 else none)=(bif(F (ci x 0) (cl x 1) s).1 then fd F a (F (ci x 0) (cl x 1) s).2 else none).bind (fd F b)
  cases(F (ci x 0) (cl x 1) s).1 with
  | true=>rw[cT,cT,xD a b]
  | false=>rfl
def tM(o:Option (List SV))(F:Int->List SV->Cs->Bool × Cs)(s:Cs)(r:Bool × Cs):Prop:=match o with
 | none=>r.1=false
 | some ys=>match fd F ys s with
  | some t=>r=(true,t)
  | none=>r.1=false
theorem tN{p:List SV}:∀ (f a:Nat) (rs:List SV),itF f p a rs=(itF f p a []).map (rs++ ·)
 | 0,a,rs=>by simp[itF]
 | f+1,a,rs=>by
  unfold itF
  cases decide (a < p.length)with
  | false=>simp
  | true=>
   rw[cT,cT]
   cases(bif decide ((a:Int)+2 > p.length)then true else decide ((a:Int)+2+dg p (a+1) > p.length))with
   | true=>rfl
   | false=>
    rw[cF,cF,tN f _ (rs++_),tN f _ ([]++_),Option.map_map]
    congr 1
    funext x
    simp
theorem EB    {F:Int->List SV->Cs->Bool × Cs}{p:List SV}(hb:byl p):∀ (f a:Nat) (s:Cs),p.length - a<=f->tM   (itF f p a []) F s (eJ   F (p.drop a) s)
 | 0,a,s,h=>by
  rw[lG (by rw[List.length_drop];omega)]
  rfl
 | f+1,a,s,h=>by
  unfold itF
  by_cases ha:a < p.length
  . have hl:(p.drop a).length=p.length - a:=List.length_drop
    obtain⟨d0,d1⟩:=hb.ok (a+1)
    have q0:dg (p.drop a) 0=dg p a:=lU
    have q1:dg (p.drop a) 1=dg p (a+1):=lU
    rw[dT0 ha,cT,mJ (by omega),q0,q1]
    by_cases h2:(a:Int)+2 > p.length
    . rw[dT0 h2,cT,cT,dT0 (show((p.drop a).length:Int) < 2 by omega),cT];rfl
    . rw[dF              h2,cF        ,dF              (show ¬ ((p.drop a).length:Int) < 2 by omega),cF        ]
      by_cases h3:(a:Int)+2+dg p (a+1) > p.length
      . rw[dT0 h3,cT,dT0 (show((p.drop a).length:Int) < 2+dg p (a+1)by omega),cT];rfl
      . rw[dF h3,cF,dF (show ¬ ((p.drop a).length:Int) < 2+dg p (a+1)by omega),cF,tN]
        have e1:sl (p.drop a) 2 (dg p (a+1)).toNat=sl p (a+2) (dg p (a+1)).toNat:=by unfold sl;rw[List.drop_drop]
        have e2:(p.drop a).drop (2+(dg p (a+1)).toNat)=p.drop (a+2+(dg p (a+1)).toNat):=by rw[List.drop_drop,Nat.add_assoc]
        rw[e1,e2]
        have ih:=EB (F:=F) hb f (a+2+(dg p (a+1)).toNat) (F (dg p a) (sl p (a+2) (dg p (a+1)).toNat) s).2 (by omega)
        generalize eJ F (p.drop (a+2+(dg p (a+1)).toNat)) (F (dg p a) (sl p (a+2) (dg p (a+1)).toNat) s).2=r at *
        cases hX:itF f p (a+2+(dg p (a+1)).toNat) []with
        | none=>
         rw[hX]at ih
         have ih':r.1=false:=ih
         show(bif _ then r else(false,_)).1=false
         cases(F (dg p a) (sl p (a+2) (dg p (a+1)).toNat) s).1
         . rfl
         . exact ih'
        | some ys=>
         rw[hX]at ih
         show tM (some ([]++[itV (dg p a) (sl p (a+2) (dg p (a+1)).toNat)]++ys)) F s _
         unfold tM at ih ⊢
         simp only[nA,List.cons_append]at ih ⊢
         rw[tL,LI,LJ]
         cases(F (dg p a) (sl p (a+2) (dg p (a+1)).toNat) s).1 with
         | true=>exact ih
         | false=>rfl
  . rw[dF ha,cF,lG (by rw[List.length_drop];omega)]
    rfl
theorem zF{F:Int->List SV->Cs->Bool × Cs}{p:List SV}(hb:byl p)(s:Cs):tM (itL p) F s (eJ F p s):=by
 have:=EB (F:=F) hb p.length 0 s (by omega)
 rw[List.drop_zero]at this
 exact this
theorem EC:∀ (f:Nat) (l:List SV) (i:Nat) (s:Cs),l.length - i=f->foF f l i s=fd cQ (l.drop i) s
 | 0,l,i,s,h=>by rw[List.drop_eq_nil_of_le (by omega)];rfl
 | f+1,l,i,s,h=>by
  have hi:i < l.length:=by omega
  rw[List.drop_eq_getElem_cons hi,tL]
  unfold foF
  rw[show l.getD i .junk=l[i]by rw[gD0,List.getElem?_eq_getElem hi,Option.getD_some]]
  cases(cQ (ci l[i] 0) (cl l[i] 1) s).1 with
  | true=>rw[cT,cT,EC f l (i+1) _ (by omega)]
  | false=>rfl
theorem tO:∀ (f:Nat) (ps:List SV) (i:Nat) (rs:List SV),cpF f ps i rs=(cpF f ps i []).map (rs++ ·)
 | 0,ps,i,rs=>by simp[cpF]
 | f+1,ps,i,rs=>by
  unfold cpF
  cases ci (ps.getD i .junk) 0 !=2 with
  | true=>rfl
  | false=>
   rw[cF,cF]
   cases !(itL (cl (ps.getD i .junk) 1)).isSome with
   | true=>rfl
   | false=>
    rw[cF,cF,tO f ps _ (rs++_),tO f ps _ ([]++_),Option.map_map]
    congr 1
    funext x
    simp
theorem ED    {ps:List SV}(hb:∀ j,byl (cl (ps.getD j .junk) 1)):∀ (f i:Nat) (s:Cs),ps.length - i=f->fd fV   (ps.drop i) s=(cpF f ps i []).bind (fun ys=>fd cQ   ys s)
 | 0,i,s,h=>by rw[List.drop_eq_nil_of_le (by omega)];rfl
 | f+1,i,s,h=>by
  have hi:i < ps.length:=by omega
  have hx:ps.getD i .junk=ps[i]:=by rw[gD0,List.getElem?_eq_getElem hi,Option.getD_some]
  have hbi:=hb i
  rw[List.drop_eq_getElem_cons hi,tL]
  unfold cpF
  rw[<- hx]
  generalize ps.getD i .junk=x at *
  rw[Hl]
  cases c1:ci x 0==2 with
  | false=>
   rw[show(ci x 0 !=2)=true by unfold bne;rw[c1];rfl]
   rfl
  | true=>
   rw[show(ci x 0 !=2)=false by unfold bne;rw[c1];rfl,cT,cF]
   have hv:=zF (F:=cQ) hbi s
   generalize eJ cQ (cl x 1) s=r at *
   cases hq:itL (cl x 1)with
   | none=>
    rw[hq]at hv
    have hv':r.1=false:=hv
    rw[hv'];rfl
   | some ys=>
    rw[hq]at hv
    unfold tM at hv
    simp only[]at hv
    simp only[Option.isSome_some,Bool.not_true,cF,Option.getD_some,nA]
    rw[tO]
    cases hf:fd cQ ys s with
    | none=>
     rw[hf]at hv
     have hv':r.1=false:=hv
     rw[hv',cF]
     cases cpF f ps (i+1) []with
     | none=>rfl
     | some zs=>
      show none=fd cQ (ys++zs) s
      rw[xD,hf];rfl
    | some t=>
     rw[hf]at hv
     have hv':r=(true,t):=hv
     rw[hv',cT,ED hb f (i+1) t (by omega)]
     cases cpF f ps (i+1) []with
     | none=>rfl
     | some zs=>
      show fd cQ zs t=fd cQ (ys++zs) s
      rw[xD,hf];rfl
theorem EE{q:List SV}(hb:byl q)(s:Cs):tM (cpL q) cQ s (eJ fV q s):=by
 have hv:=zF (F:=fV) hb s
 unfold cpL
 cases hq:itL q with
 | none=>rw[hq]at hv;exact hv
 | some ps=>
  rw[hq]at hv
  obtain⟨g1,_⟩:=pf hb hq
  have hp:=ED (fun j=>(mB g1 j).1) ps.length 0 s (by omega)
  rw[List.drop_zero]at hp
  change tM (cpF ps.length ps 0 []) cQ s (eJ fV q s)
  unfold tM at hv ⊢
  simp only[]at hv
  rw[hp]at hv
  cases hc:cpF ps.length ps 0 []with
  | none=>rw[hc]at hv;exact hv
  | some ys=>rw[hc]at hv;exact hv
end Go.Proofs.YtnlmhpancboddaaGreat
