/- The reference reads attributes: the loop over clusters. -/
import Derived.Test.YtnlmhpancboddaaGreatPart23
set_option linter.unusedVariables false
set_option linter.unusedSimpArgs false
namespace Go.Proofs.YtnlmhpancboddaaGreat
open Go.Am
set_option maxRecDepth 100000
def rSx(p c m:SV)(d:Ds)(f:Nat->Bool):Chunk:=.cells 129([.int .i64 d.ori,p,.int .u32 d.nx,.bool d.hm,.int .u32 d.med,.bool d.hp,.int .u32 d.prf,.bool d.ho,.int .u32 d.orr,c,m,.int .i64 d.tk,.int .u32 d.tl,.int .u32 d.tr,.int .u32 d.tg,.psl 88 d.rch,.psl 88 d.unr]++mtL f 256 0)
def mtF(l:List SV)(i:Nat):Bool:=asB(l.getD i .junk)
def yP:List SV->Option(Bool × Bool × Bool × Ds × (Nat->Bool))
 | .int .i64 ori :: p :: .int .u32 nx :: .bool hm :: .int .u32 med :: .bool hp :: .int .u32 prf :: .bool ho :: .int .u32 orr :: c :: m :: .int .i64 tk :: .int .u32 tl :: .int .u32 tr :: .int .u32 tg :: .psl 88 rch :: .psl 88 unr :: l=>
  some(bsOf p,bsOf c,bsOf m,⟨ori,nx,med,prf,orr,tk,tl,tr,tg,hm,hp,ho,asL p,asL c,asL m,rch,unr⟩,mtF l)
 | _=>none
def n32(x:SV):SV:=.int .u32(asI x)
def wv(v:List SV)(i:Int):List SV:=(v.drop i.toNat).map n32
def cv(v:List SV)(i:Int):List SV:=cw v i.toNat((v.length - i.toNat) / 8)
noncomputable def c77yl:Code:=(loopAt 23 body77).getD .skip
def ylX(q:SV)(b1 b2:Bool)(d:Ds)(f:Nat->Bool):Chunk:=rSx(nz b1 36 d.path)q(nz b2 136 d.cm)d f
def ylA(b1 b2:Bool)(d:Ds)(f:Nat->Bool):HpL:=[(0,ylX .nils b1 b2 d f)]
def ylB(b1 b2:Bool)(d:Ds)(f:Nat->Bool)(j:Nat)(k:List SV):HpL:=[(0,ylX(.qs 1 1 0 j)b1 b2 d f),(1,.seq 37 k)]
def ylOk(v:List SV)(i:Int)(k:List SV):Prop:=True/\0<=i/\i<=v.length/\v.length<=20000/\k.length+(v.length - i.toNat)<=40000
def ylN(v:List SV)(i:Int):Nat:=(v.length - i.toNat)
noncomputable def yl_s:CSumm:=fun args H=>match args,H with
 | [.ptr 0 0,.psl 36 v,.int .i64 i],[(0,.cells 129 cs)]=>
  match yP cs with
  | some(b1,_,b2,d,f)=>.ite(decide(i < v.length))(.ite(dec(H=ylA b1 b2 d f/\ylOk v i []))(.ret(.tup [.int .i64 3]) [(0,some(ylX(.qs 1 1 0(ylN v i))b1 b2 d f)),(1,some(.seq 37(wv v i)))]) .fail)(.ite(dec(H=ylA b1 b2 d f))(.ret(.tup [.int .i64 3]) []) .fail)
  | none=>.fail
 | [.ptr 0 0,.psl 36 v,.int .i64 i],[(0,.cells 129 cs),(1,.seq 37 k)]=>
  match yP cs with
  | some(b1,_,b2,d,f)=>.ite(dec(H=ylB b1 b2 d f k.length k/\ylOk v i k))(.ret(.tup [.int .i64 3]) [(0,some(ylX(.qs 2 1 0(k.length+ylN v i))b1 b2 d f)),(1,none),(2,some(.seq 37(k++wv v i)))]) .fail
  | none=>.fail
 | _,_=>.fail
def ylM:List SV->HpL->Nat
 | [_,.psl _ v,.int _ i],_=>v.length - i.toNat
 | _,_=>0
noncomputable def e77yl:LEnt:={ins:=[0,7,9],outs:=[],keep:=[8],size:=160,code:=c77yl,s:=yl_s}
noncomputable def ylNx(N q:Nat)(v:List SV)(b1 b2:Bool)(d:Ds)(f:Nat->Bool)(i:Int)(j:Nat)(k:List SV)(K:Chunk->List SV->CTree):CTree:=
 bif Nat.blt(v.length - i.toNat)N then bif dec(ylB b1 b2 d f j k=ylB b1 b2 d f k.length k/\ylOk v i k)then
  K(ylX(.qs q 1 0(k.length+ylN v i))b1 b2 d f)(k++wv v i)else .fail else .fail
def ylEl(v:List SV)(i:Int)(K:SV->CTree):CTree:=bif inB i v.length then K(n32(v.getD i.toNat .junk))else .fail
theorem yl_a(N:Nat)(v:List SV)(b1 b2:Bool)(d:Ds)(f:Nat->Bool)(i:Int):loopOnce Tryz.prog κva ιva(ltab [])true 300 e77yl{e77yl with s:=boundT ylM yl_s N}c77yl [.ptr 0 0,.psl 36 v,.int .i64 i] (ylA b1 b2 d f)=
 bif decide(i < v.length)then ylEl v i(fun x=>ylNx N 1 v b1 b2 d f(w64(i+1))1 [x] (fun c k'=>.ret(.tup [.int .i64 3]) [(0,some c),(1,some(.seq 37 k'))]))
 else .ret(.tup [.int .i64 3]) []:=by cases b1 <;> cases b2 <;> kernel_rfl
theorem yl_b(N:Nat)(v:List SV)(b1 b2:Bool)(d:Ds)(f:Nat->Bool)(i:Int)(j:Nat)(k:List SV):loopOnce Tryz.prog κva ιva(ltab [])true 300 e77yl{e77yl with s:=boundT ylM yl_s N}c77yl [.ptr 0 0,.psl 36 v,.int .i64 i] (ylB b1 b2 d f j k)=
 bif decide(i < v.length)then ylEl v i(fun x=>bif decide(j=k.length)then bif decide(k.length+1<=9223372036854775807)&&decide((k.length+1) * 4<=140737488355328)then ylNx N 2 v b1 b2 d f(w64(i+1))(k.length+1)(k++[x])(fun c k'=>.ret(.tup [.int .i64 3]) [(0,some c),(1,none),(2,some(.seq 37 k'))])
  else .fail else .fail)
 else .ret(.tup [.int .i64 3]) []:=by cases b1 <;> cases b2 <;> kernel_rfl
noncomputable def c77ym:Code:=(loopAt 33 body77).getD .skip
def ymX(q:SV)(b1 b2:Bool)(d:Ds)(f:Nat->Bool):Chunk:=rSx(nz b1 36 d.path)(nz b2 37 d.cl)q d f
def ymA(b1 b2:Bool)(d:Ds)(f:Nat->Bool):HpL:=[(0,ymX .nils b1 b2 d f)]
def ymB(b1 b2:Bool)(d:Ds)(f:Nat->Bool)(j:Nat)(k:List SV):HpL:=[(0,ymX(.qs 1 8 0 j)b1 b2 d f),(1,.seq 136 k)]
def ymOk(v:List SV)(i:Int)(k:List SV):Prop:=(v.length - i.toNat) % 8=0/\0<=i/\i<=v.length/\v.length<=20000/\k.length+((v.length - i.toNat) / 8)<=40000
def ymN(v:List SV)(i:Int):Nat:=((v.length - i.toNat) / 8)
noncomputable def ym_s:CSumm:=fun args H=>match args,H with
 | [.ptr 0 0,.psl 5 v,.int .i64 i],[(0,.cells 129 cs)]=>
  match yP cs with
  | some(b1,b2,_,d,f)=>.ite(decide(i < v.length))(.ite(dec(H=ymA b1 b2 d f/\ymOk v i []))(.ret(.tup [.int .i64 5]) [(0,some(ymX(.qs 1 8 0(ymN v i))b1 b2 d f)),(1,some(.seq 136(cv v i)))]) .fail)(.ite(dec(H=ymA b1 b2 d f))(.ret(.tup [.int .i64 5]) []) .fail)
  | none=>.fail
 | [.ptr 0 0,.psl 5 v,.int .i64 i],[(0,.cells 129 cs),(1,.seq 136 k)]=>
  match yP cs with
  | some(b1,b2,_,d,f)=>.ite(dec(H=ymB b1 b2 d f k.length k/\ymOk v i k))(.ret(.tup [.int .i64 5]) [(0,some(ymX(.qs 2 8 0(k.length+ymN v i))b1 b2 d f)),(1,none),(2,some(.seq 136(k++cv v i)))]) .fail
  | none=>.fail
 | _,_=>.fail
def ymM:List SV->HpL->Nat
 | [_,.psl _ v,.int _ i],_=>v.length - i.toNat
 | _,_=>0
noncomputable def e77ym:LEnt:={ins:=[0,2,10],outs:=[],keep:=[8],size:=160,code:=c77ym,s:=ym_s}
noncomputable def ymNx(N q:Nat)(v:List SV)(b1 b2:Bool)(d:Ds)(f:Nat->Bool)(i:Int)(j:Nat)(k:List SV)(K:Chunk->List SV->CTree):CTree:=
 bif Nat.blt(v.length - i.toNat)N then bif dec(ymB b1 b2 d f j k=ymB b1 b2 d f k.length k/\ymOk v i k)then
  K(ymX(.qs q 8 0(k.length+ymN v i))b1 b2 d f)(k++cv v i)else .fail else .fail
def ymEl(v:List SV)(i:Int)(K:SV->CTree):CTree:=bif decide(0<=i)&&decide(i<=w64(i+8))&&decide(w64(i+8)<=(v.length:Int))then bif decide(8<=((v.drop i.toNat).take((w64(i+8)).toNat - i.toNat)).length)then K(.agg(bvals((v.drop i.toNat).take((w64(i+8)).toNat - i.toNat))0 8))else .fail else .fail
theorem ym_a(N:Nat)(v:List SV)(b1 b2:Bool)(d:Ds)(f:Nat->Bool)(i:Int):loopOnce Tryz.prog κva ιva(ltab [])true 300 e77ym{e77ym with s:=boundT ymM ym_s N}c77ym [.ptr 0 0,.psl 5 v,.int .i64 i] (ymA b1 b2 d f)=
 bif decide(i < v.length)then ymEl v i(fun x=>ymNx N 1 v b1 b2 d f(w64(i+8))1 [x] (fun c k'=>.ret(.tup [.int .i64 5]) [(0,some c),(1,some(.seq 136 k'))]))
 else .ret(.tup [.int .i64 5]) []:=by cases b1 <;> cases b2 <;> kernel_rfl
theorem ym_b(N:Nat)(v:List SV)(b1 b2:Bool)(d:Ds)(f:Nat->Bool)(i:Int)(j:Nat)(k:List SV):loopOnce Tryz.prog κva ιva(ltab [])true 300 e77ym{e77ym with s:=boundT ymM ym_s N}c77ym [.ptr 0 0,.psl 5 v,.int .i64 i] (ymB b1 b2 d f j k)=
 bif decide(i < v.length)then ymEl v i(fun x=>bif decide(j=k.length)then bif decide(k.length+1<=9223372036854775807)&&decide((k.length+1) * 8<=140737488355328)then ymNx N 2 v b1 b2 d f(w64(i+8))(k.length+1)(k++[x])(fun c k'=>.ret(.tup [.int .i64 5]) [(0,some c),(1,none),(2,some(.seq 136 k'))])
  else .fail else .fail)
 else .ret(.tup [.int .i64 5]) []:=by cases b1 <;> cases b2 <;> kernel_rfl
theorem names_yl:∀ (f:Nat->Bool)(n i:Nat),namesL(mtL f n i)=[]
 | _,0,_=>rfl
 | f,n+1,i=>by rw[mtL];show namesS _++namesL _=_;rw[names_yl f n(i+1)];rfl
theorem namesA_yl:∀ (a b:List SV),namesL(a++b)=namesL a++namesL b
 | [],b=>rfl
 | x :: a,b=>by rw[List.cons_append,namesL,namesL,namesA_yl a b,aA]
theorem ren_yl(g:Nat->Nat):∀ (f:Nat->Bool)(n i:Nat),renL g(mtL f n i)=mtL f n i
 | _,0,_=>rfl
 | f,n+1,i=>by rw[mtL];show renS g _ :: renL g _=_;rw[ren_yl g f n(i+1)];rfl
theorem renA_yl(g:Nat->Nat):∀ (a b:List SV),renL g(a++b)=renL g a++renL g b
 | [],b=>rfl
 | x :: a,b=>by rw[List.cons_append,renL,renL,renA_yl g a b,List.cons_append]
theorem ylB_no{b1 b2:Bool}{d:Ds}{f:Nat->Bool}{j:Nat}{k:List SV}:∀ y c,(ylB b1 b2 d f j k).get y=some c->2 ∉ namesC c:=by
 intro y c hx
 have:=HpL_get_some _ _ _ hx
 simp only[ylB,List.mem_cons,pJ,List.not_mem_nil,or_false]at this
 rcases this with⟨_,rfl⟩ | ⟨_,rfl⟩
 . unfold ylX rSx;rw[namesC,namesA_yl,names_yl];cases b1 <;> cases b2 <;> simp[namesL,namesS,nz]
 . simp[namesC]
theorem ylB_ren{b1 b2:Bool}{d:Ds}{f:Nat->Bool}{j:Nat}{k:List SV}:Renamed(ylB b1 b2 d f j k)(.tup [.int .i64 3]) [] (.tup [.int .i64 3]) [(0,some(ylX(.qs 2 1 0 j)b1 b2 d f)),(1,none),(2,some(.seq 37 k))]:=by
 refine⟨1,2,by simp[ylB],by simp[namesS,namesL],ylB_no,rfl,fun y=> ?_⟩
 match y with
 | 0=>
  show some(ylX(.qs 2 1 0 j)b1 b2 d f)=some(renC(sw 1 2)(ylX(.qs 1 1 0 j)b1 b2 d f))
  unfold ylX rSx;rw[renC,renA_yl,ren_yl];cases b1 <;> cases b2 <;> rfl
 | 1=>rfl
 | 2=>rfl
 | y+3=>
  have h2:∀ k,k < 3->Nat.beq k(y+3)=false:=fun k hk=>nb_f(by omega)
  have h1:∀ k,k < 3->¬ (y+3=k):=fun k hk=>by omega
  simp only[updF,ylB,HpL.get,h1 2(by omega),h1 1(by omega),h1 0(by omega),if_false,h2 0(by omega),h2 1(by omega),cF,Option.map_none]
theorem ylEl_ok{v k:List SV}{i:Int}(h:ylOk v i k)(hlt:i < v.length){K:SV->CTree}:ylEl v i K=K(n32(v.getD i.toNat .junk)):=by
 obtain⟨h1,h2,h3,h4,h5⟩:=h
 unfold ylEl
 rw[show inB i v.length=true by unfold inB;simp;omega];rfl
theorem yl_step{N:Nat}{v k:List SV}{i:Int}(h:ylOk v i k)(hlt:i < v.length):w64(i+1)=i+1/\(v.length - i.toNat < N+1->v.length - (i+1).toNat < N)/\(∀ k':List SV,k'.length=k.length+1->ylOk v(i+1)k')/\wv v i=n32(v.getD i.toNat .junk) :: wv v(i+1)/\ylN v i=ylN v(i+1)+1:=by
 obtain⟨h1,h2,h3,h4,h5⟩:=h
 refine⟨w64_id(by omega)(by omega),fun _=>by omega,fun k' hk=>⟨trivial,by omega,by omega,h4,by omega⟩,?_,by unfold ylN;omega⟩
 unfold wv
 rw[show(i+1).toNat=i.toNat+1 by omega,List.drop_eq_getElem_cons(show i.toNat < v.length by omega),List.map_cons,gD0,List.getElem?_eq_getElem(show i.toNat < v.length by omega)]
 rfl
theorem yl_fin{v k:List SV}{i:Int}(h:ylOk v i k)(hlt:¬ i < v.length):ylN v i=0/\wv v i=[]:=by
 obtain⟨h1,h2,h3,h4,h5⟩:=h
 refine⟨by unfold ylN;omega,?_⟩
 unfold wv
 rw[List.drop_eq_nil_of_le(by omega)];rfl
theorem ylNx_ok{N q:Nat}{v:List SV}{b1 b2:Bool}{d:Ds}{f:Nat->Bool}{i:Int}{j:Nat}{k:List SV}(hN:v.length - i.toNat < N)(hj:j=k.length)(h:ylOk v i k)(K:Chunk->List SV->CTree):
  ylNx N q v b1 b2 d f i j k K=K(ylX(.qs q 1 0(k.length+ylN v i))b1 b2 d f)(k++wv v i):=by
 unfold ylNx
 rw[show Nat.blt(v.length - i.toNat)N=true by rw[bL];exact hN,dec_iff.2⟨by subst hj;rfl,h⟩]
 rfl
theorem yl_valid:ValidL Tryz.prog e77yl:=loop_valid2(κ:=κva)(ι:=ιva)(T:=ltab [])(sp:=true)(fuel:=300)(c:=c77yl)(μ:=ylM)vaOk mixTry ltab_nil(show fillC(ltab [])c77yl=c77yl by kernel_rfl)(by
 intro N args H v' ups' hbt h
 unfold e77yl yl_s at h
 simp only[]at h
 split at h
 . rename_i v i cs
   split at h
   . rename_i y1 y2 y3 d f hd
     rw[crun_ite]at h
     have hrd:=yl_a N v y1 y3 d f i
     by_cases hlt:i < v.length
     case neg=>
      rw[dF hlt,cF,crun_ite]at h
      cases hc:dec _ with
      | false=>rw[hc]at h;cases h
      | true=>
       rw[hc,cT]at h
       rw[dF hlt,cF]at hrd
       rw[dec_iff.1 hc]
       exact .inl⟨_,(congrArg crun hrd).trans h,fun x=>rfl⟩
     rw[dT0 hlt,cT,crun_ite]at h
     cases hc:dec _ with
     | false=>rw[hc]at h;cases h
     | true=>
      rw[hc,cT]at h
      obtain⟨hH,hp⟩:=dec_iff.1 hc
      rw[hH]
      have hN:Nat.blt(v.length - i.toNat)(N+1)=true:=hbt
      rw[bL]at hN
      obtain⟨q1,q2,q3,q4,q5⟩:=yl_step(N:=N)hp hlt
      rw[dT0 hlt,cT,ylEl_ok hp hlt,q1,ylNx_ok(j:=1)(k:=[n32(v.getD i.toNat .junk)])(q2 hN)rfl(q3 [n32(v.getD i.toNat .junk)] (by simp))]at hrd
      rw[q5,q4]at h
      cases h
      rw[show [n32(v.getD i.toNat .junk)].length+ylN v(i+1)=ylN v(i+1)+1 by simp;omega]at hrd
      exact .inl⟨_,congrArg crun hrd,fun x=>rfl⟩
   . cases h
 . rename_i v i cs k
   split at h
   . rename_i y1 y2 y3 d f hd
     rw[crun_ite]at h
     cases hc:dec _ with
     | false=>rw[hc]at h;cases h
     | true=>
      rw[hc,cT]at h
      obtain⟨hH,hp⟩:=dec_iff.1 hc
      rw[hH]
      have hrd:=yl_b N v y1 y3 d f i k.length k
      have hN:Nat.blt(v.length - i.toNat)(N+1)=true:=hbt
      rw[bL]at hN
      by_cases hlt:i < v.length
      . obtain⟨q1,q2,q3,q4,q5⟩:=yl_step(N:=N)hp hlt
        have hk:k.length<=40000:=by have:=hp.2.2.2.2;omega
        rw[dT0 hlt,cT,ylEl_ok hp hlt,dT0 rfl,cT,dT0(show k.length+1<=9223372036854775807 by omega),dT0(show(k.length+1) * 4<=140737488355328 by omega),Bool.and_self,cT,q1,ylNx_ok(j:=k.length+1)(k:=k++[n32(v.getD i.toNat .junk)])(q2 hN)(by simp)(q3(k++[n32(v.getD i.toNat .junk)])(by simp))]at hrd
        rw[q5,q4]at h
        cases h
        rw[lA0,aA,lS,List.singleton_append,Nat.add_assoc,Nat.add_comm 1]at hrd
        exact .inl⟨_,congrArg crun hrd,fun x=>rfl⟩
      . have hz:ylN v i=0/\wv v i=[]:=yl_fin hp hlt
        rw[dF hlt,cF]at hrd
        rw[hz.1,hz.2,Nat.add_zero,List.append_nil]at h
        cases h
        exact .inr⟨_,_,congrArg crun hrd,ylB_ren⟩
   . cases h
 . cases h)
theorem names_ym:∀ (f:Nat->Bool)(n i:Nat),namesL(mtL f n i)=[]
 | _,0,_=>rfl
 | f,n+1,i=>by rw[mtL];show namesS _++namesL _=_;rw[names_ym f n(i+1)];rfl
theorem namesA_ym:∀ (a b:List SV),namesL(a++b)=namesL a++namesL b
 | [],b=>rfl
 | x :: a,b=>by rw[List.cons_append,namesL,namesL,namesA_ym a b,aA]
theorem ren_ym(g:Nat->Nat):∀ (f:Nat->Bool)(n i:Nat),renL g(mtL f n i)=mtL f n i
 | _,0,_=>rfl
 | f,n+1,i=>by rw[mtL];show renS g _ :: renL g _=_;rw[ren_ym g f n(i+1)];rfl
theorem renA_ym(g:Nat->Nat):∀ (a b:List SV),renL g(a++b)=renL g a++renL g b
 | [],b=>rfl
 | x :: a,b=>by rw[List.cons_append,renL,renL,renA_ym g a b,List.cons_append]
theorem ymB_no{b1 b2:Bool}{d:Ds}{f:Nat->Bool}{j:Nat}{k:List SV}:∀ y c,(ymB b1 b2 d f j k).get y=some c->2 ∉ namesC c:=by
 intro y c hx
 have:=HpL_get_some _ _ _ hx
 simp only[ymB,List.mem_cons,pJ,List.not_mem_nil,or_false]at this
 rcases this with⟨_,rfl⟩ | ⟨_,rfl⟩
 . unfold ymX rSx;rw[namesC,namesA_ym,names_ym];cases b1 <;> cases b2 <;> simp[namesL,namesS,nz]
 . simp[namesC]
theorem ymB_ren{b1 b2:Bool}{d:Ds}{f:Nat->Bool}{j:Nat}{k:List SV}:Renamed(ymB b1 b2 d f j k)(.tup [.int .i64 5]) [] (.tup [.int .i64 5]) [(0,some(ymX(.qs 2 8 0 j)b1 b2 d f)),(1,none),(2,some(.seq 136 k))]:=by
 refine⟨1,2,by simp[ymB],by simp[namesS,namesL],ymB_no,rfl,fun y=> ?_⟩
 match y with
 | 0=>
  show some(ymX(.qs 2 8 0 j)b1 b2 d f)=some(renC(sw 1 2)(ymX(.qs 1 8 0 j)b1 b2 d f))
  unfold ymX rSx;rw[renC,renA_ym,ren_ym];cases b1 <;> cases b2 <;> rfl
 | 1=>rfl
 | 2=>rfl
 | y+3=>
  have h2:∀ k,k < 3->Nat.beq k(y+3)=false:=fun k hk=>nb_f(by omega)
  have h1:∀ k,k < 3->¬ (y+3=k):=fun k hk=>by omega
  simp only[updF,ymB,HpL.get,h1 2(by omega),h1 1(by omega),h1 0(by omega),if_false,h2 0(by omega),h2 1(by omega),cF,Option.map_none]
theorem ym_sl{v:List SV}{i:Int}(h0:0<=i)(h1:v.length<=20000)(h2:i<=v.length):(v.drop i.toNat).take((w64(i+8)).toNat - i.toNat)=sl v i.toNat 8:=by
 rw[show w64(i+8)=i+8 from w64_id(by omega)(by omega),show(i+8).toNat - i.toNat=8 by omega];rfl
theorem ymEl_ok{v k:List SV}{i:Int}(h:ymOk v i k)(hlt:i < v.length){K:SV->CTree}:ymEl v i K=K(.agg(bvals(sl v i.toNat 8)0 8)):=by
 obtain⟨h1,h2,h3,h4,h5⟩:=h
 unfold ymEl
 rw[ym_sl h2 h4 h3,show w64(i+8)=i+8 from w64_id(by omega)(by omega),sl_len(by omega),dT0 h2,dT0(show i<=i+8 by omega),dT0(show i+8<=(v.length:Int)by omega),dT0(by decide)]
 rfl
theorem ym_step{N:Nat}{v k:List SV}{i:Int}(h:ymOk v i k)(hlt:i < v.length):w64(i+8)=i+8/\(v.length - i.toNat < N+1->v.length - (i+8).toNat < N)/\(∀ k':List SV,k'.length=k.length+1->ymOk v(i+8)k')/\cv v i= .agg(bvals(sl v i.toNat 8)0 8) :: cv v(i+8)/\ymN v i=ymN v(i+8)+1:=by
 obtain⟨h1,h2,h3,h4,h5⟩:=h
 refine⟨w64_id(by omega)(by omega),fun _=>by omega,fun k' hk=>⟨by omega,by omega,by omega,h4,by omega⟩,?_,by unfold ymN;omega⟩
 unfold cv
 rw[show(v.length - i.toNat) / 8=(v.length - (i+8).toNat) / 8+1 by omega,cw,show(i+8).toNat=i.toNat+8 by omega]
theorem ym_fin{v k:List SV}{i:Int}(h:ymOk v i k)(hlt:¬ i < v.length):ymN v i=0/\cv v i=[]:=by
 obtain⟨h1,h2,h3,h4,h5⟩:=h
 refine⟨by unfold ymN;omega,?_⟩
 unfold cv
 rw[show(v.length - i.toNat) / 8=0 by omega];rfl
theorem ymNx_ok{N q:Nat}{v:List SV}{b1 b2:Bool}{d:Ds}{f:Nat->Bool}{i:Int}{j:Nat}{k:List SV}(hN:v.length - i.toNat < N)(hj:j=k.length)(h:ymOk v i k)(K:Chunk->List SV->CTree):
  ymNx N q v b1 b2 d f i j k K=K(ymX(.qs q 8 0(k.length+ymN v i))b1 b2 d f)(k++cv v i):=by
 unfold ymNx
 rw[show Nat.blt(v.length - i.toNat)N=true by rw[bL];exact hN,dec_iff.2⟨by subst hj;rfl,h⟩]
 rfl
theorem ym_valid:ValidL Tryz.prog e77ym:=loop_valid2(κ:=κva)(ι:=ιva)(T:=ltab [])(sp:=true)(fuel:=300)(c:=c77ym)(μ:=ymM)vaOk mixTry ltab_nil(show fillC(ltab [])c77ym=c77ym by kernel_rfl)(by
 intro N args H v' ups' hbt h
 unfold e77ym ym_s at h
 simp only[]at h
 split at h
 . rename_i v i cs
   split at h
   . rename_i y1 y2 y3 d f hd
     rw[crun_ite]at h
     have hrd:=ym_a N v y1 y2 d f i
     by_cases hlt:i < v.length
     case neg=>
      rw[dF hlt,cF,crun_ite]at h
      cases hc:dec _ with
      | false=>rw[hc]at h;cases h
      | true=>
       rw[hc,cT]at h
       rw[dF hlt,cF]at hrd
       rw[dec_iff.1 hc]
       exact .inl⟨_,(congrArg crun hrd).trans h,fun x=>rfl⟩
     rw[dT0 hlt,cT,crun_ite]at h
     cases hc:dec _ with
     | false=>rw[hc]at h;cases h
     | true=>
      rw[hc,cT]at h
      obtain⟨hH,hp⟩:=dec_iff.1 hc
      rw[hH]
      have hN:Nat.blt(v.length - i.toNat)(N+1)=true:=hbt
      rw[bL]at hN
      obtain⟨q1,q2,q3,q4,q5⟩:=ym_step(N:=N)hp hlt
      rw[dT0 hlt,cT,ymEl_ok hp hlt,q1,ymNx_ok(j:=1)(k:=[SV.agg(bvals(sl v i.toNat 8)0 8)])(q2 hN)rfl(q3 [SV.agg(bvals(sl v i.toNat 8)0 8)] (by simp))]at hrd
      rw[q5,q4]at h
      cases h
      rw[show [SV.agg(bvals(sl v i.toNat 8)0 8)].length+ymN v(i+8)=ymN v(i+8)+1 by simp;omega]at hrd
      exact .inl⟨_,congrArg crun hrd,fun x=>rfl⟩
   . cases h
 . rename_i v i cs k
   split at h
   . rename_i y1 y2 y3 d f hd
     rw[crun_ite]at h
     cases hc:dec _ with
     | false=>rw[hc]at h;cases h
     | true=>
      rw[hc,cT]at h
      obtain⟨hH,hp⟩:=dec_iff.1 hc
      rw[hH]
      have hrd:=ym_b N v y1 y2 d f i k.length k
      have hN:Nat.blt(v.length - i.toNat)(N+1)=true:=hbt
      rw[bL]at hN
      by_cases hlt:i < v.length
      . obtain⟨q1,q2,q3,q4,q5⟩:=ym_step(N:=N)hp hlt
        have hk:k.length<=40000:=by have:=hp.2.2.2.2;omega
        rw[dT0 hlt,cT,ymEl_ok hp hlt,dT0 rfl,cT,dT0(show k.length+1<=9223372036854775807 by omega),dT0(show(k.length+1) * 8<=140737488355328 by omega),Bool.and_self,cT,q1,ymNx_ok(j:=k.length+1)(k:=k++[SV.agg(bvals(sl v i.toNat 8)0 8)])(q2 hN)(by simp)(q3(k++[SV.agg(bvals(sl v i.toNat 8)0 8)])(by simp))]at hrd
        rw[q5,q4]at h
        cases h
        rw[lA0,aA,lS,List.singleton_append,Nat.add_assoc,Nat.add_comm 1]at hrd
        exact .inl⟨_,congrArg crun hrd,fun x=>rfl⟩
      . have hz:ymN v i=0/\cv v i=[]:=ym_fin hp hlt
        rw[dF hlt,cF]at hrd
        rw[hz.1,hz.2,Nat.add_zero,List.append_nil]at h
        cases h
        exact .inr⟨_,_,congrArg crun hrd,ymB_ren⟩
   . cases h
 . cases h)
noncomputable abbrev T77:LTab:=ltab [("c",e77yl),("m",e77ym)]
noncomputable abbrev m77:Code:=markC [(23, "c"),(33, "m")]body77
noncomputable def ylL(l:List SV)(pb mb:Bool)(d:Ds)(f:Nat->Bool)(b:Bool):CTree:=
 bif decide((0:Int) < l.length)then bif dec(ylA pb mb d f=ylA pb mb d(mtF(mtL f 256 0))/\ylOk l 0 [])then .ret(.bool b) [(0,some(ylX(.qs 1 1 0(ylN l 0))pb mb d f)),(1,some(.seq 37(wv l 0)))]else .fail
 else bif dec(ylA pb mb d f=ylA pb mb d(mtF(mtL f 256 0)))then .ret(.bool b) []else .fail
theorem v_10(v:List SV)(pb mb:Bool)(d:Ds)(f:Nat->Bool):vB T77 m77(vAr 10 v) [(0,rS pb true mb d f)]=
 liC v 16(fun l b=>ylL l pb mb d f b):=by cases pb <;> cases mb <;> kernel_rfl
noncomputable def ymL(v:List SV)(pb cb:Bool)(d:Ds)(f:Nat->Bool):CTree:=
 bif decide((0:Int) < v.length)then bif dec(ymA pb cb d f=ymA pb cb d(mtF(mtL f 256 0))/\ymOk v 0 [])then .ret(.bool true) [(0,some(ymX(.qs 1 8 0(ymN v 0))pb cb d f)),(1,some(.seq 136(cv v 0)))]else .fail
 else bif dec(ymA pb cb d f=ymA pb cb d(mtF(mtL f 256 0)))then .ret(.bool true) []else .fail
theorem v_16(v:List SV)(pb cb:Bool)(d:Ds)(f:Nat->Bool):vB T77 m77(vAr 16 v) [(0,rS pb cb true d f)]=
 bif(v.length:Int)==0 then vF else bif(v.length:Int).tmod 8!=0 then vF else bif decide((v.length:Int) > 512)then vF else ymL v pb cb d f:=by cases pb <;> cases cb <;> kernel_rfl
theorem frm_eq(v:List SV)(k:Nat):frm v(k:Int)=v.drop k:=by
 unfold frm
 exact List.take_of_length_le(by rw[List.length_drop];simp)
theorem frC_ok{v:List SV}{k:Nat}(h:k<=v.length)(K:List SV->CTree):frC v(k:Int)K=K(v.drop k):=by
 unfold frC
 rw[dT0(show(0:Int)<=k by omega),dT0(show(k:Int)<=v.length by omega),dT0(Int.le_refl _),frm_eq];rfl
theorem liB_n{n k:Nat}(hn:n<=1000000)(hk:k<=1000):liB(n:Int)(k:Int)= !(elB(n:Int)4(k:Int)):=by
 have h1:liB(n:Int)(k:Int)=false↔n≠0/\n % 4=0/\n<=4 * k:=by
  unfold liB
  rw[Int.tmod_eq_emod_of_nonneg(by omega),show w64(4 * (k:Int))=4 * k from w64_id(by omega)(by omega)]
  cases c1:((n:Int)==0)with
  | true=>
   have : n = 0 := by have : (n : Int) = 0 := by simpa using c1
                      omega
   exact⟨fun h=>(by cases h),fun h=>absurd this h.1⟩
  | false=>
   have n0:n≠0:=by rintro rfl;cases c1
   cases c2:((n:Int) % 4!=0)with
   | true=>
    have:(n:Int) % 4≠0:=by simpa using c2
    exact⟨fun h=>(by cases h),fun h=>by have:=h.2.1;omega⟩
   | false=>
    have:(n:Int) % 4=0:=by simpa using c2
    by_cases c3:(n:Int) > 4 * k
    . rw[dT0 c3]
      exact⟨fun h=>(by cases h),fun h=>by have:=h.2.2;omega⟩
    . rw[dF c3]
      exact⟨fun _=>⟨n0,by omega,by omega⟩,fun _=>rfl⟩
 have h2:=elB_n(k:=n)hn(z:=4)(m:=k)(by omega)
 cases hb:elB(n:Int)4(k:Int)with
 | true=>have:=h2.1 hb;rw[Bool.not_true];exact h1.2⟨by omega,by omega,by omega⟩
 | false=>
  rw[Bool.not_false]
  cases hl:liB(n:Int)(k:Int)with
  | true=>rfl
  | false=>
   have:=h1.1 hl
   have:=h2.2⟨by omega,by omega,by omega⟩
   rw[show((4:Nat):Int)=4 from rfl,hb]at this;cases this
theorem wd_n32(es:List SV):∀ (k a:Nat),(wd es a k).map n32=wd es a k
 | 0,_=>rfl
 | k+1,a=>by rw[wd,List.map_cons,wd_n32 es k(a+4)];rfl
theorem wd_drop{es:List SV}{s:Nat}:∀ (k j:Nat),wd(es.drop s)j k=wd es(s+j)k
 | 0,_=>rfl
 | k+1,j=>by
  have ht:∀ m,tkN(es.drop s)j m=tkN es(s+j)m:=by
   intro m
   induction m with
   | zero=>rfl
   | succ m ih=>rw[tkN,tkN,ih];unfold dg;rw[gD0,List.getElem?_drop,gD0,Nat.add_assoc]
  rw[wd,wd,ht,wd_drop k(j+4),Nat.add_assoc]
theorem tkN_drop{es:List SV}{s j:Nat}:∀ m,tkN(es.drop s)j m=tkN es(s+j)m
 | 0=>rfl
 | m+1=>by rw[tkN,tkN,tkN_drop m];unfold dg;rw[gD0,List.getElem?_drop,gD0,Nat.add_assoc]
theorem dg_drop{es:List SV}{s j:Nat}:dg(es.drop s)j=dg es(s+j):=by
 unfold dg;rw[gD0,List.getElem?_drop,gD0]
theorem u8_inj{n m:Int}(h1:0<=n/\n<=255)(h2:0<=m/\m<=255)(h:UInt8.ofNat n.toNat=UInt8.ofNat m.toNat):n=m:=by
 have:=congrArg UInt8.toNat h
 rw[UInt8.toNat_ofNat',UInt8.toNat_ofNat']at this
 omega
theorem hd3_fam{v:List SV}(hv:byl v)(hl:3<=v.length):(hd3 v==famS)=(tkN v 0 3==6470):=by
 match v,hl with
 | a :: b :: c :: t,_=>
  obtain⟨x,rfl,x0,x1⟩:=hv a(by simp)
  obtain⟨y,rfl,y0,y1⟩:=hv b(by simp)
  obtain⟨z,rfl,w0,w1⟩:=hv c(by simp)
  have e1:hd3(.int .u8 x :: .int .u8 y :: .int .u8 z :: t)=[UInt8.ofNat x.toNat,UInt8.ofNat y.toNat,UInt8.ofNat z.toNat]:=rfl
  have e2:tkN(.int .u8 x :: .int .u8 y :: .int .u8 z :: t)0 3=((0 * 256+x) * 256+y) * 256+z:=rfl
  rw[e1,e2]
  by_cases h:((0 * 256+x) * 256+y) * 256+z=6470
  . have hx:x=0:=by omega
    have hy:y=25:=by omega
    have hz:z=70:=by omega
    subst hx hy hz
    rfl
  . rw[show(((0 * 256+x) * 256+y) * 256+z==6470)=false by simpa using h]
    cases hq:([UInt8.ofNat x.toNat,UInt8.ofNat y.toNat,UInt8.ofNat z.toNat]==famS)with
    | false=>rfl
    | true=>
     have hq':=eq_of_beq hq
     unfold famS at hq'
     simp only[List.cons.injEq,and_true]at hq'
     obtain⟨g1,g2,g3⟩:=hq'
     have:=u8_inj(m:=0)⟨x0,x1⟩(by omega)g1
     have:=u8_inj(m:=25)⟨y0,y1⟩(by omega)g2
     have:=u8_inj(m:=70)⟨w0,w1⟩(by omega)g3
     omega
def fd(F:Int->List SV->Cs->Bool × Cs):List SV->Cs->Option Cs
 | [],s=>some s
 | x :: xs,s=>bif(F(ci x 0)(cl x 1)s).1 then fd F xs(F(ci x 0)(cl x 1)s).2 else none
theorem fd_cons{F:Int->List SV->Cs->Bool × Cs}{x:SV}{xs:List SV}{s:Cs}:fd F(x :: xs)s=bif(F(ci x 0)(cl x 1)s).1 then fd F xs(F(ci x 0)(cl x 1)s).2 else none:=rfl
theorem parF_eq{c:Int}{v:List SV}{s:Cs}:parF c v s=bif c==2 then visL capF v s else(false,s):=rfl
theorem fd_app{F:Int->List SV->Cs->Bool × Cs}:∀ (a b:List SV)(s:Cs),fd F(a++b)s=(fd F a s).bind(fd F b)
 | [],b,s=>rfl
 | x :: a,b,s=>by
  show(bif(F(ci x 0)(cl x 1)s).1 then fd F(a++b)(F(ci x 0)(cl x 1)s).2 else none)=(bif(F(ci x 0)(cl x 1)s).1 then fd F a(F(ci x 0)(cl x 1)s).2 else none).bind(fd F b)
  cases(F(ci x 0)(cl x 1)s).1 with
  | true=>rw[cT,cT,fd_app a b]
  | false=>rfl
def visO(o:Option(List SV))(F:Int->List SV->Cs->Bool × Cs)(s:Cs)(r:Bool × Cs):Prop:=match o with
 | none=>r.1=false
 | some ys=>match fd F ys s with
  | some t=>r=(true,t)
  | none=>r.1=false
theorem itF_acc{p:List SV}:∀ (f a:Nat)(rs:List SV),itF f p a rs=(itF f p a []).map(rs++ ·)
 | 0,a,rs=>by simp[itF]
 | f+1,a,rs=>by
  unfold itF
  cases decide(a < p.length)with
  | false=>simp
  | true=>
   rw[cT,cT]
   cases(bif decide((a:Int)+2 > p.length)then true else decide((a:Int)+2+dg p(a+1) > p.length))with
   | true=>rfl
   | false=>
    rw[cF,cF,itF_acc f _(rs++_),itF_acc f _([]++_),Option.map_map]
    congr 1
    funext x
    simp
theorem vis_it{F:Int->List SV->Cs->Bool × Cs}{p:List SV}(hb:byl p):∀ (f a:Nat)(s:Cs),p.length - a<=f->visO(itF f p a [])F s(visL F(p.drop a)s)
 | 0,a,s,h=>by
  rw[visL_nil(by rw[List.length_drop];omega)]
  rfl
 | f+1,a,s,h=>by
  unfold itF
  by_cases ha:a < p.length
  . have hl:(p.drop a).length=p.length - a:=List.length_drop
    obtain⟨d0,d1⟩:=hb.ok(a+1)
    have q0:dg(p.drop a)0=dg p a:=dg_drop
    have q1:dg(p.drop a)1=dg p(a+1):=dg_drop
    rw[dT0 ha,cT,visL_step(by omega),q0,q1]
    by_cases h2:(a:Int)+2 > p.length
    . rw[dT0 h2,cT,cT,dT0(show((p.drop a).length:Int) < 2 by omega),cT];rfl
    . rw[dF h2,cF,dF(show ¬ ((p.drop a).length:Int) < 2 by omega),cF]
      by_cases h3:(a:Int)+2+dg p(a+1) > p.length
      . rw[dT0 h3,cT,dT0(show((p.drop a).length:Int) < 2+dg p(a+1)by omega),cT];rfl
      . rw[dF h3,cF,dF(show ¬ ((p.drop a).length:Int) < 2+dg p(a+1)by omega),cF,itF_acc]
        have e1:sl(p.drop a)2(dg p(a+1)).toNat=sl p(a+2)(dg p(a+1)).toNat:=by unfold sl;rw[List.drop_drop]
        have e2:(p.drop a).drop(2+(dg p(a+1)).toNat)=p.drop(a+2+(dg p(a+1)).toNat):=by rw[List.drop_drop,Nat.add_assoc]
        rw[e1,e2]
        have ih:=vis_it(F:=F)hb f(a+2+(dg p(a+1)).toNat)(F(dg p a)(sl p(a+2)(dg p(a+1)).toNat)s).2(by omega)
        generalize visL F(p.drop(a+2+(dg p(a+1)).toNat))(F(dg p a)(sl p(a+2)(dg p(a+1)).toNat)s).2=r at *
        cases hX:itF f p(a+2+(dg p(a+1)).toNat) []with
        | none=>
         rw[hX]at ih
         have ih':r.1=false:=ih
         show(bif _ then r else(false,_)).1=false
         cases(F(dg p a)(sl p(a+2)(dg p(a+1)).toNat)s).1
         . rfl
         . exact ih'
        | some ys=>
         rw[hX]at ih
         show visO(some([]++[itV(dg p a)(sl p(a+2)(dg p(a+1)).toNat)]++ys))F s _
         unfold visO at ih ⊢
         simp only[nA,List.cons_append]at ih ⊢
         rw[fd_cons,ci_it,cl_it]
         cases(F(dg p a)(sl p(a+2)(dg p(a+1)).toNat)s).1 with
         | true=>exact ih
         | false=>rfl
  . rw[dF ha,cF,visL_nil(by rw[List.length_drop];omega)]
    rfl
theorem vis_itL{F:Int->List SV->Cs->Bool × Cs}{p:List SV}(hb:byl p)(s:Cs):visO(itL p)F s(visL F p s):=by
 have:=vis_it(F:=F)hb p.length 0 s(by omega)
 rw[List.drop_zero]at this
 exact this
theorem foF_fd:∀ (f:Nat)(l:List SV)(i:Nat)(s:Cs),l.length - i=f->foF f l i s=fd capF(l.drop i)s
 | 0,l,i,s,h=>by rw[List.drop_eq_nil_of_le(by omega)];rfl
 | f+1,l,i,s,h=>by
  have hi:i < l.length:=by omega
  rw[List.drop_eq_getElem_cons hi,fd_cons]
  unfold foF
  rw[show l.getD i .junk=l[i]by rw[gD0,List.getElem?_eq_getElem hi,Option.getD_some]]
  cases(capF(ci l[i]0)(cl l[i]1)s).1 with
  | true=>rw[cT,cT,foF_fd f l(i+1)_(by omega)]
  | false=>rfl
theorem cpF_acc:∀ (f:Nat)(ps:List SV)(i:Nat)(rs:List SV),cpF f ps i rs=(cpF f ps i []).map(rs++ ·)
 | 0,ps,i,rs=>by simp[cpF]
 | f+1,ps,i,rs=>by
  unfold cpF
  cases ci(ps.getD i .junk)0!=2 with
  | true=>rfl
  | false=>
   rw[cF,cF]
   cases !(itL(cl(ps.getD i .junk)1)).isSome with
   | true=>rfl
   | false=>
    rw[cF,cF,cpF_acc f ps _(rs++_),cpF_acc f ps _([]++_),Option.map_map]
    congr 1
    funext x
    simp
theorem cpF_fd{ps:List SV}(hb:∀ j,byl(cl(ps.getD j .junk)1)):∀ (f i:Nat)(s:Cs),ps.length - i=f->fd parF(ps.drop i)s=(cpF f ps i []).bind(fun ys=>fd capF ys s)
 | 0,i,s,h=>by rw[List.drop_eq_nil_of_le(by omega)];rfl
 | f+1,i,s,h=>by
  have hi:i < ps.length:=by omega
  have hx:ps.getD i .junk=ps[i]:=by rw[gD0,List.getElem?_eq_getElem hi,Option.getD_some]
  have hbi:=hb i
  rw[List.drop_eq_getElem_cons hi,fd_cons]
  unfold cpF
  rw[<- hx]
  generalize ps.getD i .junk=x at *
  rw[parF_eq]
  cases c1:ci x 0==2 with
  | false=>
   rw[show(ci x 0!=2)=true by unfold bne;rw[c1];rfl]
   rfl
  | true=>
   rw[show(ci x 0!=2)=false by unfold bne;rw[c1];rfl,cT,cF]
   have hv:=vis_itL(F:=capF)hbi s
   generalize visL capF(cl x 1)s=r at *
   cases hq:itL(cl x 1)with
   | none=>
    rw[hq]at hv
    have hv':r.1=false:=hv
    rw[hv'];rfl
   | some ys=>
    rw[hq]at hv
    unfold visO at hv
    simp only[]at hv
    simp only[Option.isSome_some,Bool.not_true,cF,Option.getD_some,nA]
    rw[cpF_acc]
    cases hf:fd capF ys s with
    | none=>
     rw[hf]at hv
     have hv':r.1=false:=hv
     rw[hv',cF]
     cases cpF f ps(i+1) []with
     | none=>rfl
     | some zs=>
      show none=fd capF(ys++zs)s
      rw[fd_app,hf];rfl
    | some t=>
     rw[hf]at hv
     have hv':r=(true,t):=hv
     rw[hv',cT,cpF_fd hb f(i+1)t(by omega)]
     cases cpF f ps(i+1) []with
     | none=>rfl
     | some zs=>
      show fd capF zs t=fd capF(ys++zs)s
      rw[fd_app,hf];rfl
theorem par_caps{q:List SV}(hb:byl q)(s:Cs):visO(cpL q)capF s(visL parF q s):=by
 have hv:=vis_itL(F:=parF)hb s
 unfold cpL
 cases hq:itL q with
 | none=>rw[hq]at hv;exact hv
 | some ps=>
  rw[hq]at hv
  obtain⟨g1,_⟩:=itL_ok hb hq
  have hp:=cpF_fd(fun j=>(it_byl g1 j).1)ps.length 0 s(by omega)
  rw[List.drop_zero]at hp
  change visO(cpF ps.length ps 0 [])capF s(visL parF q s)
  unfold visO at hv ⊢
  simp only[]at hv
  rw[hp]at hv
  cases hc:cpF ps.length ps 0 []with
  | none=>rw[hc]at hv;exact hv
  | some ys=>rw[hc]at hv;exact hv
end Go.Proofs.YtnlmhpancboddaaGreat
