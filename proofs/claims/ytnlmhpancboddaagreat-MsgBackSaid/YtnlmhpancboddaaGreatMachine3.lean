/- The abstract machine: stores into lists, maps. -/
import Derived.Test.YtnlmhpancboddaaGreatMachine2
import Derived.Lib.Builder
import Derived.Lib.UnsafeStr
import Derived.KernelRfl
import Derived.Laws.StandIn
import Derived.Lib.MakeNoZero
set_option linter.unusedVariables false
set_option linter.unusedSimpArgs false
namespace Go.Am
variable {P:Program} {ω:Nat->Value}
theorem kV{w:World}{b:Nat}{cs cs':Array Value}{T:TypeId}{fr:Nat × Nat}(hb:w.heap[b]? =some (.cells cs T fr)):w.setRow b cs'=w.putObj b (.cells cs' T fr):=by
 have hlt:b < w.heap.size:=fR hb
 have hv:w.heap[b]= .cells cs T fr:=(Array.getElem?_eq_some_iff.1 hb).2
 unfold World.setRow World.putObj
 congr 1
 apply Array.ext
 . simp
 . intro i h1 h2
   simp only[Array.getElem_modify]
   by_cases h:b=i
   . subst h;simp[hv]
   . rw[if_neg h];exact(Array.getElem_setIfInBounds_ne (by simpa using h2) h).symm
theorem ke     {α:Type}(l vs:List α)(o:Nat)(h:o+vs.length<=l.length)(j:Nat):(l.take o++vs++l.drop (o+vs.length))[j]? =if o<=j/\j < o+vs.length then vs[j - o]? else l[j]? :=by
 have h1:(l.take o).length=o:=by simp;omega
 by_cases hj:j < o
 . rw[if_neg (by omega),aA,List.getElem?_append_left (by omega),List.getElem?_take,if_pos hj]
 . by_cases hj2:j < o+vs.length
   . rw[if_pos ⟨by omega,hj2⟩,aA,List.getElem?_append_right (by omega),List.getElem?_append_left (by omega),h1]
   . rw[if_neg (by omega),List.getElem?_append_right (by simp;omega),List.getElem?_drop]
     congr 1
     simp;omega
section
variable {w:World} {Im:Nat->Prop} {θ:Th} {h:HpF}
theorem xG        {t:TypeId}{a v:SV}{nx nx':Nat}{r:SV}{ups:List (Nat × Option Chunk)}{rs:List Nat}(hr:HRel P ω w Im θ h)(hm:af   h (xO     P t a v nx)=some (r,ups,nx',rs)){ua uv:Value}(hx:VRel P ω w Im θ a ua)(hv:VRel P ω w Im θ v uv):
  ∃ w' Im',(Instr.storeAt t ua uv).run P w= .ok () w'/\r= .junk/\nx'=nx/\Ext (fun _=>False) h w Im θ (ad ups h) w' Im' θ/\HRel P ω w' Im' θ (ad ups h):=by
 unfold xO at hm
 split at hm
 case h_2=>simp[af]at hm
 rename_i y sz k off
 have hb0:=aB hm;clear hm;obtain⟨hkt,hm⟩:=hb0
 obtain⟨it,hit⟩:=bo hkt
 have hb0:=cV hm;clear hm;obtain⟨c,rs',hy,hm,rfl⟩:=hb0
 cases c with
 | seq e es=>
  have hb0:=aB hm;clear hm;obtain⟨hk,hm⟩:=hb0
  have:sz=P.cellsOf e:=nE hk
  subst this
  split at hm
  case h_2=>simp[af]at hm
  rename_i cs hcs
  obtain⟨v',ys,rs1,hm,f1,f2,f3,f4⟩:=vy hr hv hm
  split at hm
  case h_2=>simp[af]at hm
  rename_i vs hvs
  have hb0:=aB hm;clear hm;obtain⟨hk2,hm⟩:=hb0
  simp only[bA,Bool.not_eq_true']at hk2
  split at hm
  case h_2=>simp[af]at hm
  rename_i cs' hcs'
  split at hm
  case h_2=>simp[af]at hm
  rename_i nw hnw
  have hb0:=aB hm;clear hm;obtain⟨hk3,hm⟩:=hb0
  simp only[bA]at hk3
  have hb0:=aN hm;clear hm;obtain⟨hkl0,hm⟩:=hb0
  obtain⟨rfl,rfl,rfl,rfl⟩:=ai hm
  have hkl:k < es.length:=of_decide_eq_true hkl0
  have hvl:vs.length=P.cellsOf t:=nE hk2.1
  have hys:y ∉ ys:=fun hh=>by rw[(j6 _ _).2 hh]at hk2;exact absurd hk2.2 (by simp)
  have hcl:cs'.length=P.cellsOf e:=nE hk3.2
  obtain⟨hE1,hH1⟩:=Az hr (new:=fun _=>False) ys
  have hy1:ad (dh ys) h y=some (.seq e es):=updF_drops_some.2 ⟨hys,hy⟩
  cases hx with
  | qp hθ=>
   rename_i b N
   rcases hH1.at_ y _ hy1 with ⟨_,h3⟩ | ⟨b',N',ca,T,fr,us,h3,h4,h5,h6,h7,h8,h9⟩
   . rw[h3]at hθ;cases hθ
   . rw[hθ]at h3
     simp only[sJ,pJ]at h3
     obtain⟨rfl,rfl⟩:=h3
     have hget:es[k]? =some es[k]:=by simp[hkl]
     obtain⟨g1,g2,g3⟩:=h9 k es[k] hget
     have hex:expand P e (es.getD k .junk)=es[k]:=by
      have:es.getD k .junk=es[k]:=by simp[gD0,hget]
      rw[this,h8 _ (List.getElem_mem hkl)]
     rw[hex]at hcs
     obtain⟨hle,rfl⟩:=dc _ _ _ _ hcs'
     have hcr:=bW g1 hcs
     have hvr:=bW f1 hvs
     have hul:uv.cells.toList.length=vs.length:=hvr.len.symm
     have hcsl:cs.length=P.cellsOf e:=by
      have h1:=hcr.len
      simp only[Array.length_toList]at h1
      omega
     have hkb:(k+1) * P.cellsOf e<=es.length * P.cellsOf e:=Nat.mul_le_mul_right _ hkl
     have hkb2:(k+1) * P.cellsOf e=k * P.cellsOf e+P.cellsOf e:=by rw[Nat.add_mul];omega
     have hone:∀ u ∈ uv.cells.toList,u.oneCell'=true:=hvr.one (vn hvs)
     have hroom:k * P.cellsOf e+off+uv.cells.toList.length<=ca.size:=by omega
     have hst:=bB P b (k * P.cellsOf e+off) T fr uv.cells.toList 0 ca w h4 h5 (by simpa using hroom) hone
     simp only[Nat.add_zero]at hst
     generalize hcells:(ca.toList.take (k * P.cellsOf e+off)++uv.cells.toList++ca.toList.drop (k * P.cellsOf e+off+uv.cells.toList.length)).toArray=cells at hst
     have hcsz:cells.size=ca.size:=by
      rw[<- hcells]
      simp only[List.size_toArray,lA0,List.length_take,List.length_drop,Array.length_toList]at hroom ⊢
      omega
     rw[kV h4]at hst
     -- the new element
     have hnl:=((hcr.takeL off).append hvr).append (hcr.dropL (off+vs.length))
     have hnew:∃ u',VRel P om0 w (au Im θ h ys) eG nw u'/\u'.cells.size=P.cellsOf e/\∀ (d:Nat) (c:Value),u'.cells[d]? =some c->((us k).cells.toList.take off++uv.cells.toList++(us k).cells.toList.drop (off+vs.length))[d]? =some c:=by
      cases ha:aq P e with
      | true=>
       rw[ha]at hnw
       simp only[cT,sJ]at hnw
       subst hnw
       refine⟨.agg ((us k).cells.toList.take off++uv.cells.toList++(us k).cells.toList.drop (off+vs.length)).toArray,.agg (by simpa using hnl.len) (fun i v u hv hu=>hnl.at_ i v u hv (by simpa using hu)),?_,fun d c hd=>by simpa [Value.cells]using hd⟩
       have:=hnl.len
       rw[hcl]at this
       simpa [Value.cells]using this.symm
      | false=>
       rw[ha]at hnw
       simp only[cF]at hnw
       cases h1:Nat.beq (P.cellsOf e) 1 with
       | false=>simp[h1]at hnw
       | true=>
        simp only[h1,cT,fi]at hnw
        have h1':P.cellsOf e=1:=nE h1
        have hlen2:=hnl.len
        rw[hcl,h1']at hlen2
        obtain⟨u',hu'⟩:∃ u',((us k).cells.toList.take off++uv.cells.toList++(us k).cells.toList.drop (off+vs.length))[0]? =some u':=by
         rw[List.getElem?_eq_getElem (by omega)];exact⟨_,rfl⟩
        have hrel:=hnl.at_ 0 nw u' hnw hu'
        have hf:=hk3.1
        unfold tA at hf
        rw[ha]at hf
        simp only[cF]at hf
        have hc1:=rV (gz hrel (iX hf).2)
        refine⟨u',hrel,by rw[hc1,h1'];rfl,fun d c hd=> ?_⟩
        rw[hc1]at hd
        cases d with
        | zero=>simp at hd;subst hd;exact hu'
        | succ d=>simp at hd
     obtain⟨u',n1,n2,n3⟩:=hnew
     have hfn:=(rW (ω':=om0) (θ':=eG) hk3.1 n1).2
     obtain⟨hE2,hH2⟩:=dm        hH1 hy1 hθ (.cells cells T fr) (some (.seq e (es.set k nw))) (fun hI d hd=>by
      cases hd
      refine .inr ⟨b,N,cells,T,fr,fun i=>if i=k then u' else us i,hθ,World.putObj_heap_same (fR h4),by rw[hcsz];exact h5,⟨by rw[hcsz,h6.1],h6.2⟩,by simpa using h7,fun v hv=> ?_,fun i v hv=> ?_⟩
      . rcases List.mem_or_eq_of_mem_set hv with hv | rfl
        . exact h8 v hv
        . exact hfn
      . rw[List.getElem?_set]at hv
        by_cases hik:k=i
        . subst hik
          rw[if_pos rfl,if_pos hkl,sJ]at hv
          subst hv
          simp only[if_true]
          refine⟨n1.mono hI (fun _ _ h=>h),n2,fun d c hd=> ?_⟩
          have hdl:d < P.cellsOf e:=by
           rw[<- n2]
           rcases Nat.lt_or_ge d u'.cells.size with h1 | h1
           . exact h1
           . simp[Array.getElem?_eq_none h1]at hd
          have:=n3 d c hd
          rw[<- hul]at this
          rw[ke _ _ _ (by simp only[Array.length_toList];have:=hcr.len;simp only[Array.length_toList]at this;omega)]at this
          rw[<- hcells]
          simp only[List.getElem?_toArray]
          rw[ke _ _ _ (by simpa using hroom)]
          by_cases hc:off<=d/\d < off+uv.cells.toList.length
          . rw[if_pos hc]at this
            rw[if_pos (by omega)]
            rw[<- this];congr 1;omega
          . rw[if_neg hc]at this
            rw[if_neg (by omega)]
            simpa using g3 d c (by simpa using this)
        . rw[if_neg hik]at hv
          have hik':¬ i=k:=fun e=>hik e.symm
          simp only[if_neg hik']
          obtain⟨q1,q2,q3⟩:=h9 i v hv
          refine⟨q1.mono hI (fun _ _ h=>h),q2,fun d c hd=> ?_⟩
          have hdl:d < P.cellsOf e:=by
           rw[<- q2]
           rcases Nat.lt_or_ge d (us i).cells.size with h1 | h1
           . exact h1
           . simp[Array.getElem?_eq_none h1]at hd
          rw[<- hcells]
          simp only[List.getElem?_toArray]
          rw[ke _ _ _ (by simpa using hroom),if_neg]
          . simpa using q3 d c hd
          . intro hc
            rcases Nat.lt_or_gt_of_ne hik' with h1 | h1
            . have:(i+1) * P.cellsOf e<=k * P.cellsOf e:=Nat.mul_le_mul_right _ h1
              rw[Nat.add_mul]at this
              omega
            . have:(k+1) * P.cellsOf e<=i * P.cellsOf e:=Nat.mul_le_mul_right _ h1
              rw[Nat.add_mul]at this
              omega)
     have hsz:(sizeOf t).run P w= .ok (P.cellsOf t) w:=av hit w
     refine⟨w.putObj b (.cells cells T fr),au Im θ h ys,?_,rfl,rfl,by rw[lX];exact hE1.trans hE2,by rw[lX];exact hH2⟩
     simp[Instr.storeAt,Instr.sureAddr,storeVar,hsz,f3,hst]
 | cells=>simp[af]at hm
 | loopr=>simp[af]at hm
 | mpc=>simp[af]at hm
 | mpb=>simp[af]at hm
/- Maps. -/
theorem nn       {key:SV}{hit:Nat->OpM}{miss:OpM}{res:SV × List (Nat × Option Chunk) × Nat × List Nat}:∀ (xs:List SV) (i:Nat),af   h (kI    key hit miss xs i)=some res->
  (∃ j x,xs[j]? =some x/\fC key x=some true/\(∀ j' x',j' < j->xs[j']? =some x'->fC key x'=some false)/\af h (hit (i+j))=some res)\/((∀ x ∈ xs,fC key x=some false)/\af h miss=some res)
 | [],i,hm=>.inr ⟨(fun x hx=>by cases hx),hm⟩
 | x :: xs,i,hm=>by
  simp only[kI]at hm
  cases hk:fC key x with
  | none=>simp[hk,af]at hm
  | some b=>
   simp only[hk,af]at hm
   cases b with
   | true=>exact .inl ⟨0,x,rfl,hk,fun j' x' hj=>by omega,by simpa using hm⟩
   | false=>
    simp only[Bool.false_eq_true,if_false]at hm
    rcases nn xs (i+1) hm with ⟨j,y,h1,h2,h3,h4⟩ | ⟨h1,h2⟩
    . refine .inl ⟨j+1,y,by simpa using h1,h2,fun j' x' hj hx=> ?_,by rw[show i+(j+1)=i+1+j by omega];exact h4⟩
      cases j' with
      | zero=>simp at hx;subst hx;exact hk
      | succ j'=>exact h3 j' x' (by omega) (by simpa using hx)
    . refine .inr ⟨fun y hy=> ?_,h2⟩
      rcases List.mem_cons.1 hy with rfl | hy
      . exact hk
      . exact h1 y hy
theorem oO{kt:TypeId}{k:SV}(hk:wk P kt k=true){u:Value}(hv:VRel P ω w Im θ k u):∃ d,P.underlying kt=some d/\MapKept.IsKey d u:=by
 unfold wk at hk
 split at hk
 . rename_i a b n hu
   cases hv
   have:a=b:=by cases a <;> cases b <;> first | rfl | (simp[fV]at hk)
   subst this
   exact⟨_,hu,by simp[MapKept.IsKey]⟩
 . rename_i hu;cases hv;exact⟨_,hu,by simp[MapKept.IsKey]⟩
 . rename_i hu;cases hv;exact⟨_,hu,by simp[MapKept.IsKey]⟩
 . cases hk
theorem np       {d:TypeDesc}{k x:SV}{u v:Value}{b:Bool}(hu:VRel P ω w Im θ k u)(hv:VRel P ω w Im θ x v)(hk:MapKept.IsKey d u)(h:fC    k x=some b):Instr.sameNow d u v=some b/\(b=true->u=v):=by
 unfold fC at h
 split at h
 . rename_i k1 a k2 c
   cases hu
   cases hv
   cases hb:fV k1 k2 with
   | false=>simp[hb]at h
   | true=>
    have:k1=k2:=by cases k1 <;> cases k2 <;> first | rfl | (simp[fV]at hb)
    subst this
    simp only[hb,cT,sJ]at h
    subst h
    cases d <;> simp[MapKept.IsKey]at hk
    subst hk
    exact⟨by simp[Instr.sameNow],fun h=>by simp at h;rw[h]⟩
 . rename_i a c
   cases hu with
   | str h1=>
    cases hv with
    | str h2=>
     rename_i s1 s2
     simp only[sJ]at h
     subst h
     cases d <;> simp[MapKept.IsKey]at hk
     have hiff:(s1==s2)=(a==c):=by
      rw[Bool.eq_iff_iff,MapKept.bytes_beq]
      simp only[beq_iff_eq]
      rw[<- h1,<- h2]
      constructor
      . intro e;rw[e]
      . intro e
        obtain⟨x⟩:=s1
        obtain⟨y⟩:=s2
        congr 1
        exact Array.ext' e
     refine⟨by simp[Instr.sameNow,hiff],fun h=> ?_⟩
     rw[<- hiff,MapKept.bytes_beq]at h
     rw[h]
 . rename_i a c
   cases hu
   cases hv
   simp only[sJ]at h
   subst h
   cases d <;> simp[MapKept.IsKey]at hk
   exact⟨by simp[Instr.sameNow],fun h=>by simp at h;rw[h]⟩
 . cases h
theorem gF{d:TypeDesc}{k:SV}{u:Value}(hu:VRel P ω w Im θ k u)(hk:MapKept.IsKey d u):∀ (es:List MapEntry) (ks:List SV) (i j:Nat) (x:SV),LRel P ω w Im θ ks (es.map (·.key))->ks[j]? =some x->fC k x=some true->(∀ j' x',j' < j->ks[j']? =some x'->fC k x'=some false)->
  ∃ e,es[j]? =some e/\e.key=u/\Instr.findNow d u es i=some (some (i+j,e.val))
 | [],ks,i,j,x,hl,hj,_,_=>by have:=hl.len;simp at this;subst this;simp at hj
 | e :: es,[],i,j,x,hl,hj,_,_=>by simp at hj
 | e :: es,k0 :: ks,i,j,x,hl,hj,ht,hf=>by
  have h0:=hl.at_ 0 k0 e.key rfl rfl
  have hl':LRel P ω w Im θ ks (es.map (·.key)):=⟨by have:=hl.len;simpa using this,fun i v u hv hu=>hl.at_ (i+1) v u (by simpa using hv) (by simpa using hu)⟩
  cases j with
  | zero=>
   simp at hj
   subst hj
   obtain⟨h1,h2⟩:=np hu h0 hk ht
   exact⟨e,rfl,(h2 rfl).symm,by simp[Instr.findNow,h1]⟩
  | succ j=>
   obtain⟨h1,_⟩:=np hu h0 hk (hf 0 k0 (by omega) rfl)
   obtain⟨e',g1,g2,g3⟩:=gF hu hk es ks (i+1) j x hl' (by simpa using hj) ht (fun j' x' hj' hx'=>hf (j'+1) x' (by omega) (by simpa using hx'))
   refine⟨e',by simpa using g1,g2,?_⟩
   simp only[Instr.findNow,h1,g3]
   congr 3
   omega
theorem fU{d:TypeDesc}{k:SV}{u:Value}(hu:VRel P ω w Im θ k u)(hk:MapKept.IsKey d u):∀ (es:List MapEntry) (ks:List SV) (i:Nat),LRel P ω w Im θ ks (es.map (·.key))->(∀ x ∈ ks,fC k x=some false)->Instr.findNow d u es i=some none
 | [],ks,i,hl,_=>rfl
 | e :: es,[],i,hl,_=>by have:=hl.len;simp at this
 | e :: es,k0 :: ks,i,hl,hf=>by
  have h0:=hl.at_ 0 k0 e.key rfl rfl
  have hl':LRel P ω w Im θ ks (es.map (·.key)):=⟨by have:=hl.len;simpa using this,fun i v u hv hu=>hl.at_ (i+1) v u (by simpa using hv) (by simpa using hu)⟩
  obtain⟨h1,_⟩:=np hu h0 hk (hf k0 (by simp))
  simp only[Instr.findNow,h1]
  exact fU hu hk es ks (i+1) hl' (fun x hx=>hf x (by simp[hx]))
theorem zn{α:Type}:∀ (l:List α) (i:Nat) (v:α),wm l i v=l.set i v
 | [],_,_=>rfl
 | _ :: _,0,_=>rfl
 | x :: l,i+1,v=>by simp[wm,zn l i v]
theorem tt{d:TypeDesc}{u:Value}(hk:MapKept.IsKey d u):Instr.sameBits 10000 u u=true:=by
 have:(10000:Nat)=9999+1:=rfl
 rw[this]
 cases d <;> cases u <;> simp[MapKept.IsKey]at hk <;> simp[Instr.sameBits]
 exact(MapKept.bytes_beq _ _).2 rfl
theorem mn          {t:TypeId}{m k v:SV}{nx nx':Nat}{r:SV}{ups:List (Nat × Option Chunk)}{rs:List Nat}(hr:HRel P ω w Im θ h)(hm:af   h (jH       P t m k v nx)=some (r,ups,nx',rs)){um uk uv:Value}(h1:VRel P ω w Im θ m um)(h2:VRel P ω w Im θ k uk)(h3:VRel P ω w Im θ v uv):
  ∃ w',(Instr.mapUpdate t um uk uv).run P w= .ok () w'/\r= .junk/\nx'=nx/\Ext (fun _=>False) h w Im θ (ad ups h) w' Im θ/\HRel P ω w' Im θ (ad ups h):=by
 unfold jH at hm
 split at hm
 case h_2=>simp[af]at hm
 rename_i kt et y hu
 have hb0:=aB hm;clear hm;obtain⟨hkt,hm⟩:=hb0
 obtain⟨d,hd,hkey⟩:=oO hkt h2
 have hb0:=cV hm;clear hm;obtain⟨c,rs',hy,hm,rfl⟩:=hb0
 cases c with
 | mpc ks vs=>
  have hb0:=aB hm;clear hm;obtain⟨hlen0,hm⟩:=hb0
  have hlen:ks.length=vs.length:=nE hlen0
  cases h1 with
  | mp hθ=>
   rename_i b N
   obtain⟨b',N',es,cl,g1,g2,g3,g4,g5⟩:=hr.at_ y _ hy
   rw[hθ]at g1
   simp only[sJ,pJ]at g1
   obtain⟨rfl,rfl⟩:=g1
   have hck:=MapKept.run_checkKey (P:=P) (w:=w) hd hkey false 9999
   have hel:es.toList.length=vs.length:=by have:=g4.len;simp at this ⊢;omega
   rcases nn ks 0 hm with ⟨j,x,f1,f2,f3,hm2⟩ | ⟨f1,hm2⟩
   . obtain⟨rfl,rfl,rfl,_⟩:=ai        hm2
     obtain⟨e,e1,e2,e3⟩:=gF h2 hkey es.toList ks 0 j x g3 f1 f2 f3
     have hfk:=MapKept.run_findKey (P:=P) (w:=w) hd e3
     have hj:j < es.size:=by
      rcases Nat.lt_or_ge j es.size with h5 | h5
      . exact h5
      . simp[Array.getElem?_eq_none h5]at e1
     have hej:es[j]? =some e:=by simpa using e1
     have hsame:(Instr.keyThatStays (((es[j]?).map (·.key)).getD uk) uk).run P w= .ok uk w:=by
      simp[hej,e2,Instr.keyThatStays,tt hkey]
     refine⟨w.putObj b (.map (es.modify j fun e=>{e with key:=uk,val:=uv}) cl),?_,rfl,rfl,?_⟩
     . have hset:=MapKept.run_setObj_map (P:=P) (.map (es.modify j fun e=>{e with key:=uk,val:=uv}) cl) g2
       simp only[Nat.zero_add]at hfk
       have hck':(Instr.checkKey false 10000 kt uk).run P w= .ok () w:=hck
       simp[Instr.mapUpdate,run_underlying hu,MapKept.run_getObj_map g2,hck',hfk,hsame,hset,World.putObj]
     . refine dm        hr hy hθ _ _ (fun hI d hd=> ?_)
       cases hd
       have hmod:(es.modify j fun e=>{e with key:=uk,val:=uv}).toList=es.toList.set j {e with key:=uk,val:=uv}:=by
        apply List.ext_getElem?
        intro i
        simp only[Array.getElem?_toList,Array.getElem?_modify,List.getElem?_set]
        by_cases hij:j=i
        . subst hij
          have hje:es[j]=e:=(Array.getElem?_eq_some_iff.1 hej).2
          simp[hj,hje]
        . simp[hij]
       refine⟨b,N,_,cl,hθ,World.putObj_heap_same (fR g2),?_,?_,?_⟩
       . rw[hmod,List.map_set]
         have:(es.toList.map (·.key)).set j uk=es.toList.map (·.key):=by
          apply List.ext_getElem?
          intro i
          rw[List.getElem?_set]
          by_cases hij:j=i
          . subst hij
            have hjl:j < (es.toList.map (·.key)).length:=by simpa using hj
            rw[if_pos rfl,if_pos hjl]
            simp[hej,e2]
          . rw[if_neg hij]
         simp only[this]
         exact g3.mono hI (fun _ _ h=>h)
       . rw[hmod,List.map_set]
         rw[Nat.zero_add,zn]
         refine⟨by simpa using g4.len,fun i v' u' hv hu'=> ?_⟩
         rw[List.getElem?_set]at hv hu'
         by_cases hij:j=i
         . subst hij
           have h6 : j < vs.length := by have : j < es.toList.length := by simpa using hj
                                         omega
           have h7:j < (es.toList.map (·.val)).length:=by simpa using hj
           rw[if_pos rfl,if_pos h6,sJ]at hv
           rw[if_pos rfl,if_pos h7,sJ]at hu'
           subst hv;subst hu'
           exact h3.mono hI (fun _ _ h=>h)
         . rw[if_neg hij]at hv hu'
           exact(g4.at_ i v' u' hv hu').mono hI (fun _ _ h=>h)
       . intro x hx
         rw[hmod]at hx
         rcases List.mem_or_eq_of_mem_set hx with hx | rfl
         . exact g5 x hx
         . exact g5 e (List.mem_of_getElem? e1)
   . obtain⟨rfl,rfl,rfl,_⟩:=ai        hm2
     have hfk:=MapKept.run_findKey (P:=P) (w:=w) hd (fU h2 hkey es.toList ks 0 g3 f1)
     refine⟨w.putObj b (.map (es.push {key:=uk,val:=uv,born:=cl}) (cl+1)),?_,rfl,rfl,?_⟩
     . have hset:=MapKept.run_setObj_map (P:=P) (.map (es.push {key:=uk,val:=uv,born:=cl}) (cl+1)) g2
       have hck':(Instr.checkKey false 10000 kt uk).run P w= .ok () w:=hck
       simp[Instr.mapUpdate,run_underlying hu,MapKept.run_getObj_map g2,hck',hfk,hset,World.putObj]
     . refine dm hr hy hθ _ _ (fun hI d hd=> ?_)
       cases hd
       have one:∀ {v:SV} {u:Value},VRel P ω w Im θ v u->LRel P ω w Im θ [v] [u]:=fun hv=>⟨rfl,fun i v u h1 h2=>by
        cases i with
        | zero=>simp at h1 h2;subst h1;subst h2;exact hv
        | succ i=>simp at h1⟩
       refine⟨b,N,_,cl+1,hθ,World.putObj_heap_same (fR g2),?_,?_,?_⟩
       . simp only[Array.toList_push,List.map_append,List.map_cons,List.map_nil]
         exact(g3.append (one h2)).mono hI (fun _ _ h=>h)
       . simp only[Array.toList_push,List.map_append,List.map_cons,List.map_nil]
         exact(g4.append (one h3)).mono hI (fun _ _ h=>h)
       . intro x hx
         simp only[Array.toList_push,List.mem_append,List.mem_singleton]at hx
         rcases hx with hx | rfl
         . have:=g5 x hx;omega
         . simp
 | cells=>simp[af]at hm
 | loopr=>simp[af]at hm
 | seq=>simp[af]at hm
 | mpb=>simp[af]at hm
theorem vY{α:Type}:∀ (pre:List α) (x:α) (l:List α) (v:α),wm (pre++x :: l) pre.length v=pre++v :: l
 | [],_,_,_=>rfl
 | p :: pre,x,l,v=>by simp[wm,vY pre x l v]
theorem sd{kd:IntKind}{a:Int}{b:Bool}{y nx:Nat}:∀ (kvs:List (Int × Bool)) (pk pv:List SV),pk.length=pv.length->
  af h (kI (.int kd a) (fun i=>.done .junk [(y,some (.mpc (pk++bN kd kvs) (wm (pv++cA kvs) i (.bool b))))] nx) (.done .junk [(y,some (.mpc ((pk++bN kd kvs)++[.int kd a]) ((pv++cA kvs)++[.bool b])))] nx) (bN kd kvs) pk.length)=
   some (.junk,[(y,some (.mpc (pk++bN kd (iJ a b kvs)) (pv++cA (iJ a b kvs))))],nx,[])
 | [],pk,pv,hl=>by simp[bN,cA,kI,af,iJ]
 | (c,d) :: kvs,pk,pv,hl=>by
  have ih:=sd (kd:=kd) (a:=a) (b:=b) (y:=y) (nx:=nx) kvs (pk++[.int kd c]) (pv++[.bool d]) (by simp[hl])
  have hik:fV kd kd=true:=by cases kd <;> rfl
  have e1:bN kd ((c,d) :: kvs)= .int kd c :: bN kd kvs:=rfl
  have e2:cA ((c,d) :: kvs)= .bool d :: cA kvs:=rfl
  rw[e1,e2]
  simp only[kI,fC,hik,cT,af]
  cases hac:a==c with
  | true=>
   have:iJ a b ((c,d) :: kvs)=(c,b) :: kvs:=by simp[iJ,hac]
   rw[this]
   simp only[if_true,hl,vY]
   rfl
  | false=>
   have:iJ a b ((c,d) :: kvs)=(c,d) :: iJ a b kvs:=by simp[iJ,hac]
   rw[this]
   simp only[Bool.false_eq_true,if_false]
   simp only[aA,List.cons_append,nA,lA0,List.length_cons,List.length_nil,Nat.zero_add]at ih
   simp only[aA]
   exact ih
theorem DF      {kd:IntKind}{a:Int}{kvs:List (Int × Bool)}:(wn   kvs a=false/\bj    kvs a=false/\∀ x ∈ bN    kd kvs,fC    (.int kd a) x=some false)\/
  ∃ (j:Nat) (x:SV),wn kvs a=true/\(bN kd kvs)[j]? =some x/\fC (.int kd a) x=some true/\(∀ (j':Nat) (x':SV),j' < j->(bN kd kvs)[j']? =some x'->fC (.int kd a) x'=some false)/\(cA kvs)[j]? =some (SV.bool (bj kvs a)):=by
 have hik:fV kd kd=true:=by cases kd <;> rfl
 induction kvs with
 | nil=>exact .inl ⟨rfl,rfl,fun x hx=>by simp[bN]at hx⟩
 | cons p kvs ih=>
  obtain⟨c,d⟩:=p
  have e1:bN kd ((c,d) :: kvs)= .int kd c :: bN kd kvs:=rfl
  have e2:cA ((c,d) :: kvs)= .bool d :: cA kvs:=rfl
  rw[e1,e2]
  cases hac:a==c with
  | true=>exact .inr ⟨0,_,by simp[wn,hac],rfl,by simp[fC,hik,hac],fun j' x' hj=>by omega,by simp[bj,hac]⟩
  | false=>
   have hl:bj ((c,d) :: kvs) a=bj kvs a:=by simp[bj,hac]
   have hh:wn ((c,d) :: kvs) a=wn kvs a:=by simp[wn,hac]
   rw[hl,hh]
   rcases ih with ⟨h1,h2,h3⟩ | ⟨j,x,h1,h2,h3,h4,h5⟩
   . refine .inl ⟨h1,h2,fun x hx=> ?_⟩
     rcases List.mem_cons.1 hx with rfl | hx
     . simp[fC,hik,hac]
     . exact h3 x hx
   . refine .inr ⟨j+1,x,h1,by simpa using h2,h3,fun j' x' hj hx=> ?_,by simpa using h5⟩
     cases j' with
     | zero=>simp at hx;subst hx;simp[fC,hik,hac]
     | succ j'=>exact h4 j' x' (by omega) (by simpa using hx)
theorem GC{y:Nat}{kd:IntKind}{kvs:List (Int × Bool)}(hr:HRel P ω w Im θ h)(hy:h y=some (.mpb kd kvs)):HRel P ω w Im θ (fun x=>if x=y then some (.mpc (bN kd kvs) (cA kvs))else h x):=by
 have hs:∀ x c,(if x=y then some (.mpc (bN kd kvs) (cA kvs))else h x)=some c->∃ c0,h x=some c0/\(CRel P ω w Im θ x c0->CRel P ω w Im θ x c):=by
  intro x c hx
  by_cases e:x=y
  . subst e;rw[if_pos rfl]at hx;cases hx;exact⟨_,hy,fun hc=>hc⟩
  . rw[if_neg e]at hx;exact⟨c,hx,fun hc=>hc⟩
 refine⟨fun x c hx=> ?_,fun x z c c' b N N' hx hz h1 h2=> ?_,fun x c b N hx hb=> ?_,hr.im⟩
 . obtain⟨c0,h1,h2⟩:=hs x c hx
   exact h2 (hr.at_ x c0 h1)
 . obtain⟨c0,h3,_⟩:=hs x c hx
   obtain⟨c1,h4,_⟩:=hs z c' hz
   exact hr.inj x z c0 c1 b N N' h3 h4 h1 h2
 . obtain⟨c0,h3,_⟩:=hs x c hx
   exact hr.own x c0 b N h3 hb
theorem nY         {t:TypeId}{m k v:SV}{nx nx':Nat}{r:SV}{ups:List (Nat × Option Chunk)}{rs:List Nat}(hr:HRel P ω w Im θ h)(hm:af   h (oW      P t m k v nx)=some (r,ups,nx',rs)){um uk uv:Value}(h1:VRel P ω w Im θ m um)(h2:VRel P ω w Im θ k uk)(h3:VRel P ω w Im θ v uv):
  ∃ w',(Instr.mapUpdate t um uk uv).run P w= .ok () w'/\r= .junk/\nx'=nx/\Ext (fun _=>False) h w Im θ (ad ups h) w' Im θ/\HRel P ω w' Im θ (ad ups h):=by
 unfold oW at hm
 split at hm
 case h_2=>simp[af]at hm
 rename_i kt et y hu
 have hb0:=aB hm;clear hm;obtain⟨hkt,hm⟩:=hb0
 obtain⟨d,hd,hkey⟩:=oO hkt h2
 have hb0:=cV hm;clear hm;obtain⟨c,rs',hy,hm,rfl⟩:=hb0
 have base:af h (jH P t (.mp y) k v nx)=some (r,ups,nx',y :: rs')->∃ w',(Instr.mapUpdate t um uk uv).run P w= .ok () w'/\r= .junk/\nx'=nx/\Ext (fun _=>False) h w Im θ (ad ups h) w' Im θ/\HRel P ω w' Im θ (ad ups h):=
  fun hb=>mn hr hb h1 h2 h3
 cases c with
 | mpc ks vs=>
  refine base ?_
  unfold jH
  simp only[hu,hkt,cT,af,hy,hm]
 | mpb kd kvs=>
  simp only[]at hm
  split at hm
  case h_2=>simp[af]at hm
  rename_i kd' a b
  have hb0:=aB hm;clear hm;obtain⟨hik,hm⟩:=hb0
  have:kd'=kd:=by cases kd' <;> cases kd <;> first | rfl | (simp[fV]at hik)
  subst this
  obtain⟨rfl,rfl,rfl,_⟩:=ai hm
  have h0:=mn (h:=fun x=>if x=y then some (.mpc (bN kd' kvs) (cA kvs))else h x) (t:=t) (m:=.mp y) (k:=.int kd' a) (v:=.bool b) (nx:=nx) (nx':=nx) (r:=.junk) (ups:=[(y,some (.mpc (bN kd' (iJ a b kvs)) (cA (iJ a b kvs))))]) (rs:=[y]) (um:=um) (uk:=uk) (uv:=uv) (GC hr hy) (by
   have hf:=sd (h:=fun x=>if x=y then some (.mpc (bN kd' kvs) (cA kvs))else h x) (kd:=kd') (a:=a) (b:=b) (y:=y) (nx:=nx) kvs [] [] rfl
   simp only[nA,List.length_nil]at hf
   have hl:Nat.beq (bN kd' kvs).length (cA kvs).length=true:=by simp[bN,cA]
   unfold jH
   simp only[hu,hkt,cT,af,if_true,hl,hf]) h1 h2 h3
  obtain⟨w',g1,g2,g3,g4,g5⟩:=h0
  have hup:∀ x c,ad [(y,some (.mpb kd' (iJ a b kvs)))] h x=some c->∃ c0,ad [(y,some (.mpc (bN kd' (iJ a b kvs)) (cA (iJ a b kvs))))] (fun x=>if x=y then some (.mpc (bN kd' kvs) (cA kvs))else h x) x=some c0/\(CRel P ω w' Im θ x c0->CRel P ω w' Im θ x c):=by
   intro x c hx
   simp only[ad]at hx ⊢
   by_cases e:x=y
   . subst e;rw[if_pos rfl]at hx ⊢;cases hx;exact⟨_,rfl,fun hc=>hc⟩
   . rw[if_neg e]at hx ⊢;rw[if_neg e];exact⟨c,hx,fun hc=>hc⟩
  refine⟨w',g1,rfl,rfl,?_,?_⟩
  . have hdom:∀ x c,(fun x=>if x=y then some (Chunk.mpc (bN    kd' kvs) (cA    kvs))else h x) x=some c->∃ c',h x=some c':=by
      intro x c hx
      by_cases e:x=y
      . subst e;exact⟨_,hy⟩
      . simp only[if_neg e]at hx;exact⟨c,hx⟩
    refine {thOld:=g4.thOld,thUp:=g4.thUp,imUp:=g4.imUp,size:=g4.size,os:=g4.os,output:=g4.output,tape:=g4.tape,keep:=fun b' hb hno=> ?_,imNew:=fun b' hb=>.inl hb,ownNew:=fun x c b' N hx hθ=> ?_}
    . refine g4.keep b' hb (fun x c N hx hθ=> ?_)
      obtain⟨c',hc'⟩:=hdom x c hx
      exact hno x c' N hc' hθ
    . obtain⟨c0,h4,_⟩:=hup x c hx
      rcases g4.ownNew x c0 b' N h4 hθ with ⟨z,c',N',h5,h6⟩ | h5
      . obtain⟨c2,hc2⟩:=hdom z c' h5
        exact .inl ⟨z,c2,N',hc2,h6⟩
      . exact .inr h5
  . refine⟨fun x c hx=> ?_,fun x z c c' b' N N' hx hz h4 h5=> ?_,fun x c b' N hx hb=> ?_,g5.im⟩
    . obtain⟨c0,h4,h5⟩:=hup x c hx
      exact h5 (g5.at_ x c0 h4)
    . obtain⟨c0,h6,_⟩:=hup x c hx
      obtain⟨c1,h7,_⟩:=hup z c' hz
      exact g5.inj x z c0 c1 b' N N' h6 h7 h4 h5
    . obtain⟨c0,h6,_⟩:=hup x c hx
      exact g5.own x c0 b' N h6 hb
 | cells=>simp[af]at hm
 | loopr=>simp[af]at hm
 | seq=>simp[af]at hm
theorem vZ         {t:TypeId}{m k:SV}{ok:Bool}{nx nx':Nat}{r:SV}{ups:List (Nat × Option Chunk)}{rs:List Nat}(hr:HRel P ω w Im θ h)(hm:af   h (tE      P t m k ok nx)=some (r,ups,nx',rs)){um uk:Value}(h1:VRel P ω w Im θ m um)(h2:VRel P ω w Im θ k uk):
  ∃ v,(Instr.lookup t um uk ok).run P w= .ok v w/\VRel P ω w Im θ r v/\ups=[]/\nx'=nx:=by
 have pair:∀ {v:SV} {u:Value} (b:Bool),VRel P ω w Im θ v u->VRel P ω w Im θ (bif ok then .tup [v,.bool b]else v) (if ok=true then .tuple #[u,.bool b]else u):=by
  intro v u b hv
  cases ok with
  | false=>simpa using hv
  | true=>
   refine .tup rfl (fun i x y hx hy=> ?_)
   match i,hx,hy with
   | 0,hx,hy=>cases hx;cases hy;exact hv
   | 1,hx,hy=>cases hx;cases hy;exact .bool
 have hzero:∀ {et:TypeId} {z:SV},fP P et=some z->∃ uz,(zeroValue et).run P w= .ok uz w/\VRel P ω w Im θ z uz:=by
  intro et z hz
  unfold fP at hz
  cases hi:P.info? et with
  | none=>simp[hi]at hz
  | some i=>
   simp only[hi]at hz
   cases hzz:i.zero with
   | none=>simp[hzz]at hz
   | some zv=>
    simp only[hzz,sJ]at hz
    subst hz
    exact⟨zv,by simp[zeroValue,typeInfo,hi,hzz],db (ω:=ω) w Im θ zv⟩
 unfold tE at hm
 split at hm
 . rename_i kt et y hu
   have hb0:=aB hm;clear hm;obtain⟨hkt,hm⟩:=hb0
   obtain⟨d,hd,hkey⟩:=oO hkt h2
   split at hm
   case h_2=>simp[af]at hm
   rename_i z hz
   obtain⟨uz,hz1,hz2⟩:=hzero hz
   have hb0:=cV hm;clear hm;obtain⟨c,rs',hy,hm,rfl⟩:=hb0
   cases c with
   | mpc ks vs=>
    cases h1 with
    | mp hθ=>
     rename_i b N
     obtain⟨b',N',es,cl,g1,g2,g3,g4,g5⟩:=hr.at_ y _ hy
     rw[hθ]at g1
     simp only[sJ,pJ]at g1
     obtain⟨rfl,rfl⟩:=g1
     have hck:(Instr.checkKey es.isEmpty 10000 kt uk).run P w= .ok () w:=MapKept.run_checkKey (P:=P) (w:=w) hd hkey es.isEmpty 9999
     rcases nn ks 0 hm with ⟨j,x,f1,f2,f3,hm2⟩ | ⟨f1,hm2⟩
     . obtain⟨e,e1,e2,e3⟩:=gF h2 hkey es.toList ks 0 j x g3 f1 f2 f3
       have hfk:=MapKept.run_findKey (P:=P) (w:=w) hd e3
       simp only[fi,Nat.zero_add]at hm2
       split at hm2
       case h_2=>simp[af]at hm2
       rename_i v hv
       obtain⟨rfl,rfl,rfl,_⟩:=ai hm2
       have hval:=g4.at_ j v e.val hv (by simp[e1])
       refine⟨_,?_,pair true hval,rfl,rfl⟩
       simp[Instr.lookup,run_underlying hu,MapKept.run_getObj_map g2,hck,hfk]
     . obtain⟨rfl,rfl,rfl,_⟩:=ai hm2
       have hfk:=MapKept.run_findKey (P:=P) (w:=w) hd (fU h2 hkey es.toList ks 0 g3 f1)
       refine⟨_,?_,pair false hz2,rfl,rfl⟩
       simp[Instr.lookup,run_underlying hu,MapKept.run_getObj_map g2,hck,hfk,hz1]
   | cells=>simp[af]at hm
   | loopr=>simp[af]at hm
   | seq=>simp[af]at hm
   | mpb kd kvs=>
    cases h1 with
    | mp hθ=>
     rename_i b N
     simp only[]at hm
     split at hm
     case h_2=>simp[af]at hm
     rename_i kd' a
     have hb0:=aB hm;clear hm;obtain⟨hik,hm⟩:=hb0
     have:kd'=kd:=by cases kd' <;> cases kd <;> first | rfl | (simp[fV]at hik)
     subst this
     obtain⟨rfl,rfl,rfl,_⟩:=ai hm
     obtain⟨b',N',es,cl,g1,g2,g3,g4,g5⟩:=hr.at_ y _ hy
     rw[hθ]at g1
     simp only[sJ,pJ]at g1
     obtain⟨rfl,rfl⟩:=g1
     have hck:(Instr.checkKey es.isEmpty 10000 kt uk).run P w= .ok () w:=MapKept.run_checkKey (P:=P) (w:=w) hd hkey es.isEmpty 9999
     rcases DF (kd:=kd') (a:=a) (kvs:=kvs)with ⟨f0,f1,f2⟩ | ⟨j,x,f0,f1,f2,f3,f4⟩
     . have hfk:=MapKept.run_findKey (P:=P) (w:=w) hd (fU h2 hkey es.toList (bN kd' kvs) 0 g3 f2)
       rw[f0,f1]
       refine⟨_,?_,pair false hz2,rfl,rfl⟩
       simp[Instr.lookup,run_underlying hu,MapKept.run_getObj_map g2,hck,hfk,hz1]
     . obtain⟨e,e1,e2,e3⟩:=gF h2 hkey es.toList (bN kd' kvs) 0 j x g3 f1 f2 f3
       have hfk:=MapKept.run_findKey (P:=P) (w:=w) hd e3
       have hval:=g4.at_ j (.bool (bj kvs a)) e.val f4 (by simp[e1])
       rw[f0]
       refine⟨_,?_,pair true hval,rfl,rfl⟩
       simp only[Nat.zero_add]at hfk
       simp[Instr.lookup,run_underlying hu,MapKept.run_getObj_map g2,hck,hfk]
 . rename_i kt et hu
   have hb0:=aB hm;clear hm;obtain⟨hkt,hm⟩:=hb0
   obtain⟨d,hd,hkey⟩:=oO hkt h2
   split at hm
   case h_2=>simp[af]at hm
   rename_i z hz
   obtain⟨uz,hz1,hz2⟩:=hzero hz
   obtain⟨rfl,rfl,rfl,rfl⟩:=ai hm
   cases h1
   have hck:∀ b,(Instr.checkKey b 10000 kt uk).run P w= .ok () w:=fun b=>MapKept.run_checkKey (P:=P) (w:=w) hd hkey b 9999
   have hfk:=MapKept.run_findKey (P:=P) (w:=w) (k:=uk) (l:=[]) (a:=none) hd rfl
   refine⟨_,?_,pair false hz2,rfl,rfl⟩
   simp[Instr.lookup,run_underlying hu,hck,hfk,hz1]
 . simp[af]at hm
end
end Go.Am
namespace Go.Am
variable {P:Program} {ω:Nat->Value}
section
variable {w:World} {Im:Nat->Prop} {θ:Th} {h:HpF}
theorem lF{w':World}(hr:HRel P ω w Im θ h){nx:Nat}(hθ:θ nx=none)(hnx:h nx=none){N:Nat}(hsz:w'.heap.size=w.heap.size+1)(hold:∀ d,d < w.heap.size->w'.heap[d]? =w.heap[d]?)
  (hos:w'.os=w.os) (hou:w'.output=w.output) (hta:w'.tape=w.tape) (c:Chunk)
  (hc:∀ θ':Th,θ' nx=some (w.heap.size,N)->CRel P ω w' (au Im θ h []) θ' nx c):
  ∃ θ' Im',Ext (fun x=>nx<=x/\x < nx+1) h w Im θ (ad [(nx,some c)] h) w' Im' θ'/\HRel P ω w' Im' θ' (ad [(nx,some c)] h)/\θ' nx=some (w.heap.size,N):=by
 obtain⟨θ',h1,h2,h3⟩:=nf hr hθ hnx (ds:=[]) (ys:=[]) (fun y hy=>by cases hy) (w':=w') (b:=w.heap.size) (N:=N) (.inl ⟨Nat.le_refl _,by omega⟩) (by omega) (fun d _ hd=>hold d hd) hos hou hta c (fun θ' a _ _=>hc θ' a)
 exact⟨θ',_,by simpa [dh]using h1,by simpa [dh]using h2,h3⟩
theorem sK{t kt et:TypeId}(_hu:P.underlying t=some (.map kt et))(hr:HRel P ω w Im θ h){nx:Nat}(hθ:θ nx=none)(hnx:h nx=none):
  ∃ v w' θ' Im',(Instr.makeMap t none).run P w= .ok v w'/\Ext (fun x=>nx<=x/\x < nx+1) h w Im θ (ad [(nx,some (.mpc [] []))] h) w' Im' θ'/\VRel P ω w' Im' θ' (.mp nx) v/\HRel P ω w' Im' θ' (ad [(nx,some (.mpc [] []))] h):=by
 have nilL:∀ {w:World} {Im:Nat->Prop} {θ:Th},LRel P ω w Im θ [] []:=⟨rfl,fun i v u h=>by simp at h⟩
 obtain⟨θ',Im',h1,h2,h3⟩:=lF hr hθ hnx (w':=w.alloc (.map #[] 0)) (N:=0) (by simp) (fun d hd=>dl w _ d hd) rfl rfl rfl (.mpc [] []) (fun θ' a=>⟨_,_,#[],0,a,ef w _,nilL,nilL,fun e he=>by simp at he⟩)
 exact⟨.map (some w.heap.size),_,θ',Im',by simp[Instr.makeMap],h1,.mp h3,h2⟩
theorem sL{t kt et:TypeId}{kd:IntKind}(_hu:P.underlying t=some (.map kt et))(hr:HRel P ω w Im θ h){nx:Nat}(hθ:θ nx=none)(hnx:h nx=none):
  ∃ v w' θ' Im',(Instr.makeMap t none).run P w= .ok v w'/\Ext (fun x=>nx<=x/\x < nx+1) h w Im θ (ad [(nx,some (.mpb kd []))] h) w' Im' θ'/\VRel P ω w' Im' θ' (.mp nx) v/\HRel P ω w' Im' θ' (ad [(nx,some (.mpb kd []))] h):=by
 have nilL:∀ {w:World} {Im:Nat->Prop} {θ:Th},LRel P ω w Im θ [] []:=⟨rfl,fun i v u h=>by simp at h⟩
 obtain⟨θ',Im',h1,h2,h3⟩:=lF hr hθ hnx (w':=w.alloc (.map #[] 0)) (N:=0) (by simp) (fun d hd=>dl w _ d hd) rfl rfl rfl (.mpb kd []) (fun θ' a=>⟨_,_,#[],0,a,ef w _,nilL,nilL,fun e he=>by simp at he⟩)
 exact⟨.map (some w.heap.size),_,θ',Im',by simp[Instr.makeMap],h1,.mp h3,h2⟩
theorem ug{y:Nat}{T:TypeId}{cs:List SV}(hr:HRel P ω w Im θ h)(hy:h y=some (.cells T cs)):∃ b,θ y=some (b,cs.length)/\w.shape? b=some (T,cs.length):=by
 obtain⟨b,ca,fr,g1,g2,g3,g4⟩:=hr.at_ y _ hy
 refine⟨b,g1,?_⟩
 have:=g4.len
 simp only[Array.length_toList]at this
 simp[World.shape?,g2,this]
theorem zY       {s d:TypeId}{x:SV}{nx nx':Nat}{r:SV}{ups:List (Nat × Option Chunk)}{rs:List Nat}(hr:HRel P ω w Im θ h)(hm:af   h (D7    P s d x nx)=some (r,ups,nx',rs)){u:Value}(hx:VRel P ω w Im θ x u):
  (convert s d u).run P w= .ok u w/\VRel P ω w Im θ r u/\ups=[]/\nx'=nx:=by
 unfold D7 at hm
 split at hm
 . rename_i t y o h1 h2
   cases hb:Nat.beq (P.cellsOf t) 0 with
   | true=>rw[hb]at hm;simp[af]at hm
   | false=>
    rw[hb]at hm
    simp only[cF]at hm
    have hne:P.cellsOf t≠0:=by intro e;rw[e]at hb;cases hb
    obtain⟨i,hi⟩:=dM hne
    have hsz:i.size≠0:=by simpa [Program.cellsOf,hi]using hne
    have hb0:=cV hm;clear hm;obtain⟨c,rs',hy,hm,rfl⟩:=hb0
    cases c <;> try (simp[af]at hm;done)
    rename_i T cs
    have hb0:=aB hm;clear hm;obtain⟨hlt,hm⟩:=hb0
    obtain⟨rfl,rfl,rfl,-⟩:=ai hm
    obtain⟨b,g1,g2⟩:=ug hr hy
    cases hx with
    | ptr hθ=>
     rw[g1]at hθ
     simp only[sJ,pJ]at hθ
     obtain⟨rfl,rfl⟩:=hθ
     exact⟨Lib.run_to_unsafe w _ h1 h2 hi hsz g2 (by rw[bL]at hlt;exact hlt),.ptr g1,rfl,rfl⟩
 . rename_i t y o h1 h2
   have hb0:=cV hm;clear hm;obtain⟨c,rs',hy,hm,rfl⟩:=hb0
   cases c <;> try (simp[af]at hm;done)
   rename_i T cs
   have hb0:=aB hm;clear hm;obtain⟨hk,hm⟩:=hb0
   simp only[bA]at hk
   obtain⟨i,hi⟩:=bo hk.1
   obtain⟨rfl,rfl,rfl,-⟩:=ai hm
   obtain⟨b,g1,g2⟩:=ug hr hy
   cases hx with
   | ptr hθ=>
    rw[g1]at hθ
    simp only[sJ,pJ]at hθ
    obtain⟨rfl,rfl⟩:=hθ
    exact⟨Lib.run_from_unsafe w _ h1 h2 hi g2 hk.2,.ptr g1,rfl,rfl⟩
 . simp[af]at hm
theorem zZ       {s d:TypeId}{x:SV}{nx nx':Nat}{r:SV}{ups:List (Nat × Option Chunk)}{rs:List Nat}(hr:HRel P ω w Im θ h)(hfr:∀ x,nx<=x->x < nx'->θ x=none/\h x=none)(hm:af   h (D9    P s d x nx)=some (r,ups,nx',rs)){u:Value}(hx:VRel P ω w Im θ x u):
  ∃ v w' θ' Im',(convert s d u).run P w= .ok v w'/\Ext (fun x=>nx<=x/\x < nx') h w Im θ (ad ups h) w' Im' θ'/\VRel P ω w' Im' θ' r v/\HRel P ω w' Im' θ' (ad ups h):=by
 unfold D9 at hm
 split at hm
 . rename_i e h1 h2
   split at hm
   case h_2=>simp[af]at hm
   rename_i l hu
   have hb0:=aB hm;clear hm;obtain⟨hk,hm⟩:=hb0
   have h1c:P.cellsOf e=1:=nE hk
   obtain⟨rfl,rfl,rfl,rfl⟩:=ai hm
   cases hx with
   | str hs=>
    rename_i bs
    have hrun:=run_bytes_of_string (P:=P) w s d e bs h1 h2 hu
    generalize hcells:bytesRow bs (grownCap w bs.size 0 e)=cells at hrun
    have hge:=grownCap_ge w bs.size 0 e
    have hcs:cells.size=grownCap w bs.size 0 e:=by
     rw[<- hcells]
     have:bs.data.size=bs.size:=rfl
     simp[bytesRow,this]
     omega
    have hls:l.length=bs.size:=(d6 hs).symm
    obtain⟨f1,f2⟩:=hfr nx (Nat.le_refl _) (Nat.lt_succ_self _)
    have hagg:aq P e=false:=by simp[aq,hu]
    obtain⟨θ',Im',g1,g2,g3⟩:=lF       hr f1 f2 (w':=w.drew.alloc (.cells cells e (cells.size,cells.size+1))) (N:=cells.size) (by simp) (fun d hd=>dl        w.drew _ d hd) rfl rfl rfl (.seq e (l.map k9    )) (fun θ' a=>by
     refine .inr ⟨_,_,cells,e,_,fun i=>.int .u8 ((l.getD i 0).toNat),a,ef w.drew _,fun i hi hh=>by simp only at hh;omega,⟨rfl,rfl⟩,by rw[h1c,List.length_map];omega,fun v hv=> ?_,fun i v hv=> ?_⟩
     . obtain⟨b,_,rfl⟩:=List.mem_map.1 hv
       unfold expand
       rw[hagg]
       simp only[cF,aS,hu,k9,asI]
     . simp only[List.getElem?_map,Option.map_eq_some_iff]at hv
       obtain⟨b,hb,rfl⟩:=hv
       have e1:l.getD i 0=b:=by simp[gD0,hb]
       simp only[e1]
       refine⟨.int,by simp[Value.cells,h1c],fun d c hd=> ?_⟩
       cases d with
       | succ d=>simp[Value.cells]at hd
       | zero=>
        simp[Value.cells]at hd
        subst hd
        have hil:i < l.length:=by
         rcases Nat.lt_or_ge i l.length with h5 | h5
         . exact h5
         . simp[List.getElem?_eq_none h5]at hb
        have hib:i < bs.data.size:=by show i < bs.size;omega
        have hbd:bs.data[i]=b:=by
         have:bs.data.toList[i]? =some b:=by rw[hs];exact hb
         rw[Array.getElem?_toList,Array.getElem?_eq_getElem hib]at this
         exact Option.some.inj this
        rw[h1c,<- hcells]
        simp only[bytesRow,Nat.mul_one,Nat.add_zero]
        rw[Array.getElem?_append_left (by simpa using hib)]
        simp only[Array.getElem?_map,Option.map_eq_some_iff]
        exact⟨b,by rw[Array.getElem?_eq_getElem hib,hbd],rfl⟩)
    refine⟨_,_,θ',Im',hrun,g1,?_,g2⟩
    have:=VRel'.qs (P:=P) (ω:=ω) (w:=w.drew.alloc (.cells cells e (cells.size,cells.size+1))) (Im:=Im') (θ:=θ') (x:=nx) (sz:=1) (l:=0) (n:=bs.size) (cap:=grownCap w bs.size 0 e) g3 (by rw[hcs];simp) hge
    rw[hls]
    simpa using this
 . rename_i e h1 h2
   split at hm
   case h_2=>simp[af]at hm
   rename_i hu
   have hb0:=aB hm;clear hm;obtain⟨hk,hm⟩:=hb0
   simp only[bA]at hk
   have h1c:P.cellsOf e=1:=nE hk.1
   have hagg:aq P e=false:=by simp[aq,hu]
   split at hm
   . simp[af]at hm
   rename_i hns
   obtain⟨es,zs,rs',uf,g1,g2,g3⟩:=iu hr hk.2 hx hm
   cases zs with
   | cons z zs=>simp[af]at g1
   | nil=>
    simp only[]at g1
    obtain⟨rfl,rfl,rfl,_⟩:=ai g1
    have hint:∀ i,i < es.length->∃ n,uf i= .int .u8 n/\byteOf (es.getD i .junk)=UInt8.ofNat n.toNat:=by
     intro i hi
     have hget:es[i]? =some es[i]:=by simp[hi]
     obtain⟨q1,q2⟩:=g2.rel i es[i] hget
     have q3:=g2.fit es[i] (List.getElem_mem hi)
     unfold expand at q3
     rw[hagg]at q3
     simp only[cF,aS,hu]at q3
     have hgd:es.getD i .junk=es[i]:=by simp[gD0,hget]
     rw[hgd,<- q3]
     rw[<- q3]at q1
     generalize uf i=z at q1
     cases q1
     exact⟨_,rfl,rfl⟩
    have hflat:∀ m,m<=es.length->∃ ns:List Int,ns.length=m/\bp uf m=ns.map (Value.int .u8)/\ns.map (fun n=>UInt8.ofNat n.toNat)=(es.map byteOf).take m:=by
     intro m
     induction m with
     | zero=>intro _;exact⟨[],rfl,rfl,by simp⟩
     | succ m ih=>
      intro hm
      obtain⟨ns,a1,a2,a3⟩:=ih (by omega)
      obtain⟨n,b1,b2⟩:=hint m (by omega)
      have hml:m < (es.map byteOf).length:=by simp;omega
      have hml':m < es.length:=by omega
      refine⟨ns++[n],by simp[a1],by simp[bp,a2,b1,Value.cells],?_⟩
      rw[List.map_append,a3,List.take_succ_eq_append_getElem hml]
      congr 1
      have hgd:es.getD m .junk=es[m]:=by simp[gD0,hml']
      rw[hgd]at b2
      simp[b2]
    obtain⟨ns,a1,a2,a3⟩:=hflat es.length (Nat.le_refl _)
    rw[<- List.length_map (f:=byteOf),List.take_length]at a3
    have hcells:=g3.cells w rfl
    rw[a2]at hcells
    have hlen:=g3.len w
    have hE:Ext (fun x=>nx<=x/\x < nx) h w Im θ (ad [] h) w Im θ:=Ext.refl _
    have fin:∀ bs:ByteArray,bs.data.toList=es.map byteOf->(convert s d u).run P w= .ok (.string bs) w->
      ∃ v w' θ' Im',(convert s d u).run P w= .ok v w'/\Ext (fun x=>nx<=x/\x < nx) h w Im θ (ad [] h) w' Im' θ'/\VRel P ω w' Im' θ' (.str (es.map byteOf)) v/\HRel P ω w' Im' θ' (ad [] h):=
     fun bs hbs hrun=>⟨_,_,θ,Im,hrun,hE,.str hbs,hr⟩
    have sl:∀ (p:Option Addr) (n cap:Nat),u= .slice p n cap->(convert s d u).run P w= .ok (.string (ns.foldl (fun r n=>r.push (UInt8.ofNat n.toNat)) ByteArray.empty)) w:=by
     intro p n cap hue
     subst hue
     rw[run_convert_bytes_string w s d e p n cap h1 hu h2]
     have hn:n=es.length:=by simpa [Builtin.lenOf]using hlen
     subst hn
     cases p with
     | none=>
      simp only[Builtin.firstCells,Sem.run_pure,Result.ok.injEq,and_true]at hcells
      have:ns=[]:=by
       have h9:=congrArg Array.size hcells
       simp at h9
       exact List.eq_nil_of_length_eq_zero (by omega)
      subst this
      simp[Conv.bytesToString]
     | some a=>
      simp only[Builtin.firstCells,h1c,Nat.mul_one]at hcells
      exact run_bytesToString w a _ cap ns hcells
    have hdata:(ns.foldl (fun r n=>r.push (UInt8.ofNat n.toNat)) ByteArray.empty).data.toList=es.map byteOf:=by
     rw[<- a3]
     have key:∀ (ns:List Int) (r:ByteArray),(ns.foldl (fun r n=>r.push (UInt8.ofNat n.toNat)) r).data.toList=r.data.toList++ns.map (fun n=>UInt8.ofNat n.toNat):=by
      intro ns
      induction ns with
      | nil=>intro r;simp
      | cons n ns ih=>intro r;rw[List.foldl_cons,ih];simp[ByteArray.push]
     rw[key]
     rfl
    have hsl:∃ p n cap,u= .slice p n cap:=by
     cases hx <;> first
      | exact⟨_,_,_,rfl⟩
      | (simp[gl,af]at hm;done)
      | (exact absurd rfl (hns _))
    obtain⟨p,n,cap,hue⟩:=hsl
    exact fin _ hdata (sl p n cap hue)
 . obtain⟨q1,q2,rfl,rfl⟩:=zY hr hm hx
   exact⟨u,w,θ,Im,q1,Ext.refl _,q2,hr⟩
theorem BD      {t:TypeId}{x:SV}{nx nx':Nat}{r:SV}{ups:List (Nat × Option Chunk)}{rs:List Nat}(hr:HRel P ω w Im θ h)(hm:af   h (KR   P t x nx)=some (r,ups,nx',rs)){tys:Array TypeId}{ty:TypeId}{us:Array Value}{u:Value}(h1:tys[0]? =some t)(h2:us[0]? =some u)(hx:VRel P ω w Im θ x u):
  ∃ v,(Builtin.len_ tys ty us).run P w= .ok v w/\VRel P ω w Im θ r v/\ups=[]/\nx'=nx:=by
 unfold KR at hm
 split at hm
 . rename_i hu
   obtain⟨rfl,rfl,rfl,rfl⟩:=ai hm
   cases hx with
   | qs _ _ _=>exact⟨_,by simp[Builtin.len_,h1,h2,run_underlying hu,goInt],.int,rfl,rfl⟩
   | qsnil h0=>subst h0;exact⟨_,by simp[Builtin.len_,h1,h2,run_underlying hu,goInt],.int,rfl,rfl⟩
 . rename_i hu
   obtain⟨rfl,rfl,rfl,rfl⟩:=ai hm
   cases hx
   exact⟨_,by simp[Builtin.len_,h1,h2,run_underlying hu,goInt],.int,rfl,rfl⟩
 . rename_i hu
   obtain⟨rfl,rfl,rfl,rfl⟩:=ai hm
   cases hx with
   | pnn h=>
    cases h with
    | psl us' e1 e0 e2 e3 e4=>exact⟨_,by simp[Builtin.len_,h1,h2,run_underlying hu,goInt,e1],.int,rfl,rfl⟩
 . rename_i y hu
   have hb0:=cV hm;clear hm;obtain⟨c,rs',hy,hm,rfl⟩:=hb0
   cases c with
   | mpc ks vs=>
    obtain⟨rfl,rfl,rfl,rfl⟩:=ai hm
    cases hx with
    | mp hθ=>
     obtain⟨b',N',es,cl,g1,g2,g3,g4,g5⟩:=hr.at_ y _ hy
     rw[hθ]at g1
     simp only[sJ,pJ]at g1
     obtain⟨rfl,rfl⟩:=g1
     have:=g3.len
     simp at this
     exact⟨_,by simp[Builtin.len_,h1,h2,run_underlying hu,goInt,MapKept.run_getObj_map g2,<- this],.int,rfl,rfl⟩
   | mpb kd kvs=>
    obtain⟨rfl,rfl,rfl,rfl⟩:=ai hm
    cases hx with
    | mp hθ=>
     obtain⟨b',N',es,cl,g1,g2,g3,g4,g5⟩:=hr.at_ y _ hy
     rw[hθ]at g1
     simp only[sJ,pJ]at g1
     obtain⟨rfl,rfl⟩:=g1
     have:=g3.len
     simp[bN]at this
     exact⟨_,by simp[Builtin.len_,h1,h2,run_underlying hu,goInt,MapKept.run_getObj_map g2,<- this],.int,rfl,rfl⟩
   | cells=>simp[af]at hm
   | loopr=>simp[af]at hm
   | seq=>simp[af]at hm
 . simp[af]at hm
theorem nN         {mx:Bool}{x y:SV}{nx nx':Nat}{r:SV}{ups:List (Nat × Option Chunk)}{rs:List Nat}(hm:af   h (oX      mx x y nx)=some (r,ups,nx',rs)){ux uy:Value}(hx:VRel P ω w Im θ x ux)(hy:VRel P ω w Im θ y uy){tys:Array TypeId}{ty:TypeId}{us:Array Value}(hus:us.toList=[ux,uy]):
  ∃ v,(bif mx then Builtin.max_ tys ty us else Builtin.min_ tys ty us).run P w= .ok v w/\VRel P ω w Im θ r v/\ups=[]/\nx'=nx:=by
 unfold oX at hm
 split at hm
 . rename_i k a k' b
   cases hx
   cases hy
   have hb0:=aB hm;clear hm;obtain⟨hk,hm⟩:=hb0
   cases mx with
   | true=>
    simp only[cT]at hm ⊢
    obtain⟨rfl,rfl,rfl,rfl⟩:=ai hm
    refine⟨_,?_,.int,rfl,rfl⟩
    simp only[Builtin.max_,hus,List.foldlM_cons,List.foldlM_nil,Builtin.max2,Sem.run_bind,Sem.run_pure,Result.andThen_ok]
    congr 2
    by_cases h:a < b
    . have h2:decide (a < b)=true:=by simpa using h
      simp[h]
    . simp[h]
   | false=>
    simp only[cF]at hm ⊢
    obtain⟨rfl,rfl,rfl,rfl⟩:=ai hm
    refine⟨_,?_,.int,rfl,rfl⟩
    simp only[Builtin.min_,hus,List.foldlM_cons,List.foldlM_nil,Builtin.min2,Sem.run_bind,Sem.run_pure,Result.andThen_ok]
    congr 2
    by_cases h:b < a
    . simp[h]
    . simp[h]
 . simp[af]at hm
end
end Go.Am
namespace Go.Am
variable {P:Program} {ω:Nat->Value}
section
variable {w:World} {Im:Nat->Prop} {θ:Th} {h:HpF}
theorem AI{e:TypeId}(hu:P.underlying e=some (.int .u8))(h1c:P.cellsOf e=1){es:List SV}{cs:Array Value}{us:Nat->Value}(h8:∀ v ∈ es,expand P e v=v)
  (h9:∀ (i:Nat) (v:SV),es[i]? =some v->VRel P om0 w Im eG v (us i)/\(us i).cells.size=P.cellsOf e/\∀ (d:Nat) (c:Value),(us i).cells[d]? =some c->cs[i * P.cellsOf e+d]? =some c):
  ∀ (i:Nat) (v:SV),es[i]? =some v->∃ n:Int,cs[i]? =some (Value.int .u8 n)/\byteOf v=n.toNat.toUInt8:=by
 intro i v hv
 obtain⟨q1,-,q2⟩:=h9 i v hv
 have q3:=h8 v (List.mem_of_getElem? hv)
 have hagg:aq P e=false:=by simp[aq,hu]
 unfold expand at q3
 rw[hagg]at q3
 simp only[cF,aS,hu]at q3
 rw[<- q3]at q1 ⊢
 generalize us i=z at q1 q2
 cases q1
 refine⟨_,?_,rfl⟩
 have:=q2 0 (.int .u8 (asI v)) (by simp[Value.cells])
 simpa [h1c]using this
theorem vG{es:List SV}{cs:Array Value}{b:Nat}{T:TypeId}{fr:Nat × Nat}(hb:w.heap[b]? =some (.cells cs T fr))(h:∀ (i:Nat) (v:SV),es[i]? =some v->∃ n:Int,cs[i]? =some (Value.int .u8 n)/\byteOf v=n.toNat.toUInt8):
  ∀ m i acc,i+m=es.length->(loadBytes ⟨b,i,none⟩ acc m).run P w= .ok ⟨acc.data++((es.drop i).map byteOf).toArray⟩ w
 | 0,i,acc,hm=>by
  have:es.drop i=[]:=List.drop_of_length_le (by omega)
  simp[loadBytes,this]
 | m+1,i,acc,hm=>by
  have hi:i < es.length:=by omega
  obtain⟨n,h1,h2⟩:=h i es[i] (by simp[hi])
  have hc:w.cell? ⟨b,i,none⟩=some (.int .u8 n):=by simp[World.cell?,hb,h1]
  have ih:=vG hb h m (i+1) (acc.push n.toNat.toUInt8) (by omega)
  have ea:(⟨b,i,none⟩:Addr).add 1=⟨b,i+1,none⟩:=by simp[Addr.add]
  simp only[loadBytes,Sem.run_bind,run_load,hc,Result.andThen,ea]
  have e:((es.drop i).map byteOf)=n.toNat.toUInt8 :: (es.drop (i+1)).map byteOf:=by rw[List.drop_eq_getElem_cons hi,List.map_cons,h2]
  rw[ih,e]
  congr 2
  apply Array.ext'
  simp[ByteArray.push,-List.map_drop]
theorem qd            {pt:TypeId}{p n:SV}{nx nx':Nat}{r:SV}{ups:List (Nat × Option Chunk)}{rs:List Nat}(hr:HRel P ω w Im θ h)(hm:af   h (lg         P pt p n nx)=some (r,ups,nx',rs)){up un:Value}(hp:VRel P ω w Im θ p up)(hn:VRel P ω w Im θ n un)
  {tys:Array TypeId} {ty:TypeId} {args:Array Value} (h0:tys[0]? =some pt) (ha:args= #[up,un]):
  ∃ v w',(Builtin.unsafeString_ tys ty args).run P w= .ok v w'/\Ext (fun _=>False) h w Im θ (ad ups h) w' Im θ/\VRel P ω w' Im θ r v/\HRel P ω w' Im θ (ad ups h)/\nx'=nx:=by
 unfold lg at hm
 split at hm
 case h_2=>simp[af]at hm
 rename_i e y sz i off m hpt
 split at hm
 case h_2=>simp[af]at hm
 rename_i hu
 have hb0:=aB hm;clear hm;obtain⟨hk,hm⟩:=hb0
 simp only[bA]at hk
 have h1c:P.cellsOf e=1:=nE hk.1.1.1
 have:sz=1:=nE hk.1.1.2
 subst this
 have:i=0:=nE hk.1.2
 subst this
 have:off=0:=nE hk.2
 subst this
 have hb0:=cV hm;clear hm;obtain⟨c,rs',hy,hm,rfl⟩:=hb0
 cases c <;> try (simp[af]at hm;done)
 rename_i e' es
 have hb0:=aB hm;clear hm;obtain⟨hk2,hm⟩:=hb0
 have:e'=e:=nE hk2
 subst this
 have hb0:=aN hm;clear hm;obtain⟨hc,hm⟩:=hb0
 simp only[bA,decide_eq_true_eq]at hc
 obtain⟨⟨rfl,hpos⟩,h63⟩:=hc
 obtain⟨rfl,rfl,rfl,-⟩:=ai hm
 cases hn
 cases hp with
 | qp hθ=>
  rename_i b N
  rcases hr.at_ y _ hy with ⟨rfl,h3⟩ | ⟨b',N',cs,T,fr,us,h3,h4,h5,⟨h6,rfl⟩,h7,h8,h9⟩
  . simp at hpos
  . rw[h3]at hθ
    simp only[sJ,pJ]at hθ
    obtain⟨rfl,rfl⟩:=hθ
    have hbs:=AI hu h1c h8 h9
    have hld:=vG (P:=P) h4 hbs es.length 0 .empty (by omega)
    have hsh:w.shape? b'=some (T,cs.size):=by simp[World.shape?,h4]
    have hlies:=Lib.liesAt_bytes (P:=P) h1c (cs.size / P.cellsOf T) es.length (by rw[h1c,Nat.div_one];rw[h1c,Nat.mul_one]at h7;omega)
    have hne:es.length≠0:=by omega
    have h63':¬ (9223372036854775807:Int) < (es.length:Int):=by omega
    have hmax:IntKind.i64.max=9223372036854775807:=rfl
    have hrun:(Builtin.unsafeString_ tys ty args).run P w= .ok (.string ⟨((es.drop 0).map byteOf).toArray⟩) (w.freeze ⟨b',0,none⟩ es.length):=by
     subst ha
     obtain⟨s0,s1,s2,s3,hdef⟩:∃ (s0:String) (s1:RuntimeError) (s2 s3:Unsupported),Builtin.unsafeString_ tys ty #[.pointer (some ⟨b',0 * 1+0,none⟩),.int .i64 es.length]=
       (do
        let n <- asInt (.int .i64 es.length)
        let some pt:=tys[0]? | stuck s0
        if n < 0 then runtimePanic s1
        if n > IntKind.i64.max then unsupported s2
        if n=0 then pure (.string .empty)
        else if <- variablesAt ⟨b',0,none⟩ (<- elemOf pt) n.toNat then do
         let s <- loadBytes ⟨b',0,none⟩ .empty n.toNat
         freeze ⟨b',0,none⟩ n.toNat
         pure (.string s)
        else unsupported s3):=⟨_,_,_,_,rfl⟩
     rw[hdef]
     simp[asInt,asIntOf,h0,hmax,h63',hne,variablesAt,hsh,hlies,elemOf,run_underlying hpt,hld]
     intro hh
     omega
    have hfz:w.freeze ⟨b',0,none⟩ es.length=w.putObj b' (.cells cs T (if fr.1==fr.2 then(0,0+es.length)else(min fr.1 0,max fr.2 (0+es.length)))):=by
     obtain⟨lo,hi⟩:=fr
     unfold World.freeze World.putObj
     rw[if_neg hne]
     congr 1
     apply Array.ext_getElem?
     intro j
     rw[Array.getElem?_modify,Array.getElem?_setIfInBounds]
     by_cases hj:b'=j
     . subst hj
       obtain⟨hlt,hge⟩:=Array.getElem?_eq_some_iff.1 h4
       simp[hlt,hge]
     . simp[hj]
    obtain⟨hE,hH⟩:=dm hr hy h3 (.cells cs T (if fr.1==fr.2 then(0,0+es.length)else(min fr.1 0,max fr.2 (0+es.length)))) none (fun _ d hd=>by cases hd)
    refine⟨_,_,hrun,?_,?_,?_,rfl⟩
    . rw[hfz];exact hE
    . exact .str (by simp)
    . rw[hfz];exact hH
theorem qe{x:SV}{nx nx':Nat}{r:SV}{ups:List (Nat × Option Chunk)}{rs:List Nat}(hm:af h (lh x nx)=some (r,ups,nx',rs)){u:Value}(hx:VRel P ω w Im θ x u)(tys:Array TypeId)(ty:TypeId):
  ∃ v,(Builtin.unsafeSliceData_ tys ty #[u]).run P w= .ok v w/\VRel P ω w Im θ r v/\ups=[]/\nx'=nx:=by
 unfold lh at hm
 split at hm
 case h_2=>simp[af]at hm
 rename_i y sz l n
 have hb0:=aN hm;clear hm;obtain⟨hc,hm⟩:=hb0
 have hc:=of_decide_eq_true hc
 obtain⟨rfl,rfl,rfl,-⟩:=ai hm
 cases hx with
 | qsnil h0=>omega
 | qs h1 h2 h3=>exact⟨_,Lib.run_unsafeSliceData_row w tys ty _ _ _ (by omega),.qp h1,rfl,rfl⟩
theorem xv{fn:Func}(hn:fn.name= "internal/bytealg.IndexByteString")(ho:fn.origin= ""):Extern.find fn=some Extern.BytealgIndexByte.indexByte∧Extern.findNext fn=none:=by
 have a1:Extern.allGenericRows.lookup "internal/bytealg.IndexByteString" =none:=by kernel_rfl
 have a2:Extern.allTypedRows.lookup "internal/bytealg.IndexByteString" =none:=by kernel_rfl
 have a3:Extern.allRows.lookup "internal/bytealg.IndexByteString" =some Extern.BytealgIndexByte.indexByte:=by kernel_rfl
 have a4:Extern.allNextRows.lookup "internal/bytealg.IndexByteString" =none:=by kernel_rfl
 have a5:Extern.allNextRows.lookup "" =none:=by kernel_rfl
 exact⟨by simp[Extern.find,hn,a1,a2,a3],by simp[Extern.findNext,hn,ho,a4,a5]⟩
theorem rk{fn:Func}(hn:fn.name= "internal/abi.NoEscape")(ho:fn.origin= ""):Extern.find fn=some Extern.AbiNoEscape.same∧Extern.findNext fn=none:=by
 have a1:Extern.allGenericRows.lookup "internal/abi.NoEscape" =none:=by kernel_rfl
 have a2:Extern.allTypedRows.lookup "internal/abi.NoEscape" =none:=by kernel_rfl
 have a3:Extern.allRows.lookup "internal/abi.NoEscape" =some Extern.AbiNoEscape.same:=by kernel_rfl
 have a4:Extern.allNextRows.lookup "internal/abi.NoEscape" =none:=by kernel_rfl
 have a5:Extern.allNextRows.lookup "" =none:=by kernel_rfl
 exact⟨by simp[Extern.find,hn,a1,a2,a3],by simp[Extern.findNext,hn,ho,a4,a5]⟩
end
end Go.Am
namespace Go.Am
variable {P:Program} {ω:Nat->Value}
theorem uP{us:Nat->Value}{m:Nat}(h:∀ i,i < m->(us i).cells.size=1){i:Nat}(hi:i < m){c:Value}(hc:(us i).cells[0]? =some c):(bp us m)[i]? =some c:=by
 have hl:=cO m h
 have hlt:i < (bp us m).length:=by omega
 have h1:(us i).cells[0]? =some (bp us m)[i]:=j7 (us:=us) (sz:=1) (m:=m) h (at_:=fun k=>(us k).cells[0]?) (fun k hk d c hd=>by
  have hdl:d < 1:=by
   rw[<- h k hk]
   rcases Nat.lt_or_ge d (us k).cells.size with h1 | h1
   . exact h1
   . simp[Array.getElem?_eq_none h1]at hd
  have:d=0:=by omega
  subst this
  simpa using hd) i (bp us m)[i] (by simp[hlt])
 rw[hc]at h1
 rw[h1]
 simp[hlt]
section
variable {w:World} {Im:Nat->Prop} {θ:Th} {h:HpF}
theorem wX{b:Nat}(hb:au Im θ h [] b):Im b:=by
 rcases hb with hb | ⟨y,hy,_⟩
 . exact hb
 . cases hy
theorem rN(xs:List SV):∀ (j:Nat) (cs:List SV),(iZ xs j cs).length=cs.length
 | _,[]=>rfl
 | j,c :: cs=>by simp[iZ,rN xs (j+1) cs]
theorem uQ(xs:List SV):∀ (j:Nat) (cs:List SV) (i:Nat),(iZ xs j cs)[i]? =(cs[i]?).map fun c=>.int .u8 (bif Nat.blt (j+i) xs.length then asI (xs.getD (j+i) .junk)else asI c)
 | _,[],i=>by simp[iZ]
 | j,c :: cs,0=>by simp[iZ]
 | j,c :: cs,i+1=>by
  simp only[iZ,List.getElem?_cons_succ]
  rw[uQ xs (j+1) cs i,show j+1+i=j+(i+1)by omega]
theorem wY{e:TypeId}(h:qz P e=true):P.underlying e=some (.int .u8)/\P.cellsOf e=1:=by
 unfold qz at h
 split at h
 . rename_i h1;exact⟨h1,nE h⟩
 . cases h
theorem Ai{e:TypeId}(hu:P.underlying e=some (.int .u8)){v:SV}(h:expand P e v=v):v= .int .u8 (asI v):=by
 have ha:aq P e=false:=by unfold aq;rw[hu]
 simp only[expand,ha,cF,aS,hu]at h
 exact h.symm
theorem uR         {t t' e:TypeId}{y off m:Nat}{s:SV}{nx nx':Nat}{r:SV}{ups:List (Nat × Option Chunk)}{rs:List Nat}(hr:HRel P ω w Im θ h)(hu:P.underlying t=some (.slice e))(hm:af   h (tF      P e t' y off m s nx)=some (r,ups,nx',rs)){ud us:Value}(hd:VRel P ω w Im θ (.sl y 1 off m) ud)(hs:VRel P ω w Im θ s us)
  {tys:Array TypeId} {ty:TypeId} {args:Array Value} (h0:tys[0]? =some t) (ha:args= #[ud,us]):
  ∃ v w',(Builtin.copy_ tys ty args).run P w= .ok v w'/\Ext (fun _=>False) h w Im θ (ad ups h) w' Im θ/\VRel P ω w' Im θ r v/\HRel P ω w' Im θ (ad ups h)/\nx'=nx:=by
 unfold tF at hm
 have hb0:=aB hm;clear hm;obtain⟨hk,hm⟩:=hb0
 simp only[bA]at hk
 obtain⟨hue,h1c⟩:=wY hk.2
 have hpl:=hk.1.2
 obtain⟨xs,ys,rs1,uf,hm1,hel,hsrc⟩:=iu hr hpl hs hm
 clear hm
 split at hm1
 case h_2=>simp[af]at hm1
 have hb0:=cV hm1;clear hm1;obtain⟨c,rs',hy,hm,rfl⟩:=hb0
 cases c <;> try (simp[af]at hm;done)
 rename_i T cs
 simp only[]at hm
 split at hm
 case h_2=>simp[af]at hm
 rename_i part hpart
 split at hm
 case h_2=>simp[af]at hm
 rename_i cs' hcs'
 have hb0:=aB hm;clear hm;obtain⟨hby,hm⟩:=hb0
 have hb0:=aN hm;clear hm;obtain⟨hc,hm⟩:=hb0
 have hxm:xs.length<=m:=of_decide_eq_true hc
 obtain⟨rfl,rfl,rfl,-⟩:=ai hm
 obtain⟨t1,t2⟩:=dZ _ _ _ _ hpart
 obtain⟨-,s2⟩:=dc _ _ _ _ hcs'
 have hplen:part.length=m:=by rw[t2,List.length_take,List.length_drop];omega
 have holen:(iZ xs 0 part).length=m:=by rw[rN,hplen]
 have hne:P.cellsOf e≠0:=by rw[h1c];decide
 obtain⟨i,hi⟩:=dM hne
 have hisz:i.size=1:=by simpa [Program.cellsOf,hi]using h1c
 have hsz1:∀ j,j < xs.length->(uf j).cells.size=1:=by intro j hj;rw[<- h1c];exact hel.size j hj
 have hfl:=cO xs.length hsz1
 rw[Nat.mul_one]at hfl
 have hlen:=hsrc.len w
 have hcells:=hsrc.cells w rfl
 rw[h1c]at hcells
 have hmin:Nat.min xs.length m=xs.length:=Nat.min_eq_left hxm
 have hcl:cs'.length=cs.length:=by
  rw[s2,lA0,lA0,holen,List.length_take,List.length_drop];omega
 -- what stands where
 have hnew:∀ j,cs'[j]? =if off<=j/\j < off+m then(iZ xs 0 part)[j - off]? else cs[j]? :=by
  intro j
  rw[s2,ke _ _ _ (by rw[holen];exact t1),holen]
 have hpat:∀ k,k < m->part[k]? =cs[off+k]? :=by
  intro k hk
  rw[t2,List.getElem?_take,if_pos hk,List.getElem?_drop]
 have hold:∀ k,k < m->cs[off+k]? =some (.int .u8 (asI (part.getD k .junk))):=by
  intro k hk
  have h1:part[k]? =some part[k]:=List.getElem?_eq_getElem (by omega)
  obtain⟨n,hn⟩:=ij hby part[k] (List.getElem_mem _)
  rw[<- hpat k hk,gD0,h1,hn];rfl
 have hval:∀ k,k < m->(iZ xs 0 part)[k]? =some (.int .u8 (bif Nat.blt k xs.length then asI (xs.getD k .junk)else asI (part.getD k .junk))):=by
  intro k hk
  rw[uQ,List.getElem?_eq_getElem (show k < part.length by omega)]
  simp only[Option.map_some,Nat.zero_add,gD0,List.getElem?_eq_getElem (show k < part.length by omega),Option.getD_some]
 cases hd with
 | slnil=>
  have hx0:xs=[]:=List.eq_nil_of_length_eq_zero (by omega)
  subst hx0
  have hp0:part=[]:=List.eq_nil_of_length_eq_zero hplen
  subst hp0
  have hcc:cs'=cs:=by rw[s2];simp[iZ]
  subst hcc
  have hrun:(Builtin.copy_ tys ty args).run P w= .ok (goInt 0) w:=by
   subst ha
   simp only[List.length_nil,bp]at hcells hlen
   simp[Builtin.copy_,h0,run_underlying hu,hlen,sizeOf,typeInfo,hi,hisz,hcells,storeCells]
  have:ad [(y,some (Chunk.cells T cs'))] h=h:=by funext x;simp only[ad];by_cases hx:x=y <;> simp[hx,hy]
  refine⟨_,w,hrun,?_,.int,?_,rfl⟩
  . rw[this];exact Ext.refl _
  . rw[this];exact hr
 | sl hθ g1 g2=>
  rename_i b N cap
  rw[Nat.mul_one]at g1
  obtain⟨b',ucs,fr,h3,h4,h5,hl⟩:=hr.at_ y _ hy
  rw[h3]at hθ
  simp only[sJ,pJ]at hθ
  obtain⟨rfl,rfl⟩:=hθ
  have hul:ucs.toList.length=cs.length:=hl.len.symm
  have hbyte:∀ (k:Nat) (v:SV),xs[k]? =some v->v= .int .u8 (asI v)/\∃ q,(uf k).cells[0]? =some q/\q= .int .u8 (asI v):=by
   intro k v hv
   have h6:=Ai hue (hel.fit v (List.mem_of_getElem? hv))
   obtain⟨h7,h8⟩:=hel.rel k v hv
   refine⟨h6,?_⟩
   rw[h6]at h7
   generalize uf k=q at h7
   cases h7
   exact⟨_,rfl,rfl⟩
  have hones:∀ u ∈ bp uf xs.length,u.oneCell'=true:=by
   intro u hu
   obtain⟨k,hk,huk⟩:=lZ _ u hu
   have hrel:=(hel.rel k xs[k] (by simp[hk])).1
   exact(gE hpl (hel.fit _ (List.getElem_mem hk)) hrel).1 u huk
  have hroom:off+(bp uf xs.length).length<=ucs.toList.length:=by rw[hfl,hul];omega
  have hst:=bB P b' off T fr (bp uf xs.length) 0 ucs w h4 h5 (by simpa using hroom) hones
  simp only[Nat.add_zero]at hst
  generalize hcells':(ucs.toList.take off++bp uf xs.length++ucs.toList.drop (off+(bp uf xs.length).length)).toArray=cells at hst
  have hcsz:cells.size=ucs.size:=by
   rw[<- hcells']
   simp only[List.size_toArray,lA0,List.length_take,List.length_drop,Array.length_toList]at hroom ⊢
   omega
  rw[kV h4]at hst
  have hrun:(Builtin.copy_ tys ty args).run P w= .ok (goInt xs.length) (w.putObj b' (.cells cells T fr)):=by
   subst ha
   simp[Builtin.copy_,h0,run_underlying hu,hlen,sizeOf,typeInfo,hi,hisz,hmin,hcells,hst]
  have hget:∀ j,cells.toList[j]? =if off<=j/\j < off+xs.length then(bp uf xs.length)[j - off]? else ucs.toList[j]? :=by
   intro j
   rw[<- hcells']
   simp only[]
   rw[ke _ _ _ hroom,hfl]
  obtain⟨hE,hH⟩:=dm        hr hy h3 (.cells cells T fr) (some (.cells T cs')) (fun hI d hd=>by
   cases hd
   refine⟨b',cells,fr,by rw[hcl];exact h3,World.putObj_heap_same (fR h4),by rw[hcsz];exact h5,?_,fun j v u hv hu=> ?_⟩
   . rw[hcl];simp only[Array.length_toList]at hul ⊢;omega
   . rw[hnew]at hv
     rw[hget]at hu
     by_cases hj:off<=j/\j < off+m
     . rw[if_pos hj]at hv
       have hk:j - off < m:=by omega
       rw[hval _ hk]at hv
       cases hv
       by_cases hx:j - off < xs.length
       . rw[if_pos ⟨hj.1,by omega⟩]at hu
         obtain⟨h6,q,hq,rfl⟩:=hbyte (j - off) xs[j - off] (List.getElem?_eq_getElem hx)
         have:=uP hsz1 hx hq
         rw[this]at hu
         cases hu
         have hb:Nat.blt (j - off) xs.length=true:=by rw[bL];exact hx
         rw[hb,cT,gD0,List.getElem?_eq_getElem hx]
         exact .int
       . rw[if_neg (by omega)]at hu
         have h7:=hold _ hk
         rw[show off+(j - off)=j by omega]at h7
         have h8:=hl.at_ j _ u h7 hu
         have hb:Nat.blt (j - off) xs.length=false:=by
          cases hh:Nat.blt (j - off) xs.length with
          | false=>rfl
          | true=>rw[bL]at hh;exact absurd hh hx
         rw[hb,cF]
         cases h8
         exact .int
     . rw[if_neg hj]at hv
       rw[if_neg (by omega)]at hu
       exact(hl.at_ j v u hv hu).mono hI (fun _ _ h=>h))
  exact⟨_,_,hrun,hE,.int,hH,rfl⟩
theorem Aj       {t t':TypeId}{d s:SV}{nx nx':Nat}{r:SV}{ups:List (Nat × Option Chunk)}{rs:List Nat}(hr:HRel P ω w Im θ h)(hm:af   h (D8    P t t' d s nx)=some (r,ups,nx',rs)){ud us:Value}(hd:VRel P ω w Im θ d ud)(hs:VRel P ω w Im θ s us)
  {tys:Array TypeId} {ty:TypeId} {args:Array Value} (h0:tys[0]? =some t) (ha:args= #[ud,us]):
  ∃ v w',(Builtin.copy_ tys ty args).run P w= .ok v w'/\Ext (fun _=>False) h w Im θ (ad ups h) w' Im θ/\VRel P ω w' Im θ r v/\HRel P ω w' Im θ (ad ups h)/\nx'=nx:=by
 unfold D8 at hm
 split at hm
 case h_3=>simp[af]at hm
 case h_2=>
  rename_i e y sz off m hu
  have hb0:=aB hm;clear hm;obtain⟨hk,hm⟩:=hb0
  have:sz=1:=nE hk
  subst this
  exact uR hr hu hm hd hs h0 ha
 rename_i e y sz l m hu
 have hb0:=aB hm;clear hm;obtain⟨hk,hm⟩:=hb0
 simp only[bA]at hk
 have h1c:P.cellsOf e=1:=nE hk.1.2
 have:sz=1:=nE hk.2
 subst this
 have hpl:=hk.1.1.2
 obtain⟨xs,ys,rs1,uf,hm1,hel,hsrc⟩:=iu hr hpl hs hm
 clear hm
 split at hm1
 case h_2=>simp[af]at hm1
 have hb0:=cV hm1;clear hm1;obtain⟨c,rs',hy,hm,rfl⟩:=hb0
 cases c <;> try (simp[af]at hm;done)
 rename_i e' es
 have hb0:=aB hm;clear hm;obtain⟨hk2,hm⟩:=hb0
 have:e'=e:=nE hk2
 subst this
 have hb0:=aN hm;clear hm;obtain⟨hc,hm⟩:=hb0
 simp only[bA,decide_eq_true_eq]at hc
 obtain⟨hxm,hle⟩:=hc
 obtain⟨rfl,rfl,rfl,-⟩:=ai hm
 have hne:P.cellsOf e'≠0:=by rw[h1c];decide
 obtain⟨i,hi⟩:=dM hne
 have hisz:i.size=1:=by simpa [Program.cellsOf,hi]using h1c
 have hsz1:∀ j,j < xs.length->(uf j).cells.size=1:=by intro j hj;rw[<- h1c];exact hel.size j hj
 have hfl:=cO xs.length hsz1
 rw[Nat.mul_one]at hfl
 have hlen:=hsrc.len w
 have hcells:=hsrc.cells w rfl
 rw[h1c]at hcells
 have hmin:Nat.min xs.length m=xs.length:=Nat.min_eq_left hxm
 cases hd with
 | qsnil hm0=>
  rename_i p
  subst hm0
  have hx0:xs=[]:=List.eq_nil_of_length_eq_zero (by omega)
  subst hx0
  have hrun:(Builtin.copy_ tys ty args).run P w= .ok (goInt 0) w:=by
   subst ha
   simp only[List.length_nil,bp]at hcells hlen
   cases p <;> simp[Builtin.copy_,h0,run_underlying hu,hlen,sizeOf,typeInfo,hi,hisz,hcells,storeCells]
  have he:(es.take l++[]++es.drop (l+0))=es:=by simp
  refine⟨_,w,hrun,?_,.int,?_,rfl⟩
  . simp only[List.length_nil,he]
    have:ad [(y,some (Chunk.seq e' es))] h=h:=by funext x;simp only[ad];by_cases hx:x=y <;> simp[hx,hy]
    rw[this]
    exact Ext.refl _
  . simp only[List.length_nil,he]
    have:ad [(y,some (Chunk.seq e' es))] h=h:=by funext x;simp only[ad];by_cases hx:x=y <;> simp[hx,hy]
    rw[this]
    exact hr
 | qs hθ g1 g2=>
  rename_i b N cap
  rw[Nat.mul_one]at g1
  rcases hr.at_ y _ hy with ⟨_,h3⟩ | ⟨b',N',cs,T,fr,uo,h3,h4,h5,⟨h6,rfl⟩,h7,h8,h9⟩
  . rw[h3]at hθ;cases hθ
  . rw[h3]at hθ
    simp only[sJ,pJ]at hθ
    obtain⟨rfl,rfl⟩:=hθ
    have hones:∀ u ∈ bp uf xs.length,u.oneCell'=true:=by
     intro u hu
     obtain⟨k,hk,huk⟩:=lZ _ u hu
     have hrel:=(hel.rel k xs[k] (by simp[hk])).1
     exact(gE hpl (hel.fit _ (List.getElem_mem hk)) hrel).1 u huk
    have hroom:l+(bp uf xs.length).length<=cs.toList.length:=by rw[hfl];simp only[Array.length_toList];omega
    have hst:=bB P b' l T fr (bp uf xs.length) 0 cs w h4 h5 (by simpa using hroom) hones
    simp only[Nat.add_zero]at hst
    generalize hcells':(cs.toList.take l++bp uf xs.length++cs.toList.drop (l+(bp uf xs.length).length)).toArray=cells at hst
    have hcsz:cells.size=cs.size:=by
     rw[<- hcells']
     simp only[List.size_toArray,lA0,List.length_take,List.length_drop,Array.length_toList]at hroom ⊢
     omega
    rw[kV h4]at hst
    have hrun:(Builtin.copy_ tys ty args).run P w= .ok (goInt xs.length) (w.putObj b' (.cells cells T fr)):=by
     subst ha
     simp[Builtin.copy_,h0,run_underlying hu,hlen,sizeOf,typeInfo,hi,hisz,hmin,hcells,hst]
    have hget:∀ j,cells[j]? =if l<=j/\j < l+xs.length then(bp uf xs.length)[j - l]? else cs[j]? :=by
     intro j
     rw[<- hcells']
     simp only[List.getElem?_toArray]
     rw[ke _ _ _ hroom,hfl]
     simp
    have hone:∀ {z:Value} {d:Nat} {c:Value},z.cells.size=P.cellsOf T->z.cells[d]? =some c->d=0:=by
     intro z d c hz hd
     rcases Nat.lt_or_ge d z.cells.size with h1 | h1
     . omega
     . simp[Array.getElem?_eq_none h1]at hd
    obtain⟨hE,hH⟩:=dm        hr hy h3 (.cells cells T fr) (some (.seq T (es.take l++xs++es.drop (l+xs.length)))) (fun hI d hd=>by
     cases hd
     refine .inr ⟨b',N',cells,T,fr,fun j=>if l<=j/\j < l+xs.length then uf (j - l)else uo j,h3,World.putObj_heap_same (fR h4),by rw[hcsz];exact h5,⟨by rw[hcsz,h6],rfl⟩,?_,fun v hv=> ?_,fun j v hv=> ?_⟩
     . rw[h1c]at h7 ⊢
       simp only[lA0,List.length_take,List.length_drop]
       omega
     . rcases List.mem_append.1 hv with hv | hv
       . rcases List.mem_append.1 hv with hv | hv
         . exact h8 v (List.mem_of_mem_take hv)
         . exact hel.fit v hv
       . exact h8 v (List.mem_of_mem_drop hv)
     . have htl:(es.take l).length=l:=by simp;omega
       by_cases hj:l<=j/\j < l+xs.length
       . have hv':xs[j - l]? =some v:=by
           rw[aA,List.getElem?_append_right (by omega),htl,List.getElem?_append_left (by omega)]at hv
           exact hv
         obtain⟨q1,q2⟩:=hel.rel (j - l) v hv'
         simp only[if_pos hj]
         refine⟨q1.mono (fun b hb=>hI b (wX hb)) (fun _ _ h=>h),q2,fun d c hd=> ?_⟩
         have:=hone q2 hd
         subst this
         rw[h1c,Nat.mul_one,Nat.add_zero,hget,if_pos hj]
         exact uP hsz1 (by omega) hd
       . have hv':es[j]? =some v:=by
           rcases Nat.lt_or_ge j l with h1 | h1
           . rw[aA,List.getElem?_append_left (by omega),List.getElem?_take,if_pos h1]at hv
             exact hv
           . rw[List.getElem?_append_right (by rw[lA0,htl];omega),lA0,htl,List.getElem?_drop]at hv
             rw[<- hv]
             congr 1
             omega
         obtain⟨q1,q2,q3⟩:=h9 j v hv'
         simp only[if_neg hj]
         refine⟨q1.mono hI (fun _ _ h=>h),q2,fun d c hd=> ?_⟩
         have hq:=q3 d c hd
         have:=hone q2 hd
         subst this
         rw[h1c,Nat.mul_one,Nat.add_zero]at hq ⊢
         rw[hget,if_neg hj]
         exact hq)
    exact⟨_,_,hrun,hE,.int,hH,rfl⟩
theorem Ci{ts:List TypeId}{args:List SV}{nx nx':Nat}{r:SV}{ups:List (Nat × Option Chunk)}{rs:List Nat}(hr:HRel P ω w Im θ h)(hfr:∀ x,nx<=x->x < nx'->θ x=none/\h x=none)(hm:af h (KQ P ts args nx)=some (r,ups,nx',rs)){us:Array Value}(hl:LRel P ω w Im θ args us.toList)(ps:Array TypeId):
  ∃ v w' θ' Im',(Extern.BytealgMakeNoZero.makeNoZero ps ts.toArray us).run P w= .ok v w'/\Ext (fun x=>nx<=x/\x < nx') h w Im θ (ad ups h) w' Im' θ'/\VRel P ω w' Im' θ' r v/\HRel P ω w' Im' θ' (ad ups h):=by
 unfold KQ at hm
 split at hm
 case h_2=>simp[af]at hm
 rename_i t n
 split at hm
 case h_2=>simp[af]at hm
 rename_i e hu
 have hb0:=aB hm;clear hm;obtain⟨hk,hm⟩:=hb0
 have h1c:P.cellsOf e=1:=nE hk
 have hb0:=aN hm;clear hm;obtain⟨hc,hm⟩:=hb0
 simp only[bA,decide_eq_true_eq]at hc
 obtain⟨c1,c2⟩:=hc
 obtain⟨rfl,rfl,rfl,-⟩:=ai hm
 obtain⟨k,rfl⟩:∃ k:Nat,n=k:=⟨n.toNat,by omega⟩
 have hlen:=hl.len
 match hus:us.toList,hlen with
 | [a],_=>
  rw[hus]at hl
  have eus:us= #[a]:=Array.ext' hus
  subst eus
  have ha:=hl.at_ 0 _ a rfl rfl
  cases ha
  obtain⟨cs,q1,q2,-⟩:=Lib.run_makeNoZero (P:=P) w ps t _ hu k (by omega)
  obtain⟨f1,f2⟩:=hfr nx (Nat.le_refl _) (Nat.lt_succ_self _)
  obtain⟨θ',Im',g1,g2,g3⟩:=lF hr f1 f2 (w':=w.drew.drew.alloc (.cells cs e)) (N:=cs.size) (by simp) (fun d hd=>dl w.drew.drew _ d hd) rfl rfl rfl (.seq e []) (fun θ' a=>by
   refine .inr ⟨_,_,cs,e,(0,0),fun _=>undef,a,ef w.drew.drew _,fun i _ hh=>by omega,⟨rfl,rfl⟩,by simp,(fun v hv=>by cases hv),(fun i v hv=>by simp at hv)⟩)
  refine⟨_,_,θ',Im',q1,g1,?_,g2⟩
  have:=VRel'.qs (P:=P) (ω:=ω) (w:=w.drew.drew.alloc (.cells cs e)) (Im:=Im') (θ:=θ') (x:=nx) (sz:=1) (l:=0) (n:=k) (cap:=cs.size) g3 (by simp) q2
  simpa using this
theorem Cj{fn:Func}(hn:fn.name= "internal/bytealg.MakeNoZero")(ho:fn.origin= ""):Extern.find fn=some (Extern.BytealgMakeNoZero.makeNoZero fn.params fn.resultTypes)∧Extern.findNext fn=none:=by
 have a1:Extern.allGenericRows.lookup "internal/bytealg.MakeNoZero" =none:=by kernel_rfl
 have a2:Extern.allTypedRows.lookup "internal/bytealg.MakeNoZero" =some Extern.BytealgMakeNoZero.makeNoZero:=by kernel_rfl
 have a4:Extern.allNextRows.lookup "internal/bytealg.MakeNoZero" =none:=by kernel_rfl
 have a5:Extern.allNextRows.lookup "" =none:=by kernel_rfl
 exact⟨by simp[Extern.find,hn,a1,a2],by simp[Extern.findNext,hn,ho,a4,a5]⟩
theorem uS{g:Nat}{args:List SV}{nx nx':Nat}{r:SV}{ups:List (Nat × Option Chunk)}{rs:List Nat}(hr:HRel P ω w Im θ h)(hfr:∀ x,nx<=x->x < nx'->θ x=none/\h x=none)(hm:af h (tG P g args nx)=some (r,ups,nx',rs)){us:Array Value}(hl:LRel P ω w Im θ args us.toList):
  ∃ v w' θ' Im',(callFunc g us).run P w= .ok (.value v) w'/\Ext (fun x=>nx<=x/\x < nx') h w Im θ (ad ups h) w' Im' θ'/\VRel P ω w' Im' θ' r v/\HRel P ω w' Im' θ' (ad ups h):=by
 unfold tG at hm
 split at hm
 case h_2=>simp[af]at hm
 rename_i fn hfn
 have hb0:=aB hm;clear hm;obtain⟨hk,hm⟩:=hb0
 simp only[bA]at hk
 have ho:fn.origin= "" :=by simpa using hk.2
 cases h1:fn.name== "internal/bytealg.IndexByteString" with
 | true=>
  rw[h1]at hm
  simp only[cT]at hm
  have hname:fn.name= "internal/bytealg.IndexByteString" :=by simpa using h1
  obtain⟨q1,q2⟩:=xv hname ho
  split at hm
  case h_2=>simp[af]at hm
  rename_i l c
  obtain⟨rfl,rfl,rfl,-⟩:=ai hm
  have hlen:=hl.len
  match hus:us.toList,hlen with
  | [a,b],_=>
   rw[hus]at hl
   have e:us= #[a,b]:=Array.ext' hus
   have ha:=hl.at_ 0 _ a rfl rfl
   have hb:=hl.at_ 1 _ b rfl rfl
   cases ha with
   | str hs=>
    cases hb
    subst e
    refine⟨_,w,θ,Im,?_,Ext.refl _,.int,hr⟩
    rw[<- hs]
    rw[run_callFunc_standIn hfn (by rw[hname];rfl) hk.1 q2 q1,Lib.run_indexByteString]
    rfl
 | false=>
  rw[h1]at hm
  simp only[cF]at hm
  cases h2:fn.name== "internal/abi.NoEscape" with
  | false=>
   rw[h2]at hm
   simp only[cF]at hm
   have hb0:=aB hm;clear hm;obtain⟨h3,hm⟩:=hb0
   have hname:fn.name= "internal/bytealg.MakeNoZero" :=by simpa using h3
   obtain⟨q1,q2⟩:=Cj hname ho
   obtain⟨v,w',θ',Im',g1,g2,g3,g4⟩:=Ci hr hfr hm hl fn.params
   refine⟨v,w',θ',Im',?_,g2,g3,g4⟩
   have e:fn.resultTypes.toList.toArray=fn.resultTypes:=by simp
   rw[e]at g1
   rw[run_callFunc_standIn hfn (by rw[hname];rfl) hk.1 q2 q1,g1]
   rfl
  | true=>
  rw[h2]at hm
  simp only[cT]at hm
  have hname:fn.name= "internal/abi.NoEscape" :=by simpa using h2
  obtain⟨q1,q2⟩:=rk hname ho
  split at hm
  case h_2=>simp[af]at hm
  rename_i x
  obtain⟨rfl,rfl,rfl,-⟩:=ai hm
  have hlen:=hl.len
  match hus:us.toList,hlen with
  | [a],_=>
   rw[hus]at hl
   have e:us= #[a]:=Array.ext' hus
   subst e
   exact⟨a,w,θ,Im,by rw[run_callFunc_standIn hfn (by rw[hname];rfl) hk.1 q2 q1,Lib.run_noEscape];rfl,Ext.refl _,hl.at_ 0 _ a rfl rfl,hr⟩
end
end Go.Am
namespace Go.Am
variable {P:Program} {ω:Nat->Value}
section
variable {w:World} {Im:Nat->Prop} {θ:Th} {h:HpF}
theorem Ar{e:TypeId}{es news:List SV}{dead ys:List Nat}{nx nx':Nat}{r:SV}{ups:List (Nat × Option Chunk)}{rs:List Nat}(hm:af h (qy P e es news dead ys nx)=some (r,ups,nx',rs)):
  ∃ i z,P.info? e=some i/\i.zero=some z/\z.cells.size=P.cellsOf e/\ny dead ys=true/\es.length+news.length<=9223372036854775807/\(es.length+news.length) * i.bytes<=140737488355328/\
   r= .qs nx (P.cellsOf e) 0 (es.length+news.length)/\ups=dh (dead++ys)++[(nx,some (.seq e (es++news)))]/\nx'=nx+1:=by
 unfold qy at hm
 split at hm
 case h_2=>simp[af]at hm
 rename_i i hi
 split at hm
 case h_2=>simp[af]at hm
 rename_i z hz
 have hb0:=aB hm;clear hm;obtain⟨hk,hm⟩:=hb0
 simp only[bA]at hk
 have hb0:=aN hm;clear hm;obtain⟨hc,hm⟩:=hb0
 simp only[bA,decide_eq_true_eq]at hc
 obtain⟨rfl,rfl,rfl,rfl⟩:=ai hm
 exact⟨i,z,hi,hz,nE hk.1.1,hk.2,hc.1,hc.2,rfl,rfl,rfl⟩
theorem vg         {t t':TypeId}{s x:SV}{nx nx':Nat}{r:SV}{ups:List (Nat × Option Chunk)}{rs:List Nat}(hr:HRel P ω w Im θ h)(hfr:∀ x,nx<=x->x < nx'->θ x=none/\h x=none)(hm:af   h (tC      P t t' s x nx)=some (r,ups,nx',rs))
  {tys:Array TypeId} {ty:TypeId} {args:Array Value} {us ux:Value} (h0:tys[0]? =some t) (h1:tys[1]? =some t') (a0:args[0]? =some us) (a1:args[1]? =some ux) (hs:VRel P ω w Im θ s us) (hx:VRel P ω w Im θ x ux):
  ∃ v w' θ' Im',(Builtin.append_ tys ty args).run P w= .ok v w'/\Ext (fun x=>nx<=x/\x < nx') h w Im θ (ad ups h) w' Im' θ'/\VRel P ω w' Im' θ' r v/\HRel P ω w' Im' θ' (ad ups h):=by
 unfold tC at hm
 split at hm
 case h_2=>simp[af]at hm
 rename_i e hu
 have hb0:=aB hm;clear hm;obtain⟨hk,hm⟩:=hb0
 simp only[bA]at hk
 have fin:∀ (es:List SV) (uf:Nat->Value) (dead zs:List Nat) (rs:List Nat),Elems P w (au Im θ h zs) e es uf->Dst P w θ h e dead es.length uf us->
   af h (gl P e (fun news ys=>qy P e es news dead (zs++ys) nx) x)=some (r,ups,nx',rs)->
   ∃ v w' θ' Im',(Builtin.append_ tys ty args).run P w= .ok v w'/\Ext (fun x=>nx<=x/\x < nx') h w Im θ (ad ups h) w' Im' θ'/\VRel P ω w' Im' θ' r v/\HRel P ω w' Im' θ' (ad ups h):=by
  intro es uf dead zs rs hes hd hm
  obtain⟨news,ys,rs',uf2,g1,g2,g3⟩:=iu hr hk.2 hx hm
  obtain⟨i,z,hi,hz,hzs,hap,h63,hby,rfl,rfl,rfl⟩:=Ar g1
  obtain⟨f1,f2⟩:=hfr nx (Nat.le_refl _) (Nat.lt_succ_self _)
  obtain⟨v',w',θ',q1,q2,q3,q4⟩:=Dk (ty:=ty) hr f1 f2 hap (hes.mono (eV w).1) (g2.mono (eV w).2) hk.2 h0 h1 hu hk.1 hi hz hzs a0 a1 hd g3 h63 hby
  exact⟨v',w',θ',_,q1,q2,q4,q3⟩
 split at hm
 . cases hs
   exact fin [] (fun _=>undef) [] [] rs Elems.nil (.none rfl) (by simpa using hm)
 . cases hs
   exact fin [] (fun _=>undef) [] [] rs Elems.nil (.none rfl) (by simpa using hm)
 . rename_i y sz l n
   have hb0:=cV hm;clear hm;obtain⟨c,rs',hy,hm,rfl⟩:=hb0
   cases c with
   | seq e' es=>
    have hb0:=aB hm;clear hm;obtain⟨hk2,hm⟩:=hb0
    simp only[bA]at hk2
    have:e=e':=nE hk2.1.1
    subst this
    have:sz=P.cellsOf e:=nE hk2.1.2
    subst this
    have:l=0:=nE hk2.2
    subst this
    have hb0:=aN hm;clear hm;obtain⟨hc,hm⟩:=hb0
    have hn:n=es.length:=of_decide_eq_true hc
    rcases hr.at_ y _ hy with ⟨rfl,h3⟩ | ⟨b,N,cs,T,fr,uf,h3,h4,h5,h6,h7,h8,h9⟩
    . cases hs with
      | qs hθ _ _=>rw[h3]at hθ;cases hθ
      | qsnil _=>exact fin [] (fun _=>undef) [y] [] rs' Elems.nil (.none rfl) (by simpa using hm)
    . obtain⟨h6,rfl⟩:=h6
      have hel:Elems P w (au Im θ h []) _ es uf:=⟨h8,fun i v hv=>⟨(h9 i v hv).1.mono (bC w) (fun _ _ h=>h),(h9 i v hv).2.1⟩⟩
      cases hs with
      | qsnil hn0=>exact fin es uf [y] [] rs' hel (.none (by omega)) (by simpa using hm)
      | qs hθ k1 k2=>
       rw[h3]at hθ
       simp only[sJ,pJ]at hθ
       obtain⟨rfl,rfl⟩:=hθ
       rename_i cap
       refine fin es uf [y] [] rs' hel ?_ (by simpa using hm)
       rw[Nat.zero_mul,hn]
       refine Dst.row (y:=y) (by simp) hy h3 h4 h5 (by omega) (by rw[h6];simpa using k1) (fun i hi d c hd=> ?_)
       exact(h9 i es[i] (by simp[hi])).2.2 d c hd
   | cells=>simp[af]at hm
   | loopr=>simp[af]at hm
   | mpc=>simp[af]at hm
   | mpb=>simp[af]at hm
 . rename_i y sz off n
   have hb0:=cV hm;clear hm;obtain⟨c,rs',hy,hm,rfl⟩:=hb0
   cases c with
   | cells T cs=>
    have hb0:=aB hm;clear hm;obtain⟨hk2,hm⟩:=hb0
    simp only[bA]at hk2
    have:sz=P.cellsOf e:=nE hk2.1.1.1
    subst this
    have:off=0:=nE hk2.1.2
    subst this
    have:T=e:=nE hk2.1.1.2
    subst this
    split at hm
    case h_2=>simp[af]at hm
    rename_i vs hvs
    obtain⟨b,ca,fr,g1,g2,g3,g4⟩:=hr.at_ y _ hy
    obtain⟨es,zs,rs1,uf,q1,q2,q3,q4⟩:=nQ hr hk.2 g4 hvs hm
    subst q2
    have hcal:ca.size=cs.length:=by have:=g4.len;simp at this;omega
    refine fin es uf [y] zs rs1 q3 ?_ q1
    generalize hel:es.length=n at *
    cases hs with
    | slnil=>exact .none rfl
    | sl hθ k1 k2=>
     rw[g1]at hθ
     simp only[sJ,pJ]at hθ
     obtain⟨rfl,rfl⟩:=hθ
     exact Dst.row (y:=y) (by simp) hy g1 g2 g3 k2 (by rw[hcal];simpa using k1) (fun i hi d c hd=>by
      have:=q4 i hi d c hd
      rw[Nat.zero_add]at this
      simpa using this)
   | seq=>simp[af]at hm
   | loopr=>simp[af]at hm
   | mpc=>simp[af]at hm
   | mpb=>simp[af]at hm
 . simp[af]at hm
theorem hd2{α:Type}{l:List α}{a b:α}{r:List α}(h:l=a :: b :: r):l[0]? =some a/\l[1]? =some b:=by subst h;exact⟨rfl,rfl⟩
theorem rg           {b:Builtin}{c:Call}{o:Oper}{a:Act}(ho:o.op= .call c)(hb:c.callee= .builtin b){nx nx':Nat}{r:SV}{ups:List (Nat × Option Chunk)}{rs:List Nat}{as:List SV}(hr:HRel P ω w Im θ h)(hfr:∀ x,nx<=x->x < nx'->θ x=none/\h x=none)
  (hl:LRel P ω w Im θ as (c.args.map a.eval).toList) (hm:af h (qA P b c.argTypes.toList as nx)=some (r,ups,nx',rs)):ta P ω o a w Im θ h r ups nx nx':=by
 have hexec:∀ (s:Sem Value) (v:Value) (w':World),s.run P w= .ok v w'->(∀ cs:Array Bool,builtin b c.argTypes o.type cs (c.args.map a.eval)=(do pure (.value (<- s)):Sem Next))->(execOp a.eval o).run P w= .ok (.value v) w':=by
  intro s v w' hs he
  simp[execOp,ho,resolve,hb,invoke,he,hs]
 unfold qA at hm
 split at hm
 . rename_i t t' ts s x hty
   obtain⟨e1,e2⟩:=hd2 hty
   have hlen:=hl.len
   simp only[List.length_cons,List.length_nil]at hlen
   match hus:(c.args.map a.eval).toList,hlen with
   | [us,ux],_=>
    rw[hus]at hl
    obtain⟨u1,u2⟩:=hd2 hus
    obtain⟨v,w',θ',Im',q1,q2,q3,q4⟩:=vg (ty:=o.type) hr hfr hm (tys:=c.argTypes) (args:=c.args.map a.eval) (by simpa using e1) (by simpa using e2) (by simpa using u1) (by simpa using u2) (hl.at_ 0 s us rfl rfl) (hl.at_ 1 x ux rfl rfl)
    exact cN (hexec _ _ _ q1 (fun _=>rfl)) q2 q3 q4
 . rename_i t ts x hty
   have e1:c.argTypes[0]? =some t:=by
    have:=congrArg (·[0]?) hty
    simpa using this
   have hlen:=hl.len
   simp only[List.length_cons,List.length_nil]at hlen
   match hus:(c.args.map a.eval).toList,hlen with
   | [ux],_=>
    rw[hus]at hl
    have u1:(c.args.map a.eval)[0]? =some ux:=by
     have:=congrArg (·[0]?) hus
     simpa using this
    obtain⟨v,q1,q2,rfl,rfl⟩:=BD (ty:=o.type) hr hm e1 u1 (hl.at_ 0 x ux rfl rfl)
    exact aw hr (hexec _ _ _ q1 (fun _=>rfl)) q2
 . rename_i x y
   have hlen:=hl.len
   simp only[List.length_cons,List.length_nil]at hlen
   match hus:(c.args.map a.eval).toList,hlen with
   | [ux,uy],_=>
    rw[hus]at hl
    obtain⟨v,q1,q2,rfl,rfl⟩:=nN (tys:=c.argTypes) (ty:=o.type) hm (hl.at_ 0 x ux rfl rfl) (hl.at_ 1 y uy rfl rfl) hus
    exact aw hr (hexec _ _ _ q1 (fun _=>rfl)) q2
 . rename_i x y
   have hlen:=hl.len
   simp only[List.length_cons,List.length_nil]at hlen
   match hus:(c.args.map a.eval).toList,hlen with
   | [ux,uy],_=>
    rw[hus]at hl
    obtain⟨v,q1,q2,rfl,rfl⟩:=nN (tys:=c.argTypes) (ty:=o.type) hm (hl.at_ 0 x ux rfl rfl) (hl.at_ 1 y uy rfl rfl) hus
    exact aw hr (hexec _ _ _ q1 (fun _=>rfl)) q2
 . rename_i t t' ts d s hty
   have e1:c.argTypes[0]? =some t:=by
    have:=congrArg (·[0]?) hty
    simpa using this
   have hlen:=hl.len
   simp only[List.length_cons,List.length_nil]at hlen
   match hus:(c.args.map a.eval).toList,hlen with
   | [ud,us],_=>
    rw[hus]at hl
    have e:c.args.map a.eval= #[ud,us]:=Array.ext' hus
    obtain⟨v,w',q1,q2,q3,q4,rfl⟩:=Aj (ty:=o.type) hr hm (hl.at_ 0 _ ud rfl rfl) (hl.at_ 1 _ us rfl rfl) e1 e
    exact cN (hexec _ _ _ q1 (fun _=>rfl)) (q2.mono (fun _ h=>h.elim)) q3 q4
 . rename_i x hty
   have hlen:=hl.len
   simp only[List.length_cons,List.length_nil]at hlen
   match hus:(c.args.map a.eval).toList,hlen with
   | [ux],_=>
    rw[hus]at hl
    have e:c.args.map a.eval= #[ux]:=Array.ext' hus
    obtain⟨v,q1,q2,rfl,rfl⟩:=qe hm (hl.at_ 0 _ ux rfl rfl) c.argTypes o.type
    exact aw hr (hexec _ _ _ q1 (fun _=>by rw[e];rfl)) q2
 . rename_i t ts x n hty
   have e1:c.argTypes[0]? =some t:=by
    have:=congrArg (·[0]?) hty
    simpa using this
   have hlen:=hl.len
   simp only[List.length_cons,List.length_nil]at hlen
   match hus:(c.args.map a.eval).toList,hlen with
   | [ux,un],_=>
    rw[hus]at hl
    have e:c.args.map a.eval= #[ux,un]:=Array.ext' hus
    obtain⟨v,w',q1,q2,q3,q4,rfl⟩:=qd (ty:=o.type) hr hm (hl.at_ 0 _ ux rfl rfl) (hl.at_ 1 _ un rfl rfl) e1 e
    exact cN (hexec _ _ _ q1 (fun _=>rfl)) (q2.mono (fun _ h=>h.elim)) q3 q4
 . simp[af]at hm
theorem kP{new:Nat->Prop}{h':HpF}{w':World}{Im':Nat->Prop}{θ':Th}(e:Ext (fun _=>False) h w Im θ h' w' Im' θ'):Ext new h w Im θ h' w' Im' θ':=e.mono (fun _ h=>h.elim)
theorem xj{t:TypeId}{lo hi mx:Option Operand}{x:Operand}{ev:Operand->SV}{a:Act}(hev:∀ y ∈ (Op.slice t x lo hi mx).operands,VRel P ω w Im θ (ev y) (a.eval y)){nx nx':Nat}{r:SV}{ups:List (Nat × Option Chunk)}{rs:List Nat}(hr:HRel P ω w Im θ h)
  (hm:af h (xN P t lo.isSome hi.isSome mx.isSome ((Op.slice t x lo hi mx).operands.toList.map ev) nx)=some (r,ups,nx',rs)):
  ∃ v,(Instr.sliceAt t (a.eval x) (lo.map a.eval) (hi.map a.eval) (mx.map a.eval)).run P w= .ok v w/\VRel P ω w Im θ r v/\ups=[]/\nx'=nx:=by
 have hm':af h (tD P t (ev x) (lo.map ev) (hi.map ev) (mx.map ev) nx)=some (r,ups,nx',rs):=by
  cases lo <;> cases hi <;> cases mx <;> first
   | exact hm
   | (simp[xN,Op.operands,af]at hm;done)
 simp only[Op.operands]at hev
 refine Eo hr hm' (hev x (by simp)) (fun h=> ?_) (fun v h=> ?_) (fun h=> ?_) (fun v h=> ?_) (fun h=> ?_) (fun v h=> ?_)
 . cases lo <;> simp_all
 . cases lo with
   | none=>cases h
   | some l=>cases h;exact⟨_,rfl,hev l (by simp)⟩
 . cases hi <;> simp_all
 . cases hi with
   | none=>cases h
   | some l=>cases h;exact⟨_,rfl,hev l (by simp)⟩
 . cases mx <;> simp_all
 . cases mx with
   | none=>cases h
   | some l=>cases h;exact⟨_,rfl,hev l (by simp)⟩
theorem pN            {t:TypeId}{x:SV}{f:Nat}{nx nx':Nat}{r:SV}{ups:List (Nat × Option Chunk)}{rs:List Nat}(hm:af   h (ld         P t x f nx)=some (r,ups,nx',rs)){u:Value}(hx:VRel P ω w Im θ x u):
  ∃ v,(Instr.fieldAt t u f).run P w= .ok v w/\VRel P ω w Im θ r v/\ups=[]/\nx'=nx:=by
 unfold ld at hm
 split at hm
 case h_2=>simp[af]at hm
 rename_i fs hu
 split at hm
 case h_2=>simp[af]at hm
 rename_i fd hf
 cases hz:Nat.beq (P.cellsOf fd.type) 0 with
 | true=>simp[hz,af]at hm
 | false=>
  simp only[hz,cF]at hm
  have hne:P.cellsOf fd.type≠0:=fun e=>by rw[fK e]at hz;cases hz
  obtain⟨i,hi⟩:=dM hne
  split at hm
  . obtain⟨rfl,rfl,rfl,_⟩:=ai hm
    cases hx with
    | pel h1 h2 h3=>
     refine⟨_,?_,.pel h1 h2 h3,rfl,rfl⟩
     simp[Instr.fieldAt,run_underlying hu,hf,Instr.sureAddr,fieldPlace,av hi,hne,bv,Nat.add_assoc]
  . obtain⟨rfl,rfl,rfl,_⟩:=ai hm
    cases hx with
    | qp hθ=>
     refine⟨_,?_,.qp hθ,rfl,rfl⟩
     simp[Instr.fieldAt,run_underlying hu,hf,Instr.sureAddr,fieldPlace,av hi,hne,bv,Nat.add_assoc]
  . simp[af]at hm
theorem vh         {t xt:TypeId}{ok:Bool}{x:SV}{nx nx':Nat}{r:SV}{ups:List (Nat × Option Chunk)}{rs:List Nat}(hm:af   h (tH      P t ok x nx)=some (r,ups,nx',rs)){u:Value}(hx:VRel P ω w Im θ x u):
  ∃ v,(Instr.typeAssert u xt t ok).run P w= .ok v w/\VRel P ω w Im θ r v/\ups=[]/\nx'=nx:=by
 have pair:∀ {v:SV} {u:Value} (b:Bool),VRel P ω w Im θ v u->VRel P ω w Im θ (.tup [v,.bool b]) (.tuple #[u,.bool b]):=by
  intro v u b hv
  refine .tup rfl (fun i x y hx hy=> ?_)
  match i,hx,hy with
  | 0,hx,hy=>cases hx;cases hy;exact hv
  | 1,hx,hy=>cases hx;cases hy;exact .bool
 have hno:∀ {d:TypeDesc},P.underlying t=some d->(∀ ms,d≠ .interface ms)->(u= .nilIface\/∃ t' u',u= .iface t' u'/\t'≠t)->af   h (mA       P t ok nx)=some (r,ups,nx',rs)->∃ v,(Instr.typeAssert u xt t ok).run P w= .ok v w/\VRel P ω w Im θ r v/\ups=[]/\nx'=nx:=by
  intro d hd hni hu hm2
  clear hm
  unfold mA at hm2
  have hb0:=aB hm2;clear hm2;obtain⟨hok,hm⟩:=hb0
  subst hok
  split at hm
  case h_2=>simp[af]at hm
  . rename_i z hz
    obtain⟨rfl,rfl,rfl,-⟩:=ai hm
    unfold fP at hz
    cases hi:P.info? t with
    | none=>simp[hi]at hz
    | some i=>
     simp only[hi]at hz
     cases hzz:i.zero with
     | none=>simp[hzz]at hz
     | some zv=>
      simp only[hzz,sJ]at hz
      subst hz
      have hzr:(zeroValue t).run P w= .ok zv w:=by simp[zeroValue,typeInfo,hi,hzz]
      refine⟨.tuple #[zv,.bool false],?_,pair false (db (ω:=ω) w Im θ zv),rfl,rfl⟩
      rcases hu with rfl | ⟨t',u',rfl,hne⟩
      . cases d <;> first | exact(hni _ rfl).elim | simp[Instr.typeAssert,run_underlying hd,hzr]
      . cases d <;> first | exact(hni _ rfl).elim | simp[Instr.typeAssert,run_underlying hd,hzr,hne]
 unfold tH at hm
 split at hm
 . simp[af]at hm
 . simp[af]at hm
 . rename_i d t' v hni hd
   cases hx with
   | iface hv=>
    rename_i u'
    cases hb:Nat.beq t' t with
    | false=>
     rw[hb]at hm
     exact hno hd (fun ms e=>hni ms e) (.inr ⟨t',u',rfl,by intro e;subst e;simp at hb⟩) (by simpa using hm)
    | true=>
     rw[hb]at hm
     have:t'=t:=nE hb
     subst this
     obtain⟨rfl,rfl,rfl,-⟩:=ai (by simpa using hm)
     cases ok with
     | false=>
      refine⟨u',?_,hv,rfl,rfl⟩
      cases d <;> first | exact(hni _ rfl).elim | simp[Instr.typeAssert,run_underlying hd]
     | true=>
      refine⟨.tuple #[u',.bool true],?_,pair true hv,rfl,rfl⟩
      cases d <;> first | exact(hni _ rfl).elim | simp[Instr.typeAssert,run_underlying hd]
 . rename_i d hni hd
   cases hx
   exact hno hd (fun ms e=>hni ms e) (.inl rfl) hm
 . simp[af]at hm
theorem CO      {o:Oper}{a:Act}{ev:Operand->SV}{nx nx':Nat}{r:SV}{ups:List (Nat × Option Chunk)}{rs:List Nat}(hr:HRel P ω w Im θ h)(hev:∀ x ∈ o.op.operands,VRel P ω w Im θ (ev x) (a.eval x))(hfr:∀ x,nx<=x->x < nx'->θ x=none/\h x=none)
  (hm:af h (opX P o.op (o.op.operands.toList.map ev) nx)=some (r,ups,nx',rs)):ta P ω o a w Im θ h r ups nx nx':=by
 obtain⟨dst,op,type,pos,after,guard⟩:=o
 simp only at hm hev
 cases op
 case load t x=>
  have hx:=hev x (by simp[Op.operands])
  obtain⟨v,h1,h2,rfl,rfl⟩:=A6 hr hm hx
  exact aw hr (by simp[execOp,h1]) h2
 case store t x v=>
  obtain⟨w',Im',h1,rfl,rfl,h2,h3⟩:=xG hr hm (hev x (by simp[Op.operands])) (hev v (by simp[Op.operands]))
  exact j5 (by simp[execOp,h1]) (kP h2) h3
 case makeInterface t x=>
  have hx:=hev x (by simp[Op.operands])
  simp only[opX,Op.operands,List.map_cons,List.map_nil]at hm
  split at hm
  . simp[af]at hm
  . rename_i d hni hd
    obtain⟨rfl,rfl,rfl,_⟩:=ai hm
    refine aw hr (v:=.iface t (a.eval x)) ?_ (.iface hx)
    cases d <;> first | exact(hni _ rfl).elim | simp[execOp,Instr.makeInterface,run_underlying hd]
  . simp[af]at hm
 case typeAssert x xt t ok=>
  obtain⟨v,h1,h2,rfl,rfl⟩:=vh (xt:=xt) hm (hev x (by simp[Op.operands]))
  exact aw hr (by simp[execOp,h1]) h2
 case nilCheck x=>
  have hx:=hev x (by simp[Op.operands])
  simp only[Op.operands,List.map_cons,List.map_nil]at hm
  generalize hux:a.eval x=u at hx
  generalize ev x=z at hx hm
  cases z <;> simp only[opX]at hm <;> try (simp[af]at hm;done)
  . obtain⟨rfl,rfl,rfl,_⟩:=ai hm
    refine aw hr ?_ hx
    cases hx
    simp[execOp,hux]
  . obtain⟨rfl,rfl,rfl,_⟩:=ai hm
    refine aw hr ?_ hx
    cases hx
    simp[execOp,hux]
 case fieldAddr t x f=>
  obtain⟨v,h1,h2,rfl,rfl⟩:=pN hm (hev x (by simp[Op.operands]))
  exact aw hr (by simp[execOp,h1]) h2
 case indexAddr t x ix=>
  obtain⟨v,h1,h2,rfl,rfl⟩:=qT hm (hev x (by simp[Op.operands])) (hev ix (by simp[Op.operands]))
  exact aw hr (by simp[execOp,h1]) h2
 case slice t x lo hi mx=>
  obtain⟨v,h1,h2,rfl,rfl⟩:=xj hev hr hm
  exact aw hr (by simp[execOp,h1]) h2
 case sliceToArrayPointer t x=>
  obtain⟨v,h1,h2,rfl,rfl⟩:=A5 hm (hev x (by simp[Op.operands]))
  exact aw hr (by simp[execOp,h1]) h2
 case makeMap t rv=>
  cases rv with
  | some n=>simp[opX,Op.operands,af]at hm
  | none=>
   simp only[opX,Op.operands,Option.toArray_none,List.map_nil]at hm
   split at hm
   . rename_i kt et hu
     split at hm
     . rename_i kd hk1 hk2
       obtain⟨rfl,rfl,rfl,_⟩:=ai hm
       obtain⟨f1,f2⟩:=hfr nx (Nat.le_refl _) (Nat.lt_succ_self _)
       obtain⟨v,w',θ',Im',h1,h2,h3,h4⟩:=sL (kd:=kd) hu hr f1 f2
       exact cN (by simp[execOp,h1]) h2 h3 h4
     . obtain⟨rfl,rfl,rfl,_⟩:=ai hm
       obtain⟨f1,f2⟩:=hfr nx (Nat.le_refl _) (Nat.lt_succ_self _)
       obtain⟨v,w',θ',Im',h1,h2,h3,h4⟩:=sK hu hr f1 f2
       exact cN (by simp[execOp,h1]) h2 h3 h4
   . simp[af]at hm
 case insert t m k x=>
  obtain⟨w',h1,rfl,rfl,h2,h3⟩:=nY hr hm (hev m (by simp[Op.operands])) (hev k (by simp[Op.operands])) (hev x (by simp[Op.operands]))
  exact j5 (by simp[execOp,h1]) (kP h2) h3
 case mapUpdate t m k x=>
  obtain⟨w',h1,rfl,rfl,h2,h3⟩:=nY hr hm (hev m (by simp[Op.operands])) (hev k (by simp[Op.operands])) (hev x (by simp[Op.operands]))
  exact j5 (by simp[execOp,h1]) (kP h2) h3
 case lookup t m k ok=>
  obtain⟨v,h1,h2,rfl,rfl⟩:=vZ hr hm (hev m (by simp[Op.operands])) (hev k (by simp[Op.operands]))
  exact aw hr (by simp[execOp,h1]) h2
 case convert s d x=>
  obtain⟨v,w',θ',Im',h1,h2,h3,h4⟩:=zZ hr hfr hm (hev x (by simp[Op.operands]))
  exact cN (by simp[execOp,h1]) h2 h3 h4
 case unOp op t x=>
  have hx:=hev x (by simp[Op.operands])
  simp only[Op.operands,List.map_cons,List.map_nil]at hm
  generalize hux:a.eval x=u at hx
  generalize ev x=z at hx hm
  cases op <;> (try (simp[opX,af]at hm;done))
  cases z <;> simp only[opX]at hm <;> try (simp[af]at hm;done)
  obtain⟨rfl,rfl,rfl,_⟩:=ai hm
  cases hx
  exact aw hr (by simp[execOp,hux,Op.unary,Op.intBits]) .int
 case binOp op t x y yt=>
  have hx:=hev x (by simp[Op.operands])
  have hy:=hev y (by simp[Op.operands])
  simp only[Op.operands,List.map_cons,List.map_nil]at hm
  generalize hux:a.eval x=u at hx
  generalize huy:a.eval y=v at hy
  generalize ev x=z at hx hm
  generalize ev y=z' at hy hm
  have fin:∀ (b:Bool),xL op=some b->∀ {e:TypeId},P.underlying t=some (.slice e)->((∃ q n cap,u= .slice (some q) n cap/\v= .slice none 0 0)\/(∃ q n cap,v= .slice (some q) n cap/\u= .slice none 0 0))->
    (execOp a.eval {dst:=dst,op:=.binOp op t x y yt,type:=type,pos:=pos,after:=after,guard:=guard}).run P w= .ok (.value (.bool (!b))) w:=by
   intro b hb e hu hc
   simp only[execOp,hux,huy]
   have h1:¬ (u= .nilIface/\v= .nilIface):=by
    rcases hc with ⟨q,n,cap,rfl,rfl⟩ | ⟨q,n,cap,rfl,rfl⟩ <;> (rintro⟨h,_⟩;cases h)
   have h2:∀ xs ys,¬ (u= .agg xs/\v= .agg ys):=by
    rcases hc with ⟨q,n,cap,rfl,rfl⟩ | ⟨q,n,cap,rfl,rfl⟩ <;> (rintro xs ys ⟨h,_⟩;cases h)
   have hq:(Op.equal t u v).run P w= .ok false w:=by
    rw[kT]
    generalize(9999:Nat)=D
    rcases hc with ⟨q,n,cap,rfl,rfl⟩ | ⟨q,n,cap,rfl,rfl⟩ <;> simp[Op.equalIn,run_underlying hu]
   have g:=bH (P:=P) (op:=op) (t:=t) (x:=x) (y:=y) (w:=w) h1 h2
   have hbin:(binOp op t u v).run P w= .ok (.bool (!b)) w:=by
    rcases ej hb with ⟨rfl,rfl⟩ | ⟨rfl,rfl⟩ <;> rcases hc with ⟨q,n,cap,rfl,rfl⟩ | ⟨q,n,cap,rfl,rfl⟩ <;> simp[binOp,hq]
   simp[g,hbin]
  simp only[opX]at hm
  split at hm
  . rename_i hu hb
    obtain⟨rfl,rfl,rfl,_⟩:=ai hm
    refine aw hr (fin _ hb hu ?_) .bool
    cases hx
    cases hy
    exact .inl ⟨_,_,_,rfl,rfl⟩
  . rename_i hu hb
    obtain⟨rfl,rfl,rfl,_⟩:=ai hm
    refine aw hr (fin _ hb hu ?_) .bool
    cases hx
    cases hy
    exact .inr ⟨_,_,_,rfl,rfl⟩
  . rename_i hu hb
    obtain⟨rfl,rfl,rfl,_⟩:=ai hm
    refine aw hr (fin _ hb hu ?_) .bool
    cases hx
    cases hy
    exact .inl ⟨_,_,_,rfl,rfl⟩
  . rename_i hu hb
    have hb0:=aN hm;clear hm;obtain⟨hc,hm⟩:=hb0
    obtain⟨rfl,rfl,rfl,_⟩:=ai hm
    have hc':=of_decide_eq_true hc
    refine aw hr (fin _ hb hu ?_) .bool
    cases hx with
    | qs _ _ _=>
     cases hy
     exact .inl ⟨_,_,_,rfl,rfl⟩
    | qsnil h0=>omega
  . rename_i e a1 i1 b1 j1 r1 hu hb
    have hb0:=aB hm;clear hm;obtain⟨hk,hm⟩:=hb0
    simp only[bA]at hk
    have:a1=b1:=nE hk.1.2
    subst this
    have:i1=j1:=nE hk.2
    subst this
    obtain⟨q,hq⟩:=bo hk.1.1
    obtain⟨rfl,rfl,rfl,_⟩:=ai hm
    refine aw hr ?_ .bool
    cases hx with
    | ptr g1=>
     cases hy with
     | ptr g2=>
      rw[g1]at g2
      simp only[sJ,pJ]at g2
      obtain⟨rfl,rfl⟩:=g2
      simp only[execOp,hux,huy]
      rename_i bb NN
      have heq:(Op.equal t (.pointer (some ⟨bb,i1,none⟩)) (.pointer (some ⟨bb,i1,none⟩))).run P w= .ok true w:=by
       rw[kT]
       generalize(9999:Nat)=D
       simp[Op.equalIn,run_underlying hu,sizeOf,typeInfo,hq,run_sameAddr_same]
      have g:=bH (P:=P) (op:=op) (t:=t) (x:=x) (y:=y) (w:=w) (a:=.pointer (some ⟨bb,i1,none⟩)) (b:=.pointer (some ⟨bb,i1,none⟩)) (by rintro⟨h,_⟩;cases h) (by rintro xs ys ⟨h,_⟩;cases h)
      have hbin:(binOp op t (.pointer (some ⟨bb,i1,none⟩)) (.pointer (some ⟨bb,i1,none⟩))).run P w= .ok (.bool r1) w:=by
       rcases ej hb with ⟨rfl,rfl⟩ | ⟨rfl,rfl⟩ <;> simp[binOp,heq]
      simp[g,hbin]
  . simp[af]at hm
 case call c=>
  simp only[opX]at hm
  split at hm
  . rename_i b hb
    refine rg (c:=c) (b:=b) rfl hb hr hfr ?_ hm
    simp only[Op.operands,Call.operands,hb]at hev ⊢
    refine⟨by simp,fun i v u hv hu=> ?_⟩
    simp only[List.getElem?_map,Array.getElem?_toList,Option.map_eq_some_iff]at hv
    obtain⟨q,hq,rfl⟩:=hv
    simp only[Array.toList_map,List.getElem?_map,Array.getElem?_toList,Option.map_eq_some_iff]at hu
    obtain⟨q',hq',rfl⟩:=hu
    simp only[Array.empty_append]at hq
    rw[hq']at hq
    cases hq
    exact hev _ (by simp;exact Array.mem_of_getElem? hq')
  . rename_i f hcal
    split at hm
    case h_2=>simp[af]at hm
    rename_i g args has
    obtain⟨callee,cargs,argTypes⟩:=c
    simp only at hcal
    subst hcal
    simp only[Op.operands,Call.operands]at has hev
    have has':ev f :: cargs.toList.map ev= .fn (.func g) [] [] :: args:=by simpa using has
    simp only[List.cons.injEq]at has'
    obtain⟨he,rfl⟩:=has'
    have hf:=hev f (by simp)
    rw[he]at hf
    generalize hu:a.eval f=u at hf
    cases hf with
    | fn h1 h2 h3 h4=>
     rename_i us vs
     have e1:us= #[]:=by apply Array.ext';exact List.eq_nil_of_length_eq_zero (by simpa using h1.symm)
     have e2:vs= #[]:=by apply Array.ext';exact List.eq_nil_of_length_eq_zero (by simpa using h2.symm)
     subst e1
     subst e2
     have hl:LRel P ω w Im θ (cargs.toList.map ev) (cargs.map a.eval).toList:=by
      refine⟨by simp,fun i v u hv hu=> ?_⟩
      simp only[List.getElem?_map,Array.getElem?_toList,Option.map_eq_some_iff]at hv
      obtain⟨q,hq,rfl⟩:=hv
      simp only[Array.toList_map,List.getElem?_map,Array.getElem?_toList,Option.map_eq_some_iff]at hu
      obtain⟨q',hq',rfl⟩:=hu
      rw[hq']at hq
      cases hq
      exact hev _ (by simp;exact .inr (Array.mem_of_getElem? hq'))
     obtain⟨v,w',θ',Im',q1,q2,q3,q4⟩:=uS hr hfr hm hl
     refine cN ?_ q2 q3 q4
     have:(execOp a.eval {dst:=dst,op:=.call {callee:=.value f,args:=cargs,argTypes:=argTypes},type:=type,pos:=pos,after:=after,guard:=guard}).run P w=(callFunc g (cargs.map a.eval)).run P w:=by
      simp[execOp,resolve,hu,Deferred.ofValue,invoke]
     rw[this]
     exact q1
  . simp[af]at hm
 all_goals (simp[opX,af]at hm)
end
end Go.Am
