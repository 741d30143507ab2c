/- The abstract machine: one operation, whichever. -/
import Derived.Test.YtnlmhpancboddaaGreatMachine1
import Derived.Laws.MakeOwn
import Derived.RangeFuncRecord
import Derived.Laws.AppendOwn
import Derived.Laws.IdiomStrings
import Derived.MapKept
set_option linter.unusedVariables false
set_option linter.unusedSimpArgs false
namespace Go.Am
variable {P:Program} {ω:Nat->Value}
theorem bH              {op:BinOp}{t:TypeId}{x y:Operand}{a b:Value}{w:World}(h1:¬ (a= .nilIface/\b= .nilIface))(h2:∀ xs ys,¬ (a= .agg xs/\b= .agg ys)):
  (eqGuard op t x y a b).run P w= .ok () w:=by
 cases op <;> first
  | rfl
  | (simp only[eqGuard,Bool.not_true,Bool.false_eq_true,if_false]
     split
     . exact absurd ⟨rfl,rfl⟩ h1
     . exact absurd ⟨rfl,rfl⟩ (h2 _ _)
     . rfl)
theorem ej{op:BinOp}{b:Bool}(h:xL op=some b):(b=true/\op= .eql)\/(b=false/\op= .neq):=by
 cases op <;> simp[xL]at h <;> simp[h]
theorem ai{h:HpF}{r r':SV}{ups ups':List (Nat × Option Chunk)}{nx nx':Nat}{rs:List Nat}(hm:af h (.done r' ups' nx')=some (r,ups,nx,rs)):r'=r/\ups'=ups/\nx'=nx/\rs=[]:=by
 simpa [af,eq_comm]using hm
theorem xw        {op:BinOp}{k:IntKind}{a b:Int}{h:HpF}{nx nx':Nat}{r:SV}{ups:List (Nat × Option Chunk)}{rs:List Nat}{t:TypeId}{w:World}{Im:Nat->Prop}{θ:Th}(hop:op≠ .shl/\op≠ .shr)
  (hm:af h (nr op k a b .fail nx)=some (r,ups,nx',rs)):∃ v,(binOp op t (.int k a) (.int k b)).run P w= .ok v w/\VRel P ω w Im θ r v/\ups=[]/\nx'=nx:=by
 cases op <;> simp only[nr    ]at hm <;> first
  | (obtain⟨rfl,rfl,rfl,_⟩:=ai (h:=h) hm;refine⟨_,?_,.int,rfl,rfl⟩;simp[binOp,Op.intArith,Op.intBits];done)
  | (obtain⟨rfl,rfl,rfl,_⟩:=ai (h:=h) hm;refine⟨_,?_,.bool,rfl,rfl⟩;simp[binOp,Op.intCmp];done)
  | (simp only[af  ]at hm
     split at hm
     . simp at hm
     . rename_i hb
       obtain⟨rfl,rfl,rfl,_⟩:=ai (h:=h) hm
       have hb':¬ b=0:=by simpa using hb
       refine⟨_,?_,.int,rfl,rfl⟩
       simp[binOp,Op.intDiv,hb'])
  | (simp[af]at hm;done)
  | (exact absurd rfl hop.1)
  | (exact absurd rfl hop.2)
theorem AL       {op:BinOp}{k k':IntKind}{a b:Int}{h:HpF}{nx nx':Nat}{r:SV}{ups:List (Nat × Option Chunk)}{rs:List Nat}{t:TypeId}{w:World}{Im:Nat->Prop}{θ:Th}
  (hm:af h (nt op k a b nx)=some (r,ups,nx',rs)):∃ v,(binOp op t (.int k a) (.int k' b)).run P w= .ok v w/\VRel P ω w Im θ r v/\ups=[]/\nx'=nx:=by
 unfold nt at hm
 cases op <;> simp only[]at hm <;> first
  | (simp[af]at hm;done)
  | (simp only[af  ]at hm
     split at hm
     . simp at hm
     . rename_i hb
       obtain⟨rfl,rfl,rfl,_⟩:=ai (h:=h) hm
       have hb':¬ b < 0:=by simpa using hb
       refine⟨_,?_,.int,rfl,rfl⟩
       simp[binOp,Op.shift,hb'])
theorem AM(s t:ByteArray):(s++t).data.toList=s.data.toList++t.data.toList:=by simp[ByteArray.data_append]
theorem Gs     {op:BinOp}{a b:List UInt8}{s s':ByteArray}(hs:s.data.toList=a)(hs':s'.data.toList=b){h:HpF}{nx nx':Nat}{r:SV}{ups:List (Nat × Option Chunk)}{rs:List Nat}{t:TypeId}{w:World}{Im:Nat->Prop}{θ:Th}
  (hm:af h (qu op a b nx)=some (r,ups,nx',rs)):∃ v,(binOp op t (.string s) (.string s')).run P w= .ok v w/\VRel P ω w Im θ r v/\ups=[]/\nx'=nx:=by
 have e1:s.toList=a:=by rw[ByteArray.toList_eq,hs]
 have e2:s'.toList=b:=by rw[ByteArray.toList_eq,hs']
 unfold qu at hm
 cases op <;> simp only[]at hm <;> first
  | (simp[af]at hm;done)
  | (obtain⟨rfl,rfl,rfl,_⟩:=ai (h:=h) hm
     refine⟨_,?_,.bool,rfl,rfl⟩
     simp[binOp,Op.stringOp,e1,e2])
  | (simp only[af  ]at hm
     split at hm
     . rename_i hb
       obtain⟨rfl,rfl,rfl,_⟩:=ai (h:=h) hm
       have hl:s.size=a.length:=by rw[<- hs];simp
       have hl':s'.size=b.length:=by rw[<- hs'];simp
       have hb':¬ (((s.size+s'.size:Nat):Int) > IntKind.i64.max):=by
        have:IntKind.i64.max=9223372036854775807:=by decide
        rw[this,hl,hl']
        have:=of_decide_eq_true hb
        omega
       refine⟨.string (s++s'),?_,.str (by rw[AM,hs,hs']),rfl,rfl⟩
       simp only[binOp,Op.stringOp]
       rw[if_neg hb']
       rfl
     . simp at hm)
theorem good_of{o:Oper}{a:Act}{w:World}{Im:Nat->Prop}{θ:Th}{h:HpF}{r:SV}{ups:List (Nat × Option Chunk)}{nx nx':Nat}(hr:HRel P ω w Im θ h)(s:Sem Value)(hs:(execOp a.eval o).run P w=((do pure (Next.value (<- s)):Sem Next)).run P w)
  (hx:∃ v,s.run P w= .ok v w/\VRel P ω w Im θ r v/\ups=[]/\nx'=nx):ta P ω o a w Im θ h r ups nx nx':=by
 obtain⟨v,h1,h2,rfl,rfl⟩:=hx
 refine aw hr ?_ h2
 rw[hs]
 simp[h1]
theorem kT(t:TypeId)(x y:Value):Op.equal t x y=Op.equalIn (9999+1) t x y:=rfl
theorem vJ{w:World}{Im:Nat->Prop}{θ:Th}{e:TypeId}{v:SV}{es:List SV}{u:Value}(h:VRel P ω w Im θ (.psl e (v :: es)) u):∃ a n cap,u= .slice (some a) n cap:=by
 cases h with
 | psl us h1 h0 h2 h3 h4=>
  obtain⟨a,off,rfl,_⟩:=h4 (by rw[<- h1];simp)
  exact⟨_,_,_,rfl⟩
theorem r9{w:World}{Im:Nat->Prop}{θ:Th}{t:TypeId}{x y:SV}{u v:Value}{b:Bool}(h:D2 P t x y=some b)(hx:VRel P ω w Im θ x u)(hy:VRel P ω w Im θ y v):
  (Op.equal t u v).run P w= .ok b w/\¬ (u= .nilIface/\v= .nilIface)/\(∀ xs ys,¬ (u= .agg xs/\v= .agg ys))/\
   (binOp .eql t u v=(do pure (.bool (<- Op.equal t u v))))/\(binOp .neq t u v=(do pure (.bool (!(<- Op.equal t u v))))):=by
 unfold D2 at h
 split at h <;> first | (cases h;done) | skip
 all_goals
  (rename_i hu)
  (simp only[sJ]at h)
  (subst h)
  (try (obtain⟨_,_,_,rfl⟩:=vJ hx;clear hx))
  (try (obtain⟨_,_,_,rfl⟩:=vJ hy;clear hy))
  (try cases hx)
  (try cases hy)
  (refine⟨?_,by simp,by simp,rfl,rfl⟩)
  (rw[kT];generalize(9999:Nat)=d;simp only[Op.equalIn,Sem.run_bind,run_underlying hu,Result.andThen_ok,Sem.run_pure,Option.isNone])
theorem nX:∀ (vs:List Value) (off i:Nat) (cur:Array Value),off+i+vs.length<=cur.size->
  ((vs.zipIdx i).foldl (fun cs (c,j)=>cs.setIfInBounds (off+j) c) cur).toList=cur.toList.take (off+i)++vs++cur.toList.drop (off+i+vs.length)
 | [],off,i,cur,_=>by simp
 | v :: vs,off,i,cur,h=>by
  simp only[List.zipIdx_cons,List.foldl_cons]
  rw[nX vs off (i+1) (cur.setIfInBounds (off+i) v) (by simp at h ⊢;omega)]
  have e:=list_seg_step cur.toList (off+i) v vs (by simp at h ⊢;omega)
  simpa [Array.toList_setIfInBounds,Nat.add_assoc]using e
theorem qh      {w:World}{Im:Nat->Prop}{θ:Th}{place:Nat->Option (Nat × Nat)}:∀ (ps:List (Nat × SV)) (qs:List (Nat × Value)) (cs cs':List SV) (us:Array Value),
  ps.length=qs.length->(∀ (i:Nat) p q,ps[i]? =some p->qs[i]? =some q->p.1=q.1/\VRel P ω w Im θ p.2 q.2)->LRel P ω w Im θ cs us.toList->mr place cs ps=some cs'->
  ∃ us',Instr.fill place us qs=some us'/\LRel P ω w Im θ cs' us'.toList
 | [],[],cs,cs',us,_,_,hl,h=>by
  simp[mr]at h;subst h
  exact⟨us,rfl,hl⟩
 | [],_ :: _,_,_,_,h,_,_,_=>by simp at h
 | _ :: _,[],_,_,_,h,_,_,_=>by simp at h
 | (i,v) :: ps,(j,u) :: qs,cs,cs',us,hlen,hat,hl,h=>by
  have h0:=hat 0 (i,v) (j,u) rfl rfl
  obtain⟨rfl,hv⟩:=h0
  simp only[mr]at h
  cases hp:place i with
  | none=>simp[hp]at h
  | some pr=>
   obtain⟨off,size⟩:=pr
   cases hc:bP v with
   | none=>simp[hp,hc]at h
   | some vs=>
    simp only[hp,hc]at h
    cases hb:Nat.beq vs.length size with
    | false=>simp[hb]at h
    | true=>
     simp only[hb,cT]at h
     cases hs:cS cs off vs with
     | none=>simp[hs]at h
     | some cs1=>
      simp only[hs]at h
      obtain⟨hle,rfl⟩:=dc _ _ _ _ hs
      have hvr:=bW hv hc
      have hsz:vs.length=size:=nE hb
      have hul:u.cells.size=vs.length:=by have:=hvr.len;simp at this;omega
      have hll:=hl.len
      simp at hll
      have hfill:=nX u.cells.toList off 0 us (by simp;omega)
      obtain⟨us',h1,h2⟩:=qh ps qs _ cs' (u.cells.zipIdx.foldl (fun cs (c,j)=>cs.setIfInBounds (off+j) c) us) (by simpa using hlen)
       (fun k p q hp hq=>hat (k+1) p q (by simpa using hp) (by simpa using hq)) (by
        have e:(u.cells.zipIdx.foldl (fun cs (c,j)=>cs.setIfInBounds (off+j) c) us).toList=us.toList.take off++u.cells.toList++us.toList.drop (off+vs.length):=by
         rw[<- Array.foldl_toList,Array.toList_zipIdx]
         rw[hfill];simp[hul]
        rw[e]
        exact((hl.takeL off).append hvr).append (hl.dropL _)) h
      refine⟨us',?_,h2⟩
      simp only[Instr.fill,hp]
      rw[if_neg (by simp;omega)]
      exact h1
theorem xx{fs:List Field}(h:∀ f ∈ fs,bi P f.type=true)(w:World):(fs.mapM (fun f=>Prod.mk f.offset <$> sizeOf f.type:Field->Sem (Nat × Nat))).run P w= .ok (fs.map fun f=>(f.offset,P.cellsOf f.type)) w:=by
 induction fs with
 | nil=>rfl
 | cons f fs ih=>
  have hf:=h f (by simp)
  unfold bi at hf
  cases hi:P.info? f.type with
  | none=>simp[hi]at hf
  | some i=>simp[av hi,ih (fun g hg=>h g (by simp[hg]))]
theorem AN       {w:World}{Im:Nat->Prop}{θ:Th}{h:HpF}{t:TypeId}{ps:List (Nat × SV)}{qs:Array (Nat × Value)}{nx nx':Nat}{r:SV}{ups:List (Nat × Option Chunk)}{rs:List Nat}
  (hlen:ps.length=qs.size) (hat:∀ (i:Nat) p q,ps[i]? =some p->qs[i]? =some q->p.1=q.1/\VRel P ω w Im θ p.2 q.2) (hm:af h (qv P t ps nx)=some (r,ups,nx',rs)):
  ∃ v,(Instr.build t qs).run P w= .ok v w/\VRel P ω w Im θ r v/\ups=[]/\nx'=nx:=by
 unfold qv at hm
 cases hbo:oT P t with
 | false=>simp[hbo,af]at hm
 | true=>
  simp only[hbo,cT]at hm
  split at hm
  . rename_i zs hz
    split at hm
    . rename_i cs hcs
      obtain⟨rfl,rfl,rfl,_⟩:=ai hm
      unfold fP at hz
      cases hi:P.info? t with
      | none=>simp[hi]at hz
      | some i=>
       cases hzi:i.zero with
       | none=>simp[hi,hzi]at hz
       | some zv=>
        simp only[hi,hzi,sJ]at hz
        have hzr:=db (P:=P) (ω:=ω) w Im θ zv
        rw[hz]at hzr
        generalize hzv:zv=zv' at hzr
        cases hzr with
        | agg h1 h2=>
         rename_i zus
         have hl:LRel P ω w Im θ zs zus.toList:=⟨by simpa using h1,fun i v u hv hu=>h2 i v u hv (by simpa using hu)⟩
         have hat':∀ (i:Nat) p q,ps[i]? =some p->qs.toList[i]? =some q->p.1=q.1/\VRel P ω w Im θ p.2 q.2:=fun i p q hp hq=>hat i p q hp (by simpa using hq)
         obtain⟨us',hf,hl'⟩:=qh ps qs.toList zs cs zus (by simpa using hlen) hat' hl hcs
         refine⟨.agg us',?_,.agg (by simpa using hl'.len) (fun i v u hv hu=>hl'.at_ i v u hv (by simpa using hu)),rfl,rfl⟩
         unfold oT at hbo
         unfold Instr.build
         cases hu:P.underlying t with
         | none=>simp[hu]at hbo
         | some d=>
          simp only[hu]at hbo
          cases d <;> simp only[]at hbo <;> try (cases hbo;done)
          . rename_i n e
            have hpl:(mt P t)=fun i=>some (i * P.cellsOf e,P.cellsOf e):=by funext i;simp[mt,hu]
            rw[hpl]at hf
            unfold bi at hbo
            cases hie:P.info? e with
            | none=>simp[hie]at hbo
            | some ie=>simp[zeroValue,typeInfo,hi,hzi,hzv,run_underlying hu,av hie,Value.cells,hf]
          . rename_i fs
            have hpl:(mt P t)=fun i=>(fs.map fun f=>(f.offset,P.cellsOf f.type))[i]? :=by
             funext i;simp only[mt,hu,Array.getElem?_map];cases fs[i]? <;> rfl
            rw[hpl]at hf
            simp only[Array.getElem?_map]at hf
            have hp:=xx (P:=P) (fs:=fs.toList) (fun f hf=>List.all_eq_true.1 hbo f hf) w
            simp[zeroValue,typeInfo,hi,hzi,hzv,run_underlying hu,Value.cells,Array.mapM_eq_mapM_toList,hp,hf]
    . simp[af]at hm
  . simp[af]at hm
theorem sa       {place:Nat->Option (Nat × Nat)}:∀ (ps:List (Nat × SV)) (cs cs':List SV),mr    place cs ps=some cs'->cs'.length=cs.length
 | [],cs,cs',h=>by simp[mr]at h;rw[h]
 | (i,v) :: ps,cs,cs',h=>by
  simp only[mr]at h
  cases hp:place i with
  | none=>simp[hp]at h
  | some pr=>
   obtain⟨off,size⟩:=pr
   cases hc:bP v with
   | none=>simp[hp,hc]at h
   | some vs=>
    simp only[hp,hc]at h
    cases hb:Nat.beq vs.length size with
    | false=>simp[hb]at h
    | true=>
     simp only[hb,cT]at h
     cases hs:cS cs off vs with
     | none=>simp[hs]at h
     | some cs1=>
      simp only[hs]at h
      obtain⟨hle,rfl⟩:=dc _ _ _ _ hs
      rw[sa ps _ _ h]
      simp
      omega
theorem vL{α:Type}(zs:List α):∀ (n i:Nat),i < n * zs.length->(iB n zs)[i]? =zs[i % zs.length]?
 | 0,i,h=>by simp at h
 | n+1,i,h=>by
  simp only[iB]
  rcases Nat.lt_or_ge i zs.length with h1 | h1
  . rw[List.getElem?_append_left h1,Nat.mod_eq_of_lt h1]
  . rw[List.getElem?_append_right h1,vL zs n (i - zs.length) (by rw[Nat.succ_mul]at h;omega)]
    rw[<- Nat.mod_eq_sub_mod h1]
theorem zi{w:World}{Im:Nat->Prop}{θ:Th}{zs:List SV}{zc:Array Value}(hl:LRel P ω w Im θ zs zc.toList)(h0:zs.length≠0)(n:Nat):LRel P ω w Im θ (iB n zs) ((Array.range (n * zs.length)).map (zc[· % zc.size]!)).toList:=by
 have hsz:zc.size=zs.length:=by have:=hl.len;simp at this;omega
 refine⟨by simp[jd],fun i v u hv hu=> ?_⟩
 have hi:i < n * zs.length:=by
  have:=(List.getElem?_eq_some_iff.1 hv).1
  rwa [jd]at this
 rw[vL zs n i hi]at hv
 refine hl.at_ _ v u hv ?_
 simp only[Array.getElem?_toList,Array.getElem?_map]at hu
 have hm:i % zs.length < zs.length:=Nat.mod_lt _ (by omega)
 have e:(Array.range (n * zs.length))[i]? =some i:=by simp[hi]
 rw[e,hsz]at hu
 simp only[Option.map_some,sJ]at hu
 have hm':i % zs.length < zc.size:=by omega
 rw[getElem!_pos zc _ hm']at hu
 simp[hm',hu]
theorem ov             {w:World}{Im:Nat->Prop}{θ:Th}{h:HpF}{t:TypeId}{n:Nat}{ps:List (Nat × SV)}{qs:Array (Nat × Value)}{nx nx':Nat}{r:SV}{ups:List (Nat × Option Chunk)}{rs:List Nat}
  (hlen:ps.length=qs.size) (hat:∀ (i:Nat) p q,ps[i]? =some p->qs[i]? =some q->p.1=q.1/\VRel P ω w Im θ p.2 q.2) (hm:af h (gJ P t n ps nx)=some (r,ups,nx',rs)):
  ∃ (us:Array Value) (cs:List SV) (e:TypeId),(Instr.buildSlice t n qs).run P w= .ok (.slice (some ⟨w.heap.size,0,none⟩) n n) (w.alloc (.cells us e))/\LRel P ω w Im θ cs us.toList/\cs.length=n * P.cellsOf e/\r= .sl nx (P.cellsOf e) 0 n/\ups=[(nx,some (.cells e cs))]/\nx'=nx+1:=by
 unfold gJ at hm
 split at hm
 . rename_i e hu
   cases hk:bi P e&&Nat.ble (n * P.cellsOf e) 16777216&& !(Nat.beq (P.cellsOf e) 0)with
   | false=>rw[hk]at hm;simp[af]at hm
   | true=>
    rw[hk]at hm
    simp only[cT]at hm
    simp only[bA,Bool.not_eq_true']at hk
    obtain⟨⟨k1,k2⟩,k3⟩:=hk
    have hle:n * P.cellsOf e<=16777216:=by rwa [Nat.ble_eq]at k2
    have hne:P.cellsOf e≠0:=fun hh=>by rw[fK hh]at k3;cases k3
    split at hm
    . rename_i z hz
      split at hm
      . rename_i zs hzs
        cases hb:Nat.beq zs.length (P.cellsOf e)with
        | false=>rw[hb]at hm;simp[af]at hm
        | true=>
         rw[hb]at hm
         simp only[cT]at hm
         have hzl:zs.length=P.cellsOf e:=nE hb
         split at hm
         . rename_i cs hcs
           obtain⟨rfl,rfl,rfl,_⟩:=ai hm
           unfold fP at hz
           cases hi:P.info? e with
           | none=>simp[hi]at hz
           | some i=>
            cases hzi:i.zero with
            | none=>simp[hi,hzi]at hz
            | some zv=>
             simp only[hi,hzi,sJ]at hz
             subst hz
             have hl:=bW (db (P:=P) (ω:=ω) w Im θ zv) hzs
             have hrep:=zi hl (by omega) n
             obtain⟨us',hf,hl'⟩:=qh ps qs.toList _ cs _ (by simpa using hlen) (fun i p q hp hq=>hat i p q hp (by simpa using hq)) hrep hcs
             refine⟨us',cs,e,?_,hl',?_,rfl,rfl,rfl⟩
             . rw[hzl]at hf
               unfold Instr.buildSlice
               have hn:¬ (n * P.cellsOf e > 2 ^ 24):=by omega
               by_cases h0:n * P.cellsOf e=0
               . have:n=0:=by
                   rcases Nat.mul_eq_zero.1 h0 with h | h
                   . exact h
                   . exact absurd h hne
                 subst this
                 simp only[Nat.zero_mul]at hf
                 have e0:∀ f:Nat->Value,(Array.range 0).map f= #[]:=fun f=>by simp
                 rw[e0]at hf
                 simp only[Sem.run_bind,run_underlying hu,Result.andThen_ok,av hi,Nat.zero_mul,newRow]
                 simp[e0,hf]
               . simp[run_underlying hu,av hi,hn,h0,zeroValue,typeInfo,hi,hzi,newRow,hf]
             . rw[sa _ _ _ hcs,jd,hzl]
         . simp[af]at hm
      . simp[af]at hm
    . simp[af]at hm
 . simp[af]at hm
theorem qi            {w:World}{Im:Nat->Prop}{θ:Th}{h:HpF}{t:TypeId}{l c:SV}{ul uc:Value}{nx nx':Nat}{r:SV}{ups:List (Nat × Option Chunk)}{rs:List Nat}
  (hm:af h (iF P t l c nx)=some (r,ups,nx',rs)) (hl:VRel P ω w Im θ l ul) (hc:VRel P ω w Im θ c uc):
  ∃ (us:Array Value) (cs:List SV) (e:TypeId) (n k:Nat),(Instr.makeSlice t ul uc).run P w= .ok (.slice (some ⟨w.heap.size,0,none⟩) n k) (w.alloc (.cells us e))/\LRel P ω w Im θ cs us.toList/\cs.length=k * P.cellsOf e/\n<=k/\r= .sl nx (P.cellsOf e) 0 n/\ups=[(nx,some (.cells e cs))]/\nx'=nx+1:=by
 unfold iF at hm
 split at hm
 . rename_i e kl a kc b hu
   cases hl
   cases hc
   split at hm
   . rename_i i hi
     split at hm
     . rename_i z hz
       split at hm
       . rename_i zs hzs
         cases hb:Nat.beq zs.length (P.cellsOf e)&& !(Nat.beq (P.cellsOf e) 0)with
         | false=>rw[hb]at hm;simp[af]at hm
         | true=>
          rw[hb]at hm
          simp only[cT]at hm
          simp only[bA,Bool.not_eq_true']at hb
          have hzl:zs.length=P.cellsOf e:=nE hb.1
          have hne:P.cellsOf e≠0:=fun hh=>by rw[fK hh]at hb;cases hb.2
          cases hd:decide (0<=a)&&decide (a<=b)&&decide (b<=16777216)&&decide (b * (P.cellsOf e:Int)<=16777216)&&decide ((i.bytes:Int) * b<=281474976710656)with
          | false=>rw[hd]at hm;simp[af]at hm
          | true=>
           rw[hd]at hm
           simp only[af,if_true,sJ,pJ]at hm
           obtain⟨rfl,rfl,rfl,_⟩:=hm
           simp only[bA,decide_eq_true_eq]at hd
           obtain⟨⟨⟨⟨d1,d2⟩,d3⟩,d4⟩,d5⟩:=hd
           unfold fP at hz
           simp only[hi]at hz
           cases hzi:i.zero with
           | none=>simp[hzi]at hz
           | some zv=>
            simp only[hzi,sJ]at hz
            subst hz
            have hlz:=bW (db (P:=P) (ω:=ω) w Im θ zv) hzs
            have hrep:=zi hlz (by omega) b.toNat
            have hsize:i.size=P.cellsOf e:=by unfold Program.cellsOf;rw[hi];rfl
            have hcells:b.toNat * i.size<=16777216:=by
             rw[hsize]
             have:((b.toNat * P.cellsOf e:Nat):Int)<=16777216:=by
              push_cast
              rw[Int.toNat_of_nonneg (by omega)]
              exact d4
             omega
            have hrun:=run_makeSlice (w:=w) t e i zv hu hi hzi kl kc a b d1 d2 hcells d5 (by omega)
            refine⟨_,_,e,a.toNat,b.toNat,hrun,?_,?_,by omega,rfl,rfl,rfl⟩
            . rw[hsize,<- hzl];exact hrep
            . rw[jd,hzl]
       . simp[af]at hm
     . simp[af]at hm
   . simp[af]at hm
 . simp[af]at hm
theorem Dw      {op:BinOp}{t:TypeId}{x y:SV}{u v:Value}{h:HpF}{nx nx':Nat}{r:SV}{ups:List (Nat × Option Chunk)}{rs:List Nat}{w:World}{Im:Nat->Prop}{θ:Th}{ox oy:Operand}
  (hx:VRel P ω w Im θ x u) (hy:VRel P ω w Im θ y v) (hm:af h (D3 P op t x y nx)=some (r,ups,nx',rs)):
  ∃ z,((do pure (Next.value (<- (do eqGuard op t ox oy u v;binOp op t u v)))):Sem Next).run P w= .ok (.value z) w/\VRel P ω w Im θ r z/\ups=[]/\nx'=nx:=by
 have lift:∀ (hg:(eqGuard op t ox oy u v).run P w= .ok () w) (hb:∃ z,(binOp op t u v).run P w= .ok z w/\VRel P ω w Im θ r z/\ups=[]/\nx'=nx),
   ∃ z,((do pure (Next.value (<- (do eqGuard op t ox oy u v;binOp op t u v)))):Sem Next).run P w= .ok (.value z) w/\VRel P ω w Im θ r z/\ups=[]/\nx'=nx:=by
  rintro hg ⟨z,h1,h2⟩
  exact⟨z,by simp[hg,h1],h2⟩
 unfold D3 at hm
 split at hm
 . rename_i k a k' b
   cases hx;cases hy
   refine lift (bH (by simp) (by simp)) ?_
   by_cases hs:op= .shl\/op= .shr
   . have hm':af h (nt op k a b nx)=some (r,ups,nx',rs):=by
       rcases hs with rfl | rfl <;> exact hm
     exact AL hm'
   . have hm':af h (bif fV k k' then nr op k a b .fail nx else .fail)=some (r,ups,nx',rs):=by
       cases op <;> first | exact hm | exact absurd (.inl rfl) hs | exact absurd (.inr rfl) hs
     cases hk:fV k k' with
     | false=>simp[hk,af]at hm'
     | true=>
      have:=ly hk
      subst this
      simp only[hk,cT]at hm'
      exact xw ⟨fun e=>hs (.inl e),fun e=>hs (.inr e)⟩ hm'
 . cases hx with
   | str h1=>cases hy with
    | str h2=>exact lift (bH (by simp) (by simp)) (Gs h1 h2 hm)
 . rename_i a b
   cases hx;cases hy
   refine lift (bH (by simp) (by simp)) ?_
   split at hm
   . rename_i hu hop
     rcases ej hop with ⟨_,rfl⟩ | ⟨hh,_⟩
     . obtain⟨rfl,rfl,rfl,_⟩:=ai hm
       exact⟨_,run_eql_bool w t a b hu,.bool,rfl,rfl⟩
     . cases hh
   . rename_i hu hop
     rcases ej hop with ⟨hh,_⟩ | ⟨_,rfl⟩
     . cases hh
     . obtain⟨rfl,rfl,rfl,_⟩:=ai hm
       exact⟨_,run_neq_bool w t a b hu,.bool,rfl,rfl⟩
   . simp[af]at hm
 . rename_i as bs
   cases hc:aq P t&&bK P 40 t&& !P.eqGuardType P.depth t&&aQ P (aK P 40 t) as&&aQ P (aK P 40 t) bs with
   | false=>simp[hc,af]at hm
   | true=>
    simp only[hc,cT]at hm
    simp only[bA]at hc
    obtain⟨⟨⟨⟨c1,c2⟩,c3⟩,c4⟩,c5⟩:=hc
    have hx0:=hx
    have hy0:=hy
    cases hx with
    | agg h1 h2=>
     cases hy with
     | agg h3 h4=>
      rename_i xs ys
      have hA:sE P ω w Im θ t as (.agg xs):=.inl ⟨c1,xs,rfl,by simpa using h1,fun i v u hv hu=>h2 i v u hv (by simpa using hu)⟩
      have hB:sE P ω w Im θ t bs (.agg ys):=.inl ⟨c1,ys,rfl,by simpa using h3,fun i v u hv hu=>h4 i v u hv (by simpa using hu)⟩
      refine lift (run_eqGuard_agg w op t ox oy xs ys (by simpa using c3)) ?_
      split at hm
      . rename_i rr hrr hop
        rcases ej hop with ⟨_,rfl⟩ | ⟨hh,_⟩
        . obtain⟨rfl,rfl,rfl,_⟩:=ai hm
          refine⟨.bool rr,?_,.bool,rfl,rfl⟩
          rw[run_eql_struct,cU 40 10000 t (by omega) c2 as bs _ _ rr c4 c5 hA hB hrr]
          rfl
        . cases hh
      . rename_i rr hrr hop
        rcases ej hop with ⟨hh,_⟩ | ⟨_,rfl⟩
        . cases hh
        . obtain⟨rfl,rfl,rfl,_⟩:=ai hm
          refine⟨.bool (!rr),?_,.bool,rfl,rfl⟩
          rw[run_neq_struct,cU 40 10000 t (by omega) c2 as bs _ _ rr c4 c5 hA hB hrr]
          rfl
      . simp[af]at hm
 . simp[af]at hm
theorem Dx      {κ:Nat->Option ag   }{o:Oper}{a:Act}{w:World}{Im:Nat->Prop}{θ:Th}{h:HpF}{ev:Operand->SV}{nx nx':Nat}{r:SV}{ups:List (Nat × Option Chunk)}{rs:List Nat}
  (hno:∀ c,o.op≠ .call c) (hr:HRel P ω w Im θ h) (hev:∀ x ∈ o.op.operands,VRel P ω w Im θ (ev x) (a.eval x)) (hfr:∀ x,nx<=x->x < nx'->θ x=none)
  (hm:af h (oz P κ o ev nx)=some (r,ups,nx',rs)):ta P ω o a w Im θ h r ups nx nx':=by
 obtain⟨dst,op,type,pos,after,guard⟩:=o
 cases op <;> simp only[oz]at hm <;> simp only[Op.operands]at hev <;> try (simp[af]at hm;done)
 case move x=>
  obtain⟨rfl,rfl,rfl,_⟩:=ai hm
  exact aw hr rfl (hev x (by simp))
 case assign x=>
  obtain⟨rfl,rfl,rfl,_⟩:=ai hm
  exact aw hr rfl (hev x (by simp))
 case pick c x y=>
  have hc:=hev c (by simp)
  have hx:=hev x (by simp)
  have hy:=hev y (by simp)
  split at hm
  . rename_i t ht
    rw[ht]at hc
    simp only[af]at hm
    cases t
    . simp only[Bool.false_eq_true,if_false]at hm
      obtain⟨rfl,rfl,rfl,_⟩:=ai (h:=h) hm
      refine aw hr ?_ hy
      generalize he:a.eval c=u at hc
      cases hc
      simp[execOp,he,asBool]
    . simp only[if_true]at hm
      obtain⟨rfl,rfl,rfl,_⟩:=ai (h:=h) hm
      refine aw hr ?_ hx
      generalize he:a.eval c=u at hc
      cases hc
      simp[execOp,he,asBool]
  . simp[af]at hm
 case alloc t=>
  split at hm
  . rename_i z hz
    split at hm
    . rename_i cs hcs
      obtain⟨rfl,rfl,rfl,_⟩:=ai hm
      unfold fP at hz
      cases hi:P.info? t with
      | none=>simp[hi]at hz
      | some i=>
       cases hzi:i.zero with
       | none=>simp[hi,hzi]at hz
       | some zv=>
        simp only[hi,hzi,sJ]at hz
        subst hz
        have hl:=bW (db (P:=P) (ω:=ω) w Im θ zv) hcs
        obtain⟨θ',he,hr',hn⟩:=lV hr (hfr nx (Nat.le_refl _) (Nat.lt_succ_self _)) (T:=t) hl
        refine cN ?_ he (.ptr hn) hr'
        simp[execOp,Instr.alloc,zeroValue,typeInfo,hi,hzi,newVar,newRow]
    . simp[af]at hm
  . simp[af]at hm
 case box t x=>
  split at hm
  . rename_i cs hcs
    obtain⟨rfl,rfl,rfl,_⟩:=ai hm
    have hl:=bW (hev x (by simp)) hcs
    obtain⟨θ',he,hr',hn⟩:=lV hr (hfr nx (Nat.le_refl _) (Nat.lt_succ_self _)) (T:=t) hl
    refine cN ?_ he (.ptr hn) hr'
    simp[execOp,Instr.box,newVar,newRow]
  . simp[af]at hm
 case build t ps=>
  obtain⟨v,h1,h2,rfl,rfl⟩:=AN (P:=P) (w:=w) (Im:=Im) (θ:=θ) (qs:=ps.map fun(i,x)=>(i,a.eval x)) (by simp) (fun i p q hp hq=>by
   simp only[List.getElem?_map,Array.getElem?_toList,Option.map_eq_some_iff]at hp
   obtain⟨c,hc,rfl⟩:=hp
   simp only[Array.getElem?_map,hc,Option.map_some,sJ]at hq
   subst hq
   exact⟨rfl,hev c.2 (by simp;exact⟨c.1,by simpa using Array.mem_of_getElem? hc⟩)⟩) hm
  refine aw hr ?_ h2
  simp[execOp,h1]
 case load t x=>
  have hx:=hev x (by simp)
  split at hm
  . rename_i y off he
    rw[he]at hx
    generalize hu:a.eval x=u at hx
    cases hx with
    | ptr hθ=>
     rename_i b N
     simp only[af]at hm
     cases hy:h y with
     | none=>simp[hy]at hm
     | some c=>
      cases c with
      | seq e es=>simp[hy,af]at hm
      | loopr=>simp[hy,af]at hm
      | mpc=>simp[hy,af]at hm
      | mpb=>simp[hy,af]at hm
      | cells T vs=>
       simp only[hy]at hm
       cases hp:dR P t vs off with
       | none=>simp[hp,af]at hm
       | some v=>
        simp only[hp,af,sJ,pJ]at hm
        obtain⟨rfl,rfl,rfl,_⟩:=hm
        obtain⟨b',cs,fr,h1,h2,h3,h4⟩:=hr.at_ y _ hy
        rw[hθ]at h1
        simp only[sJ,pJ]at h1
        obtain⟨rfl,_⟩:=h1
        obtain⟨u,hru,hvu⟩:=iU h2 h4 hp
        refine aw hr ?_ hvu
        simp[execOp,hu,Instr.loadAt,Instr.sureAddr,hru]
  . simp[af]at hm
 case store t x v=>
  have hx:=hev x (by simp)
  have hv:=hev v (by simp)
  split at hm
  . rename_i y off vs he hc
    rw[he]at hx
    generalize hu:a.eval x=u at hx
    cases hx with
    | ptr hθ=>
     rename_i b N
     cases hb:Nat.beq vs.length (P.cellsOf t)&&bi P t with
     | false=>simp[hb,af]at hm
     | true=>
      simp only[hb,cT,af]at hm
      cases hy:h y with
      | none=>simp[hy]at hm
      | some c=>
       cases c with
       | seq e es=>simp[hy,af]at hm
       | loopr=>simp[hy,af]at hm
       | mpc=>simp[hy,af]at hm
       | mpb=>simp[hy,af]at hm
       | cells T cs=>
        simp only[hy]at hm
        cases hs:cS cs off vs with
        | none=>simp[hs,af]at hm
        | some cs'=>
         simp only[hs,af,sJ,pJ]at hm
         obtain⟨rfl,rfl,rfl,_⟩:=hm
         obtain⟨hle,rfl⟩:=dc _ _ _ _ hs
         obtain⟨b',us,fr,h1,h2,h3,h4⟩:=hr.at_ y _ hy
         have hθ0:=h1
         rw[hθ]at h1
         simp only[sJ,pJ]at h1
         obtain⟨rfl,_⟩:=h1
         have hvr:=bW hv hc
         have hlen:us.size=cs.length:=by simpa using h4.len.symm
         have hvl:(a.eval v).cells.toList.length=vs.length:=hvr.len.symm
         have hvs:(a.eval v).cells.size=P.cellsOf t:=by
          simp only[bA]at hb
          have:=nE hb.1
          simp at hvl;omega
         have hst:=bB P b off T fr (a.eval v).cells.toList 0 us w h2 h3 (by rw[hvl];omega) (hvr.one (vn hc))
         have hw:=C0 hr (nx:=nx) hy hθ0 h2 h3 hlen (vs':=cs.take off++vs++cs.drop (off+vs.length)) (us':=us.toList.take off++(a.eval v).cells.toList++us.toList.drop (off+vs.length)) (by simp;omega)
          (((h4.takeL off).append hvr).append (h4.dropL _))
         refine j5 ?_ hw.1 hw.2
         have hsz:(sizeOf t).run P w= .ok (P.cellsOf t) w:=by
          simp only[bA,bi]at hb
          obtain⟨i,hi⟩:=Option.isSome_iff_exists.1 hb.2
          exact av hi w
         simp only[Nat.add_zero]at hst
         rw[hvl]at hst
         simp[execOp,hu,Instr.storeAt,Instr.sureAddr,storeVar,hsz,hvs,hst]
  . simp[af]at hm
 case nilCheck x=>
  have hx:=hev x (by simp)
  split at hm
  . rename_i y off he
    obtain⟨rfl,rfl,rfl,_⟩:=ai hm
    rw[he]at hx
    generalize hu:a.eval x=u at hx
    refine aw hr ?_ hx
    cases hx
    simp[execOp,hu]
  . rename_i f as bs he
    obtain⟨rfl,rfl,rfl,_⟩:=ai hm
    rw[he]at hx
    generalize hu:a.eval x=u at hx
    refine aw hr ?_ hx
    cases hx
    simp[execOp,hu]
  . simp[af]at hm
 case binOp op t x y yt=>
  have hx:=hev x (by simp)
  have hy:=hev y (by simp)
  split at hm
  . rename_i b hb hop
    obtain⟨rfl,rfl,rfl,_⟩:=ai hm
    rcases ej hop with ⟨_,rfl⟩ | ⟨hh,_⟩
    . obtain⟨r1,r2,r3,r4,r5⟩:=r9 hb hx hy
      refine aw hr ?_ .bool
      simp only[execOp,r4]
      simp[bH r2 r3,r1]
    . cases hh
  . rename_i b hb hop
    obtain⟨rfl,rfl,rfl,_⟩:=ai hm
    rcases ej hop with ⟨hh,_⟩ | ⟨_,rfl⟩
    . cases hh
    . obtain⟨r1,r2,r3,r4,r5⟩:=r9 hb hx hy
      refine aw hr ?_ .bool
      simp only[execOp,r5]
      simp[bH r2 r3,r1]
  . obtain⟨v,h1,h2,rfl,rfl⟩:=Dw (P:=P) (ox:=x) (oy:=y) hx hy hm
    refine aw hr ?_ h2
    simp only[execOp]
    exact h1
 case unOp op t x=>
  have hx:=hev x (by simp)
  split at hm
  . rename_i b he
    obtain⟨rfl,rfl,rfl,_⟩:=ai hm
    rw[he]at hx
    generalize hu:a.eval x=u at hx
    cases hx
    exact aw hr (by simp[execOp,hu,Op.unary]) .bool
  . rename_i k n he
    obtain⟨rfl,rfl,rfl,_⟩:=ai hm
    rw[he]at hx
    generalize hu:a.eval x=u at hx
    cases hx
    exact aw hr (by simp[execOp,hu,Op.unary,Op.intArith]) .int
  . simp[af]at hm
 case convert s d x=>
  have hx:=hev x (by simp)
  unfold zy at hm
  split at hm
  . rename_i k1 k2 k3 n h1 h2 he
    obtain⟨rfl,rfl,rfl,_⟩:=ai hm
    rw[he]at hx
    generalize hu:a.eval x=u at hx
    cases hx
    exact aw hr (by simp[execOp,hu,Go.convert,run_underlying h1,run_underlying h2,Conv.intToInt]) .int
  . rename_i l h1 h2 he
    obtain⟨rfl,rfl,rfl,_⟩:=ai hm
    rw[he]at hx
    generalize hu:a.eval x=u at hx
    refine aw hr ?_ hx
    cases hx
    simp[execOp,hu,Go.convert,run_underlying h1,run_underlying h2]
  . simp[af]at hm
 case makeFunc f as bs=>
  cases f <;> simp only[]at hm <;> try (simp[af]at hm;done)
  obtain⟨rfl,rfl,rfl,_⟩:=ai hm
  refine aw hr (v:=.func _ (as.map a.eval) (bs.map a.eval)) (by simp[execOp,Instr.makeFunc]) (.fn (by simp) (by simp) (fun i v u hv hu=> ?_) (fun i v u hv hu=> ?_))
  . simp only[List.getElem?_map,Array.getElem?_toList,Option.map_eq_some_iff]at hv
    obtain⟨c,hc,rfl⟩:=hv
    simp only[Array.getElem?_map,hc,Option.map_some,sJ]at hu
    subst hu
    exact hev c (by simp;exact .inl (Array.mem_of_getElem? hc))
  . simp only[List.getElem?_map,Array.getElem?_toList,Option.map_eq_some_iff]at hv
    obtain⟨c,hc,rfl⟩:=hv
    simp only[Array.getElem?_map,hc,Option.map_some,sJ]at hu
    subst hu
    exact hev c (by simp;exact .inr (Array.mem_of_getElem? hc))
 case fieldAddr t x f=>
  have hx:=hev x (by simp)
  split at hm
  . rename_i y off fs he hu
    rw[he]at hx
    generalize hux:a.eval x=u at hx
    cases hx with
    | ptr hθ=>
     cases hf:fs[f]? with
     | none=>simp[hf,af]at hm
     | some fd=>
      simp only[hf]at hm
      cases hz:Nat.beq (P.cellsOf fd.type) 0 with
      | true=>simp[hz,af]at hm
      | false=>
       simp only[hz,cF]at hm
       obtain⟨rfl,rfl,rfl,_⟩:=ai hm
       have hne:P.cellsOf fd.type≠0:=fun e=>by rw[fK e]at hz;cases hz
       obtain⟨i,hi⟩:=dM hne
       refine aw hr ?_ (.ptr hθ)
       simp[execOp,hux,Instr.fieldAt,run_underlying hu,hf,Instr.sureAddr,fieldPlace,av hi,hne,bv]
  . simp[af]at hm
 case field t x f=>
  have hx:=hev x (by simp)
  split at hm
  . rename_i cs fs he hu
    rw[he]at hx
    generalize hux:a.eval x=u at hx
    cases hx with
    | agg h1 h2=>
     rename_i us
     have hl:LRel P ω w Im θ cs us.toList:=⟨by simpa using h1,fun i v u hv hu=>h2 i v u hv (by simpa using hu)⟩
     cases hf:fs[f]? with
     | none=>simp[hf,af]at hm
     | some fd=>
      simp only[hf]at hm
      cases hp:dR P fd.type cs fd.offset with
      | none=>simp[hp,af]at hm
      | some v=>
       simp only[hp]at hm
       obtain⟨rfl,rfl,rfl,_⟩:=ai hm
       obtain⟨u,hru,hvu⟩:=lW hl hp
       refine aw hr ?_ hvu
       simp[execOp,hux,Instr.field,run_underlying hu,hf,asAgg,hru]
  . simp[af]at hm
 case extract x i=>
  have hx:=hev x (by simp)
  split at hm
  . rename_i vs he
    rw[he]at hx
    generalize hux:a.eval x=u at hx
    cases hx with
    | tup h1 h2=>
     rename_i us
     cases hn:mq vs i with
     | none=>simp[hn,af]at hm
     | some v=>
      simp only[hn]at hm
      obtain⟨rfl,rfl,rfl,_⟩:=ai hm
      rw[fi]at hn
      have hlt:i < vs.length:=by
       rcases Nat.lt_or_ge i vs.length with h | h
       . exact h
       . simp[List.getElem?_eq_none h]at hn
      have hlt':i < us.size:=by omega
      refine aw hr ?_ (h2 i v us[i] hn (by simp[hlt']))
      simp[execOp,hux,Instr.extract,hlt']
  . simp[af]at hm
 case buildSlice t n ps=>
  obtain⟨us,cs,e,h1,hl,hcl,rfl,rfl,rfl⟩:=ov (P:=P) (w:=w) (Im:=Im) (θ:=θ) (qs:=ps.map fun(i,x)=>(i,a.eval x)) (by simp) (fun i p q hp hq=>by
   simp only[List.getElem?_map,Array.getElem?_toList,Option.map_eq_some_iff]at hp
   obtain⟨c,hc,rfl⟩:=hp
   simp only[Array.getElem?_map,hc,Option.map_some,sJ]at hq
   subst hq
   exact⟨rfl,hev c.2 (by simp;exact⟨c.1,Array.mem_of_getElem? hc⟩)⟩) hm
  obtain⟨θ',he,hr',hn⟩:=lV hr (hfr nx (Nat.le_refl _) (Nat.lt_succ_self _)) (T:=e) hl
  refine cN ?_ he (.sl hn (by rw[hcl];omega) (Nat.le_refl _)) hr'
  simp[execOp,h1]
 case makeSlice t l c=>
  obtain⟨us,cs,e,n,k,h1,hl,hcl,hnk,rfl,rfl,rfl⟩:=qi (w:=w) (Im:=Im) (θ:=θ) hm (hev l (by simp)) (hev c (by simp))
  obtain⟨θ',he,hr',hn⟩:=lV hr (hfr nx (Nat.le_refl _) (Nat.lt_succ_self _)) (T:=e) hl
  refine cN ?_ he (.sl hn (by rw[hcl];omega) hnk) hr'
  simp[execOp,h1]
 case slice t x lo hi mx=>
  refine good_of hr (Instr.sliceAt t (a.eval x) (lo.map a.eval) (hi.map a.eval) (mx.map a.eval)) rfl (AT hm (hev x (by simp)) (fun h=> ?_) (fun v h=> ?_) (fun h=> ?_) (fun v h=> ?_) (fun h=> ?_))
  . cases lo <;> simp_all
  . cases lo with
    | none=>cases h
    | some l=>cases h;exact⟨_,rfl,hev l (by simp)⟩
  . cases hi <;> simp_all
  . cases hi with
    | none=>cases h
    | some l=>cases h;exact⟨_,rfl,hev l (by simp)⟩
  . cases mx <;> simp_all
 case indexAddr t x ix=>exact good_of hr (Instr.indexAt t (a.eval x) (a.eval ix)) rfl (rm hm (hev x (by simp)) (hev ix (by simp)))
 case index t x ix=>exact good_of hr (Instr.index t (a.eval x) (a.eval ix)) rfl (AS hm (hev x (by simp)) (hev ix (by simp)))
 case call c=>exact absurd rfl (hno c)
end Go.Am
namespace Go.Am
variable {P:Program} {ω:Nat->Value}
theorem fR{w:World}{b:Nat}{o:Obj}(h:w.heap[b]? =some o):b < w.heap.size:=(Array.getElem?_eq_some_iff.1 h).1
theorem lX(a b:List (Nat × Option Chunk))(h:HpF):ad (a++b) h=ad b (ad a h):=by
 induction a generalizing h with
 | nil=>rfl
 | cons p a ih=>obtain⟨x,c⟩:=p;simp only[List.cons_append,ad];exact ih _
theorem j6:∀ (x:Nat) (l:List Nat),fB x l=true↔x ∈ l
 | x,[]=>by simp[fB]
 | x,y :: l=>by
  have ih:=j6 x l
  simp only[fB,Bool.or_eq_true,List.mem_cons,ih]
  constructor
  . rintro(h | h)
    . exact .inl (nE h)
    . exact .inr h
  . rintro(h | h)
    . exact .inl (fK h)
    . exact .inr h
theorem pS:∀ (ys:List Nat) (h:HpF) (x:Nat),ad (dh ys) h x=if x ∈ ys then none else h x
 | [],h,x=>by simp[dh,ad]
 | y :: ys,h,x=>by
  simp only[dh,ad]
  rw[pS ys _ x]
  by_cases h1:x ∈ ys
  . simp[h1]
  . by_cases h2:x=y
    . subst h2;simp
    . simp[h1,h2]
theorem updF_drops_some{ys:List Nat}{h:HpF}{x:Nat}{c:Chunk}:ad (dh ys) h x=some c↔x ∉ ys/\h x=some c:=by
 rw[pS]
 by_cases h1:x ∈ ys <;> simp[h1]
def C4(θ:Th)(h:HpF)(ys:List Nat)(b:Nat):Prop:=∃ y ∈ ys,∃ c N,h y=some c/\θ y=some (b,N)
def au(Im:Nat->Prop)(θ:Th)(h:HpF)(ys:List Nat)(b:Nat):Prop:=Im b\/C4 θ h ys b
theorem bC{Im:Nat->Prop}{θ:Th}{h:HpF}{ys:List Nat}(w:World):∀ b,Im b->au Im θ h ys b/\w.heap[b]? =w.heap[b]? :=fun _ hb=>⟨.inl hb,rfl⟩
theorem nf       {w w':World}{Im:Nat->Prop}{θ:Th}{h:HpF}(hr:HRel P ω w Im θ h){nx:Nat}(hθ:θ nx=none)(hnx:h nx=none){ds ys:List Nat}(hsub:∀ y ∈ ys,y ∈ ds){b N:Nat}
  (hb:(w.heap.size<=b/\b < w'.heap.size)\/∃ y c N',y ∈ ds/\y ∉ ys/\h y=some c/\θ y=some (b,N')) (hsz:w.heap.size<=w'.heap.size) (hold:∀ d,d≠b->d < w.heap.size->w'.heap[d]? =w.heap[d]?)
  (hos:w'.os=w.os) (hou:w'.output=w.output) (hta:w'.tape=w.tape) (c:Chunk)
  (hc:∀ θ':Th,θ' nx=some (b,N)->(∀ x p,θ x=some p->θ' x=some p)->(∀ d,au Im θ h ys d->au Im θ h ys d/\w'.heap[d]? =w.heap[d]?)->CRel P ω w' (au Im θ h ys) θ' nx c):
  ∃ θ':Th,Ext (fun x=>nx<=x/\x < nx+1) h w Im θ (ad (dh ds++[(nx,some c)]) h) w' (au Im θ h ys) θ'/\HRel P ω w' (au Im θ h ys) θ' (ad (dh ds++[(nx,some c)]) h)/\θ' nx=some (b,N):=by
 let θ':Th:=fun x=>if x=nx then some (b,N)else θ x
 have hup:∀ x p,θ x=some p->θ' x=some p:=by
  intro x p hp
  by_cases hx:x=nx
  . subst hx;rw[hθ]at hp;cases hp
  . simp[θ',hx,hp]
 have hg:∀ x d,ad (dh ds++[(nx,some c)]) h x=some d->(x=nx/\d=c)\/(x≠nx/\x ∉ ds/\h x=some d):=by
  intro x d hx
  rw[lX]at hx
  simp only[ad]at hx
  by_cases hxn:x=nx
  . simp[hxn]at hx;exact .inl ⟨hxn,hx.symm⟩
  . simp only[if_neg hxn]at hx
    exact .inr ⟨hxn,updF_drops_some.1 hx⟩
 have hImlt:∀ d,au Im θ h ys d->d < w.heap.size:=by
  rintro d (hd | ⟨y,_,c',N',hy,hyθ⟩)
  . exact hr.im d hd
  . exact(hr.own y c' d N' hy hyθ).2
 have hbIm:¬ au       Im θ h ys b:=by
  intro hh
  rcases hb with ⟨h1,_⟩ | ⟨y,c',N',h1,h2,h3,h4⟩
  . have:=hImlt b hh;omega
  . rcases hh with hh | ⟨z,hz,c2,N2,hz1,hz2⟩
    . exact(hr.own y c' b N' h3 h4).1 hh
    . have:=hr.inj y z c' c2 b N' N2 h3 hz1 h4 hz2
      subst this
      exact h2 hz
 have hother:∀ x d M,x ∉ ds->∀ c',h x=some c'->θ x=some (d,M)->d≠b:=by
  rintro x d M hx c' hxc hxθ rfl
  rcases hb with ⟨h1,_⟩ | ⟨y,c2,N',h1,h2,h3,h4⟩
  . have:=(hr.own x c' d M hxc hxθ).2;omega
  . have:=hr.inj x y c' c2 d M N' hxc h3 hxθ h4
    subst this
    exact hx h1
 have hIm:∀ d,Im d->au Im θ h ys d/\w'.heap[d]? =w.heap[d]? :=fun d hd=>
  ⟨.inl hd,hold d (fun e=>hbIm (by rw[<- e];exact .inl hd)) (hr.im d hd)⟩
 have hIm':∀ d,au Im θ h ys d->w'.heap[d]? =w.heap[d]? :=fun d hd=>hold d (fun e=>hbIm (by rw[<- e];exact hd)) (hImlt d hd)
 refine⟨θ',?_,?_,by simp[θ']⟩
 . refine⟨?_,hup,fun _ h=>.inl h,hsz,?_,?_,?_,hos,hou,hta⟩
   . intro x hx
     have:x≠nx:=by intro e;subst e;exact hx ⟨Nat.le_refl _,Nat.lt_succ_self _⟩
     simp[θ',this]
   . intro d hd hno
     refine hold d (fun e=> ?_) hd
     subst e
     rcases hb with ⟨h1,_⟩ | ⟨y,c',N',h1,h2,h3,h4⟩
     . omega
     . exact hno y c' N' h3 h4
   . rintro d (hd | ⟨y,_,c',N',hy,hyθ⟩)
     . exact .inl hd
     . exact .inr (.inl ⟨y,c',N',hy,hyθ⟩)
   . intro x d e M hx he
     rcases hg x d hx with ⟨rfl,rfl⟩ | ⟨h1,h2,h3⟩
     . simp[θ']at he
       obtain⟨rfl,rfl⟩:=he
       rcases hb with ⟨h1,_⟩ | ⟨y,c',N',h1,h2,h3,h4⟩
       . exact .inr h1
       . exact .inl ⟨y,c',N',h3,h4⟩
     . simp[θ',h1]at he
       exact .inl ⟨x,d,M,h3,he⟩
 . refine⟨?_,?_,?_,fun d hd=>Nat.lt_of_lt_of_le (hImlt d hd) hsz⟩
   . intro x d hx
     rcases hg x d hx with ⟨rfl,rfl⟩ | ⟨h1,h2,h3⟩
     . exact hc θ' (by simp[θ']) hup (fun d hd=>⟨hd,hIm' d hd⟩)
     . exact(hr.at_ x d h3).mono hIm hup (by simp[θ',h1]) (fun e M he=>hold e (hother x e M h2 d h3 he) (hr.own x d e M h3 he).2)
   . intro x y d d' e M M' hx hy he he'
     rcases hg x d hx with ⟨rfl,rfl⟩ | ⟨h1,h2,h3⟩
     . rcases hg y d' hy with ⟨rfl,rfl⟩ | ⟨g1,g2,g3⟩
       . rfl
       . simp[θ']at he
         simp[θ',g1]at he'
         exact absurd he.1.symm (hother y e M' g2 d' g3 he')
     . rcases hg y d' hy with ⟨rfl,rfl⟩ | ⟨g1,g2,g3⟩
       . simp[θ',h1]at he
         simp[θ']at he'
         exact absurd he'.1.symm (hother x e M h2 d h3 he)
       . simp[θ',h1]at he
         simp[θ',g1]at he'
         exact hr.inj x y d d' e M M' h3 g3 he he'
   . intro x d e M hx he
     rcases hg x d hx with ⟨rfl,rfl⟩ | ⟨h1,h2,h3⟩
     . simp[θ']at he
       obtain⟨rfl,rfl⟩:=he
       refine⟨hbIm,?_⟩
       rcases hb with ⟨_,h1⟩ | ⟨y,c',N',h1,h2,h3,h4⟩
       . exact h1
       . exact Nat.lt_of_lt_of_le (hr.own y c' b N' h3 h4).2 hsz
     . simp[θ',h1]at he
       have ho:=hr.own x d e M h3 he
       refine⟨fun hh=> ?_,Nat.lt_of_lt_of_le ho.2 hsz⟩
       rcases hh with hh | ⟨y,hy,c2,N2,hy1,hy2⟩
       . exact ho.1 hh
       . have:=hr.inj x y d c2 e M N2 h3 hy1 he hy2
         subst this
         exact h2 (hsub _ hy)
theorem Ay       {w:World}{Im:Nat->Prop}{θ:Th}{h:HpF}(hr:HRel P ω w Im θ h){nx:Nat}(hθ:θ nx=none){ds ys:List Nat}(hsub:∀ y ∈ ys,y ∈ ds)(e:TypeId):
  Ext (fun x=>nx<=x/\x < nx+1) h w Im θ (ad (dh ds++[(nx,some (.seq e []))]) h) w (au Im θ h ys) θ/\HRel P ω w (au Im θ h ys) θ (ad (dh ds++[(nx,some (.seq e []))]) h):=by
 have hg:∀ x d,ad (dh ds++[(nx,some (.seq e []))]) h x=some d->(x=nx/\d= .seq e [])\/(x≠nx/\x ∉ ds/\h x=some d):=by
  intro x d hx
  rw[lX]at hx
  simp only[ad]at hx
  by_cases hxn:x=nx
  . simp[hxn]at hx;exact .inl ⟨hxn,hx.symm⟩
  . simp only[if_neg hxn]at hx
    exact .inr ⟨hxn,updF_drops_some.1 hx⟩
 have hImlt:∀ d,au Im θ h ys d->d < w.heap.size:=by
  rintro d (hd | ⟨y,_,c',N',hy,hyθ⟩)
  . exact hr.im d hd
  . exact(hr.own y c' d N' hy hyθ).2
 refine⟨⟨fun _ _=>rfl,fun _ _ h=>h,fun _ h=>.inl h,Nat.le_refl _,fun _ _ _=>rfl,?_,?_,rfl,rfl,rfl⟩,⟨?_,?_,?_,hImlt⟩⟩
 . rintro d (hd | ⟨y,_,c',N',hy,hyθ⟩)
   . exact .inl hd
   . exact .inr (.inl ⟨y,c',N',hy,hyθ⟩)
 . intro x d e' M hx he
   rcases hg x d hx with ⟨rfl,rfl⟩ | ⟨h1,h2,h3⟩
   . rw[hθ]at he;cases he
   . exact .inl ⟨x,d,M,h3,he⟩
 . intro x d hx
   rcases hg x d hx with ⟨rfl,rfl⟩ | ⟨h1,h2,h3⟩
   . exact .inl ⟨rfl,hθ⟩
   . exact(hr.at_ x d h3).mono (bC w) (fun _ _ h=>h) rfl (fun _ _ _=>rfl)
 . intro x y d d' e' M M' hx hy he he'
   rcases hg x d hx with ⟨rfl,rfl⟩ | ⟨h1,h2,h3⟩
   . rw[hθ]at he;cases he
   . rcases hg y d' hy with ⟨rfl,rfl⟩ | ⟨g1,g2,g3⟩
     . rw[hθ]at he';cases he'
     . exact hr.inj x y d d' e' M M' h3 g3 he he'
 . intro x d e' M hx he
   rcases hg x d hx with ⟨rfl,rfl⟩ | ⟨h1,h2,h3⟩
   . rw[hθ]at he;cases he
   . have ho:=hr.own x d e' M h3 he
     refine⟨fun hh=> ?_,ho.2⟩
     rcases hh with hh | ⟨y,hy,c2,N2,hy1,hy2⟩
     . exact ho.1 hh
     . have:=hr.inj x y d c2 e' M N2 h3 hy1 he hy2
       subst this
       exact h2 (hsub _ hy)
theorem Az       {w:World}{Im:Nat->Prop}{θ:Th}{h:HpF}(hr:HRel P ω w Im θ h){new:Nat->Prop}(ys:List Nat):
  Ext new h w Im θ (ad (dh ys) h) w (au Im θ h ys) θ/\HRel P ω w (au Im θ h ys) θ (ad (dh ys) h):=by
 have hImlt:∀ d,au Im θ h ys d->d < w.heap.size:=by
  rintro d (hd | ⟨y,_,c',N',hy,hyθ⟩)
  . exact hr.im d hd
  . exact(hr.own y c' d N' hy hyθ).2
 refine⟨⟨fun _ _=>rfl,fun _ _ h=>h,fun _ h=>.inl h,Nat.le_refl _,fun _ _ _=>rfl,?_,?_,rfl,rfl,rfl⟩,⟨?_,?_,?_,hImlt⟩⟩
 . rintro d (hd | ⟨y,_,c',N',hy,hyθ⟩)
   . exact .inl hd
   . exact .inr (.inl ⟨y,c',N',hy,hyθ⟩)
 . intro x d e' M hx he
   exact .inl ⟨x,d,M,(updF_drops_some.1 hx).2,he⟩
 . intro x d hx
   exact(hr.at_ x d (updF_drops_some.1 hx).2).mono (bC w) (fun _ _ h=>h) rfl (fun _ _ _=>rfl)
 . intro x y d d' e' M M' hx hy he he'
   exact hr.inj x y d d' e' M M' (updF_drops_some.1 hx).2 (updF_drops_some.1 hy).2 he he'
 . intro x d e' M hx he
   obtain⟨h2,h3⟩:=updF_drops_some.1 hx
   have ho:=hr.own x d e' M h3 he
   refine⟨fun hh=> ?_,ho.2⟩
   rcases hh with hh | ⟨y,hy,c2,N2,hy1,hy2⟩
   . exact ho.1 hh
   . have:=hr.inj x y d c2 e' M N2 h3 hy1 he hy2
     subst this
     exact h2 hy
theorem dm       {w:World}{Im:Nat->Prop}{θ:Th}{h:HpF}(hr:HRel P ω w Im θ h){x b N:Nat}{c:Chunk}(hx:h x=some c)(hθ:θ x=some (b,N))(o:Obj)(c':Option Chunk)
  (hc:(∀ d,Im d->Im d/\(w.putObj b o).heap[d]? =w.heap[d]?)->∀ d,c'=some d->CRel P ω (w.putObj b o) Im θ x d):
  Ext (fun _=>False) h w Im θ (ad [(x,c')] h) (w.putObj b o) Im θ/\HRel P ω (w.putObj b o) Im θ (ad [(x,c')] h):=by
 have hown:=hr.own x _ b _ hx hθ
 have hI:∀ d,Im d->Im d/\(w.putObj b o).heap[d]? =w.heap[d]? :=fun d hd=>⟨hd,World.putObj_heap_other (fun e=>hown.1 (e ▸ hd))⟩
 refine⟨⟨fun _ _=>rfl,fun _ _ h=>h,fun _ h=>h,by simp,?_,fun d hd=>.inl hd,?_,rfl,rfl,rfl⟩,?_,?_,?_,fun d hd=>by simpa using hr.im d hd⟩
 . intro d hd hno
   exact World.putObj_heap_other (fun e=>hno x _ N hx (by rw[hθ,e]))
 . intro y d e M hy he
   by_cases hyx:y=x
   . subst hyx;exact .inl ⟨y,_,M,hx,he⟩
   . simp[ad,hyx]at hy;exact .inl ⟨y,d,M,hy,he⟩
 . intro y d hy
   by_cases hyx:y=x
   . subst hyx
     simp[ad]at hy
     exact hc hI d hy
   . simp[ad,hyx]at hy
     refine(hr.at_ y d hy).mono hI (fun _ _ h=>h) rfl (fun e M he=>World.putObj_heap_other (fun ee=> ?_))
     subst ee
     exact hyx (hr.inj y x d c e M N hy hx he hθ)
 . intro y z d d' e M M' hy hz he he'
   have old:∀ y d,ad [(x,c')] h y=some d->∃ d0,h y=some d0:=by
    intro y d hy
    by_cases hyx:y=x
    . subst hyx;exact⟨c,hx⟩
    . simp[ad,hyx]at hy;exact⟨d,hy⟩
   obtain⟨d0,h0⟩:=old y d hy
   obtain⟨d1,h1⟩:=old z d' hz
   exact hr.inj y z d0 d1 e M M' h0 h1 he he'
 . intro y d e M hy he
   by_cases hyx:y=x
   . subst hyx
     have:=hr.own y c e M hx he
     exact⟨this.1,by simpa using this.2⟩
   . simp[ad,hyx]at hy
     have:=hr.own y d e M hy he
     exact⟨this.1,by simpa using this.2⟩
end Go.Am
namespace Go.Am
variable {P:Program} {ω:Nat->Value}
/- Cells, element by element. -/
def bp(us:Nat->Value):Nat->List Value
 | 0=>[]
 | m+1=>bp us m++(us m).cells.toList
theorem cO{us:Nat->Value}{sz:Nat}:∀ (m:Nat),(∀ i,i < m->(us i).cells.size=sz)->(bp us m).length=m * sz
 | 0,_=>by simp[bp]
 | m+1,h=>by
  simp only[bp,lA0,cO m (fun i hi=>h i (by omega))]
  have:=h m (by omega)
  simp[this,Nat.add_mul]
theorem pW{us:Nat->Value}{sz:Nat}:∀ (m:Nat),(∀ i,i < m->(us i).cells.size=sz)->∀ i d,i < m->d < sz->(bp us m)[i * sz+d]? =(us i).cells[d]?
 | 0,_,i,_,hi,_=>by omega
 | m+1,h,i,d,hi,hd=>by
  have hl:=cO (us:=us) m (fun i hi=>h i (by omega))
  simp only[bp]
  by_cases hm:i < m
  . have h1:(i+1) * sz<=m * sz:=Nat.mul_le_mul_right _ hm
    rw[Nat.add_mul]at h1
    rw[List.getElem?_append_left (by omega)]
    exact pW m (fun i hi=>h i (by omega)) i d hm hd
  . have:i=m:=by omega
    subst this
    rw[List.getElem?_append_right (by omega),hl]
    have:i * sz+d - i * sz=d:=by omega
    rw[this,Array.getElem?_toList]
theorem lZ{us:Nat->Value}:∀ (m:Nat) (u:Value),u ∈ bp us m->∃ i,i < m/\u ∈ (us i).cells.toList
 | 0,_,h=>by simp[bp]at h
 | m+1,u,h=>by
  simp only[bp,List.mem_append]at h
  rcases h with h | h
  . obtain⟨i,hi,hu⟩:=lZ m u h
    exact⟨i,by omega,hu⟩
  . exact⟨m,by omega,h⟩
theorem pX{us vs:Nat->Value}:∀ (m:Nat),(∀ i,i < m->us i=vs i)->bp us m=bp vs m
 | 0,_=>rfl
 | m+1,h=>by simp only[bp];rw[pX m (fun i hi=>h i (by omega)),h m (by omega)]
theorem vu(us vs:Nat->Value)(n:Nat):∀ (m:Nat),bp (fun i=>if i < n then us i else vs (i - n)) (n+m)=bp us n++bp vs m
 | 0=>by
  simp only[Nat.add_zero,bp,List.append_nil]
  exact pX n (fun i hi=>by simp[hi])
 | m+1=>by
  rw[<- Nat.add_assoc]
  simp only[bp,vu us vs n m]
  have h1:¬ n+m < n:=by omega
  have h2:n+m - n=m:=by omega
  simp only[if_neg h1,h2,aA]
theorem j7{us:Nat->Value}{sz m:Nat}(h:∀ i,i < m->(us i).cells.size=sz){at_:Nat->Option Value}(hc:∀ i,i < m->∀ (d:Nat) (c:Value),(us i).cells[d]? =some c->at_ (i * sz+d)=some c):
  ∀ j u,(bp us m)[j]? =some u->at_ j=some u:=by
 intro j u hj
 have hl:=cO m h
 have hjl:j < m * sz:=by
  rw[<- hl]
  rcases Nat.lt_or_ge j (bp us m).length with h1 | h1
  . exact h1
  . simp[List.getElem?_eq_none h1]at hj
 have hsz:0 < sz:=by
  rcases Nat.eq_zero_or_pos sz with h0 | h0
  . subst h0;simp at hjl
  . exact h0
 have hi:j / sz < m:=(Nat.div_lt_iff_lt_mul hsz).2 hjl
 have hd:j % sz < sz:=Nat.mod_lt _ hsz
 have he:j / sz * sz+j % sz=j:=by rw[Nat.mul_comm];exact Nat.div_add_mod j sz
 have:=pW m h (j / sz) (j % sz) hi hd
 rw[he]at this
 rw[this]at hj
 have:=hc (j / sz) hi (j % sz) u hj
 rwa [he]at this
structure Elems (P:Program) (w:World) (Im:Nat->Prop) (e:TypeId) (es:List SV) (us:Nat->Value):Prop where
 fit:∀ v ∈ es,expand P e v=v
 rel:∀ (i:Nat) (v:SV),es[i]? =some v->VRel P om0 w Im eG v (us i)/\(us i).cells.size=P.cellsOf e
theorem Elems.size{w:World}{Im:Nat->Prop}{e:TypeId}{es:List SV}{us:Nat->Value}(h:Elems P w Im e es us):∀ i,i < es.length->(us i).cells.size=P.cellsOf e:=fun i hi=>(h.rel i es[i] (by simp[hi])).2
theorem Elems.mono{w w':World}{Im Im':Nat->Prop}{e:TypeId}{es:List SV}{us:Nat->Value}(h:Elems P w Im e es us)(hI:∀ b,Im b->Im' b/\w'.heap[b]? =w.heap[b]?):Elems P w' Im' e es us:=
 ⟨h.fit,fun i v hv=>⟨(h.rel i v hv).1.mono hI (fun _ _ h=>h),(h.rel i v hv).2⟩⟩
theorem Elems.nil{w:World}{Im:Nat->Prop}{e:TypeId}:Elems P w Im e [] (fun _=>undef):=⟨(fun v hv=>by cases hv),(fun i v hv=>by simp at hv)⟩
theorem Elems.append{w:World}{Im:Nat->Prop}{e:TypeId}{es fs:List SV}{us vs:Nat->Value}(h:Elems P w Im e es us)(h':Elems P w Im e fs vs):
  Elems P w Im e (es++fs) (fun i=>if i < es.length then us i else vs (i - es.length)):=by
 refine⟨fun v hv=> ?_,fun i v hv=> ?_⟩
 . rcases List.mem_append.1 hv with hv | hv
   . exact h.fit v hv
   . exact h'.fit v hv
 . by_cases hi:i < es.length
   . rw[List.getElem?_append_left hi]at hv
     simp only[if_pos hi]
     exact h.rel i v hv
   . rw[List.getElem?_append_right (by omega)]at hv
     simp only[if_neg hi]
     exact h'.rel _ v hv
theorem Elems.part{w:World}{Im:Nat->Prop}{e:TypeId}{es:List SV}{us:Nat->Value}(h:Elems P w Im e es us)(o n:Nat):Elems P w Im e ((es.drop o).take n) (fun i=>us (o+i)):=by
 refine⟨fun v hv=>h.fit v (List.mem_of_mem_drop (List.mem_of_mem_take hv)),fun i v hv=> ?_⟩
 rw[List.getElem?_take]at hv
 split at hv
 . rw[List.getElem?_drop]at hv
   exact h.rel _ v hv
 . cases hv
/- What is written out as its type asks. -/
theorem kC{ω':Nat->Value}{w:World}{Im:Nat->Prop}{θ θ':Th}{t:TypeId}{c:SV}{u:Value}(hf:cG P t c=true)(h:VRel P ω w Im θ c u):VRel P ω' w Im θ' c u/\aS P t c=c/\AZ c=true:=by
 unfold cG at hf
 unfold aS
 split at hf <;> first | (cases hf;done) | skip
 . rename_i hu;rw[hu];cases h;exact⟨.bool,rfl,rfl⟩
 . rename_i k k' n hu
   rw[hu]
   cases h
   have:k=k':=by cases k <;> cases k' <;> first | rfl | (simp[fV]at hf)
   subst this
   exact⟨.int,rfl,rfl⟩
 . rename_i hu;rw[hu];cases h with | str h=>exact⟨.str h,rfl,rfl⟩
 . rename_i e e' es hu
   rw[hu]
   have:e=e':=nE hf
   subst this
   cases h with
   | psl us h1 h0 h2 h3 h4=>exact⟨.psl us h1 h0 h2 h3 h4,rfl,rfl⟩
 . rename_i hu;rw[hu];cases h;exact⟨.nili,rfl,rfl⟩
theorem jr{v:SV}:∀ (ts:List TypeId) (cs:List SV) (j:Nat),aQ P ts cs=true->(∀ i,i < cs.length->ar v (j+i)=cs.getD i .junk)->(∀ (i:Nat) (t:TypeId) (c:SV),ts[i]? =some t->cs[i]? =some c->cG P t c=true->aS P t c=c)->cv P v ts j=cs
 | [],[],j,_,_,_=>rfl
 | t :: ts,c :: cs,j,h,hv,he=>by
  simp only[aQ,bA]at h
  simp only[cv]
  have h0:=hv 0 (by simp)
  simp only[Nat.add_zero,List.getD_cons_zero]at h0
  rw[h0,he 0 t c rfl rfl h.1]
  congr 1
  refine jr ts cs (j+1) h.2 (fun i hi=> ?_) (fun i t c h1 h2=>he (i+1) t c (by simpa using h1) (by simpa using h2))
  have:=hv (i+1) (by simpa using hi)
  rw[show j+1+i=j+(i+1)by omega,this]
  simp
 | [],_ :: _,_,h,_,_=>by simp[aQ]at h
 | _ :: _,[],_,h,_,_=>by simp[aQ]at h
theorem pY:∀ (ts:List TypeId) (cs:List SV),aQ P ts cs=true->∀ (i:Nat) (c:SV),cs[i]? =some c->∃ t,ts[i]? =some t/\cG P t c=true
 | [],[],_,i,c,h=>by simp at h
 | t :: ts,c :: cs,h,i,d,hd=>by
  simp only[aQ,bA]at h
  cases i with
  | zero=>simp at hd;subst hd;exact⟨t,rfl,h.1⟩
  | succ i=>exact pY ts cs h.2 i d (by simpa using hd)
 | [],_ :: _,h,_,_,_=>by simp[aQ]at h
 | _ :: _,[],h,_,_,_=>by simp[aQ]at h
theorem iX{t:TypeId}{c:SV}(hf:cG P t c=true):aS P t c=c/\AZ c=true:=by
 unfold cG at hf
 unfold aS
 split at hf <;> first | (cases hf;done) | skip
 . rename_i hu;rw[hu];exact⟨rfl,rfl⟩
 . rename_i k k' n hu
   rw[hu]
   have:k=k':=by cases k <;> cases k' <;> first | rfl | (simp[fV]at hf)
   subst this
   exact⟨rfl,rfl⟩
 . rename_i hu;rw[hu];exact⟨rfl,rfl⟩
 . rename_i e e' es hu
   rw[hu]
   have:e=e':=nE hf
   subst this
   exact⟨rfl,rfl⟩
 . rename_i hu;rw[hu];exact⟨rfl,rfl⟩
theorem rW       {ω':Nat->Value}{w:World}{Im:Nat->Prop}{θ θ':Th}{t:TypeId}{v:SV}{u:Value}(hf:tA   P t v=true)(h:VRel P ω w Im θ v u):VRel P ω' w Im θ' v u/\expand P t v=v:=by
 unfold tA at hf
 unfold expand
 cases ha:aq P t with
 | true=>
  rw[ha]at hf
  simp only[cT]at hf ⊢
  split at hf
  . rename_i cs
    cases h with
    | agg h1 h2=>
     refine⟨.agg h1 (fun i v u hv hu=> ?_),?_⟩
     . obtain⟨t',_,hl⟩:=pY _ _ hf i v hv
       exact(kC hl (h2 i v u hv hu)).1
     . rw[jr _ cs 0 hf (fun i hi=>by simp[ar]) (fun i t c _ _ hl=>(iX hl).1)]
  . cases hf
 | false=>
  rw[ha]at hf
  simp only[cF]at hf ⊢
  obtain⟨h1,h2,_⟩:=kC (ω':=ω') (θ':=θ') hf h
  exact⟨h1,h2⟩
theorem vw{w:World}{Im:Nat->Prop}{θ:Th}{t:TypeId}{v:SV}{u:Value}(hs:qx P t v=true)(h:VRel P ω w Im θ v u):u.cells.size=P.cellsOf t:=by
 unfold qx at hs
 cases hc:bP v with
 | none=>simp[hc]at hs
 | some cs=>
  simp only[hc]at hs
  have:=(bW h hc).len
  have h2:=nE hs
  simp at this
  omega
theorem kD{t:TypeId}(h:ig P t=true)(c:SV):AZ (aS P t c)=true:=by
 unfold ig at h
 unfold aS
 split at h <;> first | (cases h;done) | rfl
theorem kE{v:SV}:∀ (ts:List TypeId) (j:Nat),ts.all (ig P)=true->iD (cv P v ts j)=true
 | [],_,_=>rfl
 | t :: ts,j,h=>by
  simp only[List.all_cons,bA]at h
  simp only[cv,iD,bA]
  exact⟨kD h.1 _,kE ts (j+1) h.2⟩
theorem gE{w:World}{Im:Nat->Prop}{θ:Th}{t:TypeId}{v:SV}{u:Value}(hp:iI P t=true)(he:expand P t v=v)(h:VRel P ω w Im θ v u):(∀ c ∈ u.cells.toList,c.oneCell'=true)/\(aq P t=false->u.cells= #[u]):=by
 unfold iI at hp
 unfold expand at he
 cases ha:aq P t with
 | true=>
  rw[ha]at hp he
  simp only[cT]at hp he
  refine⟨?_,fun h=>by cases h⟩
  have h1:=kE (v:=v) _ 0 hp
  rw[<- he]at h
  have hc:bP (SV.agg (cv P v (aK P 40 t) 0))=some (cv P v (aK P 40 t) 0):=by simp[bP,h1]
  exact(bW h hc).one h1
 | false=>
  rw[ha]at hp he
  simp only[cF]at hp he
  have h1:=kD hp v
  rw[he]at h1
  have h2:=rV (gz h h1)
  refine⟨fun c hc=> ?_,fun _=>h2⟩
  rw[h2]at hc
  simp at hc
  subst hc
  exact gz h h1
/- Known by content from here on. -/
theorem eV{Im:Nat->Prop}{θ:Th}{h:HpF}{ys zs:List Nat}(w:World):(∀ b,au Im θ h ys b->au Im θ h (ys++zs) b/\w.heap[b]? =w.heap[b]?)/\(∀ b,au Im θ h zs b->au Im θ h (ys++zs) b/\w.heap[b]? =w.heap[b]?):=by
 refine⟨fun b hb=>⟨?_,rfl⟩,fun b hb=>⟨?_,rfl⟩⟩
 . rcases hb with hb | ⟨y,hy,r⟩
   . exact .inl hb
   . exact .inr ⟨y,List.mem_append.2 (.inl hy),r⟩
 . rcases hb with hb | ⟨y,hy,r⟩
   . exact .inl hb
   . exact .inr ⟨y,List.mem_append.2 (.inr hy),r⟩
section
variable {w:World} {Im:Nat->Prop} {θ:Th} {h:HpF} (hr:HRel P ω w Im θ h)
include hr
theorem yN     {y:Nat}{e:TypeId}{es:List SV}(hy:h y=some (.seq e es)){sz n:Nat}{u:Value}(hn:n=es.length)(hv:VRel P ω w Im θ (.qs y sz 0 n) u):VRel P ω w (au       Im θ h [y]) θ (.psl e es) u:=by
 have hc:=hr.at_ y _ hy
 cases hv with
 | qsnil h0=>
  have:es=[]:=List.eq_nil_of_length_eq_zero (by omega)
  subst this
  exact .psl (fun _=>undef) rfl ⟨Nat.le_refl _,by simp⟩ (fun v hv=>by cases hv) (fun i v hv=>by simp at hv) (fun hn=>absurd rfl hn)
 | qs hθ h1 h2=>
  rename_i b N cap
  rcases hc with ⟨_,h3⟩ | ⟨b',N',cs,T,fr,us,h3,h4,h5,h6,h7,h8,h9⟩
  . rw[h3]at hθ;cases hθ
  . rw[hθ]at h3
    simp only[sJ,pJ]at h3
    obtain⟨rfl,rfl⟩:=h3
    refine .psl us hn.symm ⟨h2,by simp⟩ h8 (fun i v hv=> ?_) (fun hne=>⟨b,0 * sz,rfl,.inr ⟨y,by simp,_,_,hy,hθ⟩,fun i hi=> ?_⟩)
    . exact(h9 i v hv).1.mono (bC w) (fun _ _ h=>h)
    . have hi':i < es.length:=by omega
      obtain⟨g1,g2,g3⟩:=h9 i es[i] (by simp[hi'])
      refine⟨g2,fun d c hd=> ?_⟩
      have:=g3 d c hd
      simp only[World.cell?,h4,Nat.zero_mul,Nat.zero_add]
      simpa using this
theorem nT         {t:TypeId}{c:SV}{u:Value}{k:SV->List Nat->OpM}{r:SV}{ups:List (Nat × Option Chunk)}{nx:Nat}{rs:List Nat}(hv:VRel P ω w Im θ c u)(hm:af   h (oU      P t k c)=some (r,ups,nx,rs)):
  ∃ c' ys rs',af h (k c' ys)=some (r,ups,nx,rs')/\VRel P ω w (au Im θ h ys) θ c' u:=by
 unfold oU at hm
 split at hm
 . rename_i y sz l n
   split at hm
   . rename_i e hu
     simp only[af]at hm
     cases hy:h y with
     | none=>simp[hy]at hm
     | some c=>
      simp only[hy]at hm
      cases c with
      | seq e' es=>
       simp only[]at hm
       cases hb:Nat.beq e e'&&Nat.beq sz (P.cellsOf e)with
       | false=>simp[hb,af]at hm
       | true=>
        simp only[hb,cT,af]at hm
        split at hm
        . rename_i r0 ups0 nx0 rs0 heq
          split at heq
          . rename_i hcnd
            simp only[bA,decide_eq_true_eq]at hcnd hb
            obtain⟨rfl,hn⟩:=hcnd
            have:e=e':=nE hb.1
            subst this
            simp only[sJ,pJ]at hm
            obtain⟨rfl,rfl,rfl,rfl⟩:=hm
            exact⟨_,_,_,heq,yN hr hy hn hv⟩
          . simp at heq
        . cases hm
      | cells=>simp[af]at hm
      | loopr=>simp[af]at hm
      | mpc=>simp[af]at hm
      | mpb=>simp[af]at hm
   . simp[af]at hm
 . split at hm
   . cases hv
     exact⟨_,_,_,hm,.psl (fun _=>undef) rfl ⟨Nat.le_refl _,by simp⟩ (fun v hv=>by cases hv) (fun i v hv=>by simp at hv) (fun hn=>absurd rfl hn)⟩
   . simp[af]at hm
 . refine⟨_,_,_,hm,?_⟩
   unfold iC
   split
   . cases hv
     exact .psl (fun _=>undef) rfl ⟨Nat.le_refl _,by simp⟩ (fun v hv=>by cases hv) (fun i v hv=>by simp at hv) (fun hn=>absurd rfl hn)
   . exact hv.mono (bC w) (fun _ _ h=>h)
theorem vx{k:List SV->List Nat->OpM}{r:SV}{ups:List (Nat × Option Chunk)}{nx:Nat}:∀ (ts:List TypeId) (cs:List SV) (us:List Value) (acc:List SV) (ys:List Nat) (rs:List Nat),LRel P ω w Im θ cs us->af h (xM P k ts cs acc ys)=some (r,ups,nx,rs)->
  ∃ cs' zs rs',af h (k (acc++cs') (ys++zs))=some (r,ups,nx,rs')/\LRel P ω w (au Im θ h zs) θ cs' us
 | [],[],us,acc,ys,rs,hl,hm=>by
  refine⟨[],[],rs,by simpa [xM]using hm,?_⟩
  exact hl.mono (bC w) (fun _ _ h=>h)
 | t :: ts,c :: cs,us,acc,ys,rs,hl,hm=>by
  cases us with
  | nil=>have:=hl.len;simp at this
  | cons u us=>
   simp only[xM]at hm
   obtain⟨c',zs,rs1,h1,h2⟩:=nT hr (hl.at_ 0 c u rfl rfl) hm
   have hl':LRel P ω w Im θ cs us:=⟨by have:=hl.len;simpa using this,fun i v u hv hu=>hl.at_ (i+1) v u (by simpa using hv) (by simpa using hu)⟩
   obtain⟨cs',zs',rs2,h3,h4⟩:=vx ts cs us _ _ rs1 hl' h1
   refine⟨c' :: cs',zs++zs',rs2,by simpa using h3,⟨by simpa using h4.len,fun i v u' hv hu=> ?_⟩⟩
   cases i with
   | zero=>simp at hv hu;subst hv;subst hu;exact h2.mono (eV w).1 (fun _ _ h=>h)
   | succ i=>exact(h4.at_ i v u' (by simpa using hv) (by simpa using hu)).mono (eV w).2 (fun _ _ h=>h)
 | [],_ :: _,_,_,_,_,_,hm=>by simp[xM,af]at hm
 | _ :: _,[],_,_,_,_,_,hm=>by simp[xM,af]at hm
theorem vy      {t:TypeId}{v:SV}{u:Value}{k:SV->List Nat->OpM}{r:SV}{ups:List (Nat × Option Chunk)}{nx:Nat}{rs:List Nat}(hv:VRel P ω w Im θ v u)(hm:af   h (GS   P t k v)=some (r,ups,nx,rs)):
  ∃ v' ys rs',af h (k v' ys)=some (r,ups,nx,rs')/\VRel P om0 w (au Im θ h ys) eG v' u/\expand P t v'=v'/\u.cells.size=P.cellsOf t/\tA P t v'=true:=by
 have fin:∀ (v':SV) (ys rs:List Nat),VRel P ω w (au Im θ h ys) θ v' u->af h (bif tA P t v'&&qx P t v' then k v' ys else .fail)=some (r,ups,nx,rs)->
   ∃ v' ys rs',af h (k v' ys)=some (r,ups,nx,rs')/\VRel P om0 w (au Im θ h ys) eG v' u/\expand P t v'=v'/\u.cells.size=P.cellsOf t/\tA P t v'=true:=by
  intro v' ys rs hv' hm
  cases hb:tA P t v'&&qx P t v' with
  | false=>simp[hb,af]at hm
  | true=>
   simp only[hb,cT]at hm
   simp only[bA]at hb
   obtain⟨h1,h2⟩:=rW (ω':=om0) (θ':=eG) hb.1 hv'
   exact⟨v',ys,rs,hm,h1,h2,vw hb.2 hv',hb.1⟩
 unfold GS at hm
 cases ha:aq P t with
 | true=>
  simp only[ha,cT]at hm
  split at hm
  . rename_i cs
    cases hv with
    | agg h1 h2=>
     rename_i us
     have hl:LRel P ω w Im θ cs us.toList:=⟨by simpa using h1,fun i v u hv hu=>h2 i v u hv (by simpa using hu)⟩
     obtain⟨cs',zs,rs',h3,h4⟩:=vx hr _ _ _ _ _ _ hl hm
     refine fin (.agg cs') zs rs' (.agg (by simpa using h4.len) (fun i v u hv hu=>h4.at_ i v u hv (by simpa using hu))) (by simpa using h3)
  . simp[af]at hm
 | false=>
  simp only[ha,cF]at hm
  obtain⟨c',ys,rs',h1,h2⟩:=nT hr hv hm
  exact fin c' ys rs' h2 h1
theorem pZ        {t:TypeId}{k:List SV->List Nat->OpM}{r:SV}{ups:List (Nat × Option Chunk)}{nx:Nat}:∀ (vs:List SV) (uf:Nat->Value) (acc:List SV) (ys rs:List Nat),(∀ (i:Nat) (v:SV),vs[i]? =some v->VRel P ω w Im θ v (uf i))->
  af h (k7 P t k vs acc ys)=some (r,ups,nx,rs)->∃ vs' zs rs',af h (k (acc++vs') (ys++zs))=some (r,ups,nx,rs')/\vs'.length=vs.length/\Elems P w (au Im θ h zs) t vs' uf
 | [],uf,acc,ys,rs,_,hm=>⟨[],[],rs,by simpa [k7]using hm,rfl,⟨(fun v hv=>by cases hv),(fun i v hv=>by simp at hv)⟩⟩
 | v :: vs,uf,acc,ys,rs,hv,hm=>by
  simp only[k7]at hm
  obtain⟨v',zs,rs1,h1,h2,h3,h4,-⟩:=vy hr (hv 0 v rfl) hm
  obtain⟨vs',zs',rs2,h5,h6,h7⟩:=pZ vs (fun i=>uf (i+1)) _ _ rs1 (fun i v hi=>hv (i+1) v (by simpa using hi)) h1
  refine⟨v' :: vs',zs++zs',rs2,by simpa using h5,by simp[h6],⟨fun x hx=> ?_,fun i x hx=> ?_⟩⟩
  . rcases List.mem_cons.1 hx with rfl | hx
    . exact h3
    . exact h7.fit x hx
  . cases i with
    | zero=>simp at hx;subst hx;exact⟨h2.mono (eV w).1 (fun _ _ h=>h),h4⟩
    | succ i=>
     obtain⟨g1,g2⟩:=h7.rel i x (by simpa using hx)
     exact⟨g1.mono (eV w).2 (fun _ _ h=>h),g2⟩
end
end Go.Am
namespace Go.Am
variable {P:Program} {ω:Nat->Value}
structure Src (P:Program) (w:World) (sz:Nat) (u:Value) (m:Nat) (news:List Value):Prop where
 len:∀ w':World,(Builtin.lenOf u).run P w'= .ok m w'
 cells:∀ w':World,w'.heap=w.heap->(Builtin.firstCells sz m u).run P w'= .ok news.toArray w'
 size:news.length=m * sz
theorem jY{w:World}{sz m cap:Nat}{a:Addr}{news:List Value}(hl:news.length=m * sz)(hc:∀ j u,news[j]? =some u->w.cell? (a.add j)=some u):Src P w sz (.slice (some a) m cap) m news where
 len _:=rfl
 cells w' hw:=run_firstCells_some w' sz m a m cap news hl (fun j u hj=>by
  have:=hc j u hj
  simp only[World.cell?]at this ⊢
  rw[hw];exact this)
 size:=hl
theorem ge{w:World}{sz cap:Nat}{p:Option Addr}:Src P w sz (.slice p 0 cap) 0 [] where
 len _:=rfl
 cells w' _:=by cases p <;> simp[Builtin.firstCells,loadCells,loadCellsFrom]
 size:=by simp
theorem uZ      {w:World}{Im:Nat->Prop}{θ:Th}{vs:List SV}{us:List Value}{t:TypeId}{off:Nat}{v:SV}(hl:LRel P ω w Im θ vs us)(h:dR    P t vs off=some v):
  ∃ u,VRel P ω w Im θ v u/\((aq P t=true/\u= .agg ((us.drop off).take (P.cellsOf t)).toArray/\off+P.cellsOf t<=us.length)\/(aq P t=false/\us[off]? =some u)):=by
 unfold dR at h
 cases hu:P.underlying t with
 | none=>simp[hu]at h
 | some d=>
  by_cases hd:aq P t=true
  . have h':∃ cs,en vs off (P.cellsOf t)=some cs/\v= .agg cs:=by
      simp only[hu]at h
      simp only[aq,hu]at hd
      cases d <;> simp at hd <;> (simp only at h;cases ht:en vs off (P.cellsOf t) <;> simp[ht]at h;exact⟨_,rfl,h.symm⟩)
    obtain⟨l,hcs,rfl⟩:=h'
    obtain⟨hlen,rfl⟩:=dZ _ _ _ _ hcs
    have hp:=hl.part off (P.cellsOf t)
    refine⟨.agg ((us.drop off).take (P.cellsOf t)).toArray,.agg (by rw[hp.len];simp) (fun i v u hv hu=>hp.at_ i v u hv (by simpa using hu)),.inl ⟨hd,rfl,by rw[<- hl.len];exact hlen⟩⟩
  . have hf:aq P t=false:=by simpa using hd
    have h':vs[off]? =some v:=by
     rw[<- fi]
     simp only[hu]at h
     simp only[aq,hu]at hf
     cases d <;> simp at hf <;> exact h
    have hlt:off < vs.length:=by
     rcases Nat.lt_or_ge off vs.length with h1 | h1
     . exact h1
     . simp[List.getElem?_eq_none h1]at h'
    have hlt':off < us.length:=by rw[<- hl.len];exact hlt
    exact⟨us[off],hl.at_ off v _ h' (by simp[hlt']),.inr ⟨hf,by simp[hlt']⟩⟩
theorem nP         {t:TypeId}{vs:List SV}:∀ (m off:Nat) (l:List SV),iH     P t vs off m=some l->l.length=m/\∀ i v,l[i]? =some v->dR    P t vs (off+i * P.cellsOf t)=some v
 | 0,off,l,h=>by simp[iH]at h;subst h;exact⟨rfl,fun i v hv=>by simp at hv⟩
 | m+1,off,l,h=>by
  simp only[iH]at h
  cases h1:dR P t vs off with
  | none=>simp[h1]at h
  | some v=>
   cases h2:iH P t vs (off+P.cellsOf t) m with
   | none=>simp[h1,h2]at h
   | some l'=>
    simp only[h1,h2,sJ]at h
    subst h
    obtain⟨g1,g2⟩:=nP m _ l' h2
    refine⟨by simp[g1],fun i x hx=> ?_⟩
    cases i with
    | zero=>simp at hx;subst hx;simpa using h1
    | succ i=>
     have:=g2 i x (by simpa using hx)
     rw[Nat.add_mul,<- Nat.add_assoc,Nat.add_right_comm]
     simpa [Nat.add_assoc,Nat.add_comm,Nat.add_left_comm]using this
section
variable {w:World} {Im:Nat->Prop} {θ:Th} {h:HpF} (hr:HRel P ω w Im θ h)
include hr
theorem nQ         {t:TypeId}(hpl:iI     P t=true){vs:List SV}{us:List Value}{off m:Nat}{l:List SV}(hl:LRel P ω w Im θ vs us)(hp:iH     P t vs off m=some l){k:List SV->List Nat->OpM}{r:SV}{ups:List (Nat × Option Chunk)}{nx:Nat}{rs:List Nat}
  (hm:af h (k7 P t k l [] [])=some (r,ups,nx,rs)):
  ∃ es zs rs' uf,af h (k es zs)=some (r,ups,nx,rs')/\es.length=m/\Elems P w (au Im θ h zs) t es uf/\∀ i,i < m->∀ (d:Nat) (c:Value),(uf i).cells[d]? =some c->us[off+i * P.cellsOf t+d]? =some c:=by
 obtain⟨hlen,hat⟩:=nP m off l hp
 have key:∀ i,∃ u,∀ v,l[i]? =some v->VRel P ω w Im θ v u/\((aq P t=true/\u= .agg ((us.drop (off+i * P.cellsOf t)).take (P.cellsOf t)).toArray/\off+i * P.cellsOf t+P.cellsOf t<=us.length)\/(aq P t=false/\us[off+i * P.cellsOf t]? =some u)):=by
  intro i
  cases hi:l[i]? with
  | none=>exact⟨undef,fun v hv=>by cases hv⟩
  | some v=>
   obtain⟨u,hu⟩:=uZ hl (hat i v hi)
   exact⟨u,fun v' hv'=>by cases hv';exact hu⟩
 obtain⟨uf,huf⟩:=Classical.axiomOfChoice key
 obtain⟨es,zs,rs',h1,h2,h3⟩:=pZ hr l uf [] [] rs (fun i v hv=>(huf i v hv).1) hm
 refine⟨es,zs,rs',uf,by simpa using h1,by rw[h2,hlen],h3,fun i hi d c hd=> ?_⟩
 have hi':i < l.length:=by omega
 have hv:l[i]? =some l[i]:=by simp[hi']
 obtain⟨hrel,hcase⟩:=huf i l[i] hv
 rcases hcase with ⟨_,hu,hle⟩ | ⟨ha,hu⟩
 . rw[hu]at hd
   simp only[Value.cells,List.getElem?_toArray,List.getElem?_take,List.getElem?_drop]at hd
   split at hd
   . exact hd
   . cases hd
 · -- a single cell: its size tells
   have hsz := (h3.rel i es[i] (by have : i < es.length := by omega
                                   simp[this])).2
   have hrel2 := (h3.rel i es[i] (by have : i < es.length := by omega
                                     simp[this])).1
   have hex:=h3.fit es[i] (List.getElem_mem (by omega))
   have hone:(uf i).cells= #[uf i]:=(gE hpl hex hrel2).2 ha
   rw[hone]at hd
   cases d with
   | zero=>simp at hd;subst hd;simpa using hu
   | succ d=>simp at hd
theorem iu        {e:TypeId}(hpl:iI     P e=true){x:SV}{u:Value}(hv:VRel P ω w Im θ x u){k:List SV->List Nat->OpM}{r:SV}{ups:List (Nat × Option Chunk)}{nx:Nat}{rs:List Nat}(hm:af   h (gl     P e k x)=some (r,ups,nx,rs)):
  ∃ es zs rs' uf,af h (k es zs)=some (r,ups,nx,rs')/\Elems P w (au Im θ h zs) e es uf/\Src P w (P.cellsOf e) u es.length (bp uf es.length):=by
 have pcase:∀ (e':TypeId) (es:List SV),VRel P ω w Im θ (.psl e' es) u->af   h (bif Nat.beq e e' then k es []else .fail)=some (r,ups,nx,rs)->∃ es zs rs' uf,af   h (k es zs)=some (r,ups,nx,rs')/\Elems P w (au       Im θ h zs) e es uf/\Src P w (P.cellsOf e) u es.length (bp   uf es.length):=by
  clear hm hv
  intro e' es hv hm
  cases hb:Nat.beq e e' with
  | false=>simp[hb,af]at hm
  | true=>
   simp only[hb,cT]at hm
   have:e=e':=nE hb
   subst this
   cases hv with
   | psl us h1 h0 h2 h3 h4=>
    rename_i p n cap
    subst h1
    by_cases hn:es.length=0
    . have:es=[]:=List.eq_nil_of_length_eq_zero hn
      subst this
      exact⟨[],[],rs,fun _=>undef,hm,Elems.nil,ge⟩
    . obtain⟨a,off,rfl,ha,hc⟩:=h4 hn
      have hel:Elems P w (au Im θ h []) e es us:=⟨h2,fun i v hv=>⟨(h3 i v hv).mono (bC w) (fun _ _ h=>h),(hc i (by
       rcases Nat.lt_or_ge i es.length with h5 | h5
       . exact h5
       . simp[List.getElem?_eq_none h5]at hv)).1⟩⟩
      refine⟨es,[],rs,us,hm,hel,jY (cO _ hel.size) (j7 hel.size (fun i hi d c hd=> ?_))⟩
      have:=(hc i hi).2 d c hd
      rw[bv]
      rw[Nat.add_assoc]at this
      exact this
 unfold gl at hm
 split at hm
 · -- a slice of a row
   rename_i y sz off m
   simp only[af]at hm
   cases hy:h y with
   | none=>simp[hy]at hm
   | some c=>
    simp only[hy]at hm
    cases c with
    | cells T cs=>
     simp only[]at hm
     cases hb:Nat.beq sz (P.cellsOf e)with
     | false=>simp[hb,af]at hm
     | true=>
      simp only[hb,cT]at hm
      have hsz:sz=P.cellsOf e:=nE hb
      subst hsz
      cases hp:iH P e cs off m with
      | none=>simp[hp,af]at hm
      | some l=>
       simp only[hp]at hm
       split at hm
       . rename_i r0 ups0 nx0 rs0 heq
         simp only[sJ,pJ]at hm
         obtain⟨rfl,rfl,rfl,rfl⟩:=hm
         obtain⟨b,ca,fr,h1,h2,h3,h4⟩:=hr.at_ y _ hy
         obtain⟨es,zs,rs',uf,g1,g2,g3,g4⟩:=nQ hr hpl h4 hp heq
         refine⟨es,zs,rs',uf,g1,g3,?_⟩
         have gsz:=g3.size
         rw[g2]at gsz ⊢
         cases hv with
         | sl hθ k1 k2=>
          rw[h1]at hθ
          simp only[sJ,pJ]at hθ
          obtain⟨rfl,rfl⟩:=hθ
          refine jY (cO _ gsz) (j7 gsz (fun i hi d c hd=> ?_))
          have:=g4 i hi d c hd
          rw[bv]
          simp only[World.cell?,h2]
          rw[Nat.add_assoc]at this
          simpa using this
         | slnil=>exact ge
       . cases hm
    | seq=>simp[af]at hm
    | loopr=>simp[af]at hm
    | mpc=>simp[af]at hm
    | mpb=>simp[af]at hm
 · -- a list that has grown
   rename_i y sz l m
   simp only[af]at hm
   cases hy:h y with
   | none=>simp[hy]at hm
   | some c=>
    simp only[hy]at hm
    cases c with
    | seq e' es=>
     simp only[]at hm
     cases hb:Nat.beq e e'&&Nat.beq sz (P.cellsOf e)with
     | false=>simp[hb,af]at hm
     | true=>
      simp only[hb,cT]at hm
      simp only[bA]at hb
      have:e=e':=nE hb.1
      subst this
      have hsz:sz=P.cellsOf e:=nE hb.2
      subst hsz
      have main:∀ (hlm:l+m<=es.length),∃ uf,Elems P w (au Im θ h []) e ((es.drop l).take m) uf/\Src P w (P.cellsOf e) u ((es.drop l).take m).length (bp uf ((es.drop l).take m).length):=by
       intro hlm
       have hlen:((es.drop l).take m).length=m:=by simp;omega
       rcases hr.at_ y _ hy with ⟨rfl,h3⟩ | ⟨b,N,cs,T,fr,us,h3,h4,h5,h6,h7,h8,h9⟩
       . have hm0:m=0:=by simp at hlm;omega
         subst hm0
         cases hv with
         | qs hθ _ _=>rw[h3]at hθ;cases hθ
         | qsnil _=>exact⟨fun _=>undef,by simpa using Elems.nil,by simpa [bp]using ge⟩
       . have hel:Elems P w (au Im θ h []) e es us:=⟨h8,fun i v hv=>⟨(h9 i v hv).1.mono (bC w) (fun _ _ h=>h),(h9 i v hv).2.1⟩⟩
         refine⟨_,hel.part l m,?_⟩
         have hpt:=hel.part l m
         have hsz:=hpt.size
         rw[hlen]at hsz
         rw[hlen]
         cases hv with
         | qsnil h0=>subst h0;simpa [bp]using ge
         | qs hθ k1 k2=>
          rw[h3]at hθ
          simp only[sJ,pJ]at hθ
          obtain⟨rfl,rfl⟩:=hθ
          refine jY (cO _ hsz) (j7 hsz (fun i hi d c hd=> ?_))
          have hli:l+i < es.length:=by omega
          have:=(h9 (l+i) es[l+i] (by simp[hli])).2.2 d c hd
          rw[bv]
          simp only[World.cell?,h4]
          have e1:l * P.cellsOf e+(i * P.cellsOf e+d)=(l+i) * P.cellsOf e+d:=by rw[Nat.add_mul];omega
          rw[e1]
          simpa using this
      simp only[af]at hm
      split at hm
      . rename_i r0 ups0 nx0 rs0 heq
        simp only[sJ,pJ]at hm
        obtain⟨rfl,rfl,rfl,rfl⟩:=hm
        split at heq
        . rename_i hc
          simp only[bA,decide_eq_true_eq]at hc
          obtain⟨rfl,rfl⟩:=hc
          obtain⟨uf,m1,m2⟩:=main (by omega)
          simp only[List.drop_zero,List.take_length]at m1 m2
          exact⟨es,[],_,uf,heq,m1,m2⟩
        . split at heq
          . rename_i hc
            simp only[decide_eq_true_eq]at hc
            obtain⟨uf,m1,m2⟩:=main hc
            exact⟨_,[],_,uf,heq,m1,m2⟩
          . simp at heq
      . cases hm
    | cells=>simp[af]at hm
    | loopr=>simp[af]at hm
    | mpc=>simp[af]at hm
    | mpb=>simp[af]at hm
 . exact pcase _ _ hv hm
 . cases hv with
   | pnn h=>exact pcase _ _ h hm
 . cases hv
   exact⟨[],[],rs,fun _=>undef,hm,Elems.nil,ge⟩
 . cases hv
   exact⟨[],[],rs,fun _=>undef,hm,Elems.nil,ge⟩
 . rename_i s
   split at hm
   . rename_i hu
     cases hb:Nat.beq (P.cellsOf e) 1 with
     | false=>simp[hb,af]at hm
     | true=>
      simp only[hb,cT]at hm
      have h1:P.cellsOf e=1:=nE hb
      cases hv with
      | str hs=>
       rename_i bs
       have hagg:aq P e=false:=by simp[aq,hu]
       have hlen:(s.map k9).length=bs.size:=by simp[d6 hs]
       let uf:Nat->Value:=fun i=>.int .u8 ((s.getD i 0).toNat)
       have hel:Elems P w (au Im θ h []) e (s.map k9) uf:=by
        refine⟨fun v hv=> ?_,fun i v hv=> ?_⟩
        . obtain⟨b,_,rfl⟩:=List.mem_map.1 hv
          unfold expand
          rw[hagg]
          simp only[cF,aS,hu,k9,asI]
        . simp only[List.getElem?_map,Option.map_eq_some_iff]at hv
          obtain⟨b,hb,rfl⟩:=hv
          refine⟨?_,by simp[uf,Value.cells,h1]⟩
          have:uf i= .int .u8 b.toNat:=by simp[uf,gD0,hb]
          rw[this];exact .int
       refine⟨_,[],rs,uf,hm,hel,?_⟩
       have hfl:∀ m,m<=s.length->bp uf m=(s.take m).map (fun b=>Value.int .u8 b.toNat):=by
        intro m
        induction m with
        | zero=>intro _;simp[bp]
        | succ m ih=>
         intro hm
         have hms:m < s.length:=by omega
         simp only[bp]
         rw[ih (by omega),List.take_succ_eq_append_getElem hms,List.map_append]
         congr 1
         simp[uf,Value.cells,gD0,hms]
       refine⟨fun w'=> ?_,fun w' _=> ?_,?_⟩
       . simp[Builtin.lenOf,d6 hs]
       . simp only[Builtin.firstCells,List.length_map]
         rw[hfl _ (Nat.le_refl _),List.take_length]
         have:(bs.extract 0 s.length).data=s.toArray:=by
          rw[<- d6 hs]
          subst hs
          simp
         rw[this]
         simp
       . rw[cO _ hel.size]
   . simp[af]at hm
 . simp[af]at hm
end
end Go.Am
namespace Go.Am
variable {P:Program} {ω:Nat->Value}
theorem jv{t:TypeId}(h:eC P t=true):(∃ e,P.underlying t=some (.slice e))\/P.underlying t=some .string:=by
 unfold eC at h
 split at h
 . rename_i e hu;exact .inl ⟨e,hu⟩
 . rename_i hu;exact .inr hu
 . cases h
section
variable {w:World} {t t2 e:TypeId} {i:TypeInfo} {z:Value} {tys:Array TypeId} {args:Array Value} {ty:TypeId}
theorem r6(h0:tys[0]? =some t)(h1:tys[1]? =some t2)(ht:P.underlying t=some (.slice e))(ht2:eC P t2=true)(hi:P.info? e=some i){a:Addr}{n cap m:Nat}{x:Value}{news:List Value}
  (a0:args[0]? =some (.slice (some a) n cap)) (a1:args[1]? =some x) (hs:Src P w i.size x m news) (hle:n+m<=cap) {w':World} (hst:(storeCells (a.add (n * i.size)) news).run P w= .ok () w'):
  (Builtin.append_ tys ty args).run P w= .ok (.slice (some a) (n+m) cap) w':=by
 have hl:=hs.len w
 have hc:=hs.cells w rfl
 rcases jv ht2 with ⟨e2,hu⟩ | hu <;>
  simp[Builtin.append_,h0,h1,a0,a1,run_underlying ht,run_underlying hu,sizeOf,typeInfo,hi,hl,hle,hc,hst]
theorem vD(h0:tys[0]? =some t)(h1:tys[1]? =some t2)(ht:P.underlying t=some (.slice e))(ht2:eC P t2=true)(hi:P.info? e=some i){n cap m:Nat}{x:Value}{news:List Value}
  (a0:args[0]? =some (.slice none n cap)) (a1:args[1]? =some x) (hs:Src P w i.size x m news) (hle:n+m<=cap):
  (Builtin.append_ tys ty args).run P w= .ok (.slice none (n+m) cap) w:=by
 have hl:=hs.len w
 have hc:=hs.cells w rfl
 rcases jv ht2 with ⟨e2,hu⟩ | hu <;>
  simp[Builtin.append_,h0,h1,a0,a1,run_underlying ht,run_underlying hu,sizeOf,typeInfo,hi,hl,hle,hc]
theorem xr(h0:tys[0]? =some t)(h1:tys[1]? =some t2)(ht:P.underlying t=some (.slice e))(ht2:eC P t2=true)(hi:P.info? e=some i)(hz:i.zero=some z){p:Option Addr}{n cap m:Nat}{x:Value}{news olds:List Value}
  (a0:args[0]? =some (.slice p n cap)) (a1:args[1]? =some x) (hs:Src P w i.size x m news) (ho:∀ w':World,w'.heap=w.heap->(Builtin.firstCells i.size n (.slice p n cap)).run P w'= .ok olds.toArray w') (hgt:cap < n+m)
  (h63:n+m<=9223372036854775807) (hb:(n+m) * i.bytes<=140737488355328):
  (Builtin.append_ tys ty args).run P w= .ok (.slice (some ⟨w.heap.size,0,none⟩) (n+m) (grownCap w (n+m) cap e))
    (w.drew.alloc (.cells (olds.toArray++news.toArray++Builtin.zeroCells z.cells (grownCap w (n+m) cap e - (n+m))) e)):=by
 have hl:=hs.len w
 have hc:=hs.cells w.drew rfl
 have hco:=ho w.drew rfl
 have hn:¬ (n+m<=cap):=by omega
 have h63':¬ (9223372036854775807 < ((n:Int)+(m:Int))):=by omega
 have hfit:=growslice_fits (need:=n+m) (old:=cap) (bytes:=i.bytes) hgt hb
 have h48':¬ (281474976710656 < Builtin.nextslicecap (n+m) cap * i.bytes):=by omega
 rcases jv ht2 with ⟨e2,hu⟩ | hu <;>
  simp[Builtin.append_,h0,h1,a0,a1,run_underlying ht,run_underlying hu,sizeOf,typeInfo,zeroValue,hi,hz,hl,hn,h63',h48',Question.forced,hc,hco,newRow,grownCap] <;> (congr 2;apply Array.ext';simp)
inductive Dst (P:Program) (w:World) (θ:Th) (h:HpF) (e:TypeId) (dead:List Nat) (n:Nat) (uf:Nat->Value):Value->Prop
 | none {p:Option Addr}:n=0->Dst P w θ h e dead n uf (.slice p 0 0)
 | row {b cap y:Nat} {c0:Chunk} {N':Nat} {cs:Array Value} {fr:Nat × Nat}:y ∈ dead->h y=some c0->θ y=some (b,N')->w.heap[b]? =some (.cells cs e fr)->Bq cs.size fr->n<=cap->cap * P.cellsOf e<=cs.size->
   (∀ i,i < n->∀ (d:Nat) (c:Value),(uf i).cells[d]? =some c->cs[i * P.cellsOf e+d]? =some c)->Dst P w θ h e dead n uf (.slice (some ⟨b,0,none⟩) n cap)
theorem nV:∀ (l m:List Nat),ny l m=true->∀ x ∈ l,x ∉ m
 | [],_,_,x,hx=>by cases hx
 | y :: l,m,h,x,hx=>by
  simp only[ny,bA,Bool.not_eq_true']at h
  rcases List.mem_cons.1 hx with rfl | hx
  . intro hm;rw[(j6 _ _).2 hm]at h;exact absurd h.1 (by simp)
  . exact nV l m h.2 x hx
theorem nW{w:World}{Im:Nat->Prop}{e:TypeId}{es fs:List SV}{us vs:Nat->Value}(h:Elems P w Im e es us)(h':Elems P w Im e fs vs){cells:List Value}
  (hc:∀ (j:Nat) (u:Value),(bp us es.length++bp vs fs.length)[j]? =some u->cells[j]? =some u):∀ (i:Nat) (v:SV),(es++fs)[i]? =some v->
   ∀ (d:Nat) (c:Value),((fun i=>if i < es.length then us i else vs (i - es.length)) i).cells[d]? =some c->cells[i * P.cellsOf e+d]? =some c:=by
 intro i v hv d c hd
 have happ:=h.append h'
 have hi:i < (es++fs).length:=by
  rcases Nat.lt_or_ge i (es++fs).length with h1 | h1
  . exact h1
  . simp[List.getElem?_eq_none h1]at hv
 have hd':d < P.cellsOf e:=by
  rw[<- happ.size i hi]
  rcases Nat.lt_or_ge d ((fun i=>if i < es.length then us i else vs (i - es.length)) i).cells.size with h1 | h1
  . exact h1
  . simp[Array.getElem?_eq_none h1]at hd
 refine hc _ c ?_
 rw[<- vu us vs es.length fs.length,<- lA0,pW _ happ.size i d hi hd']
 exact hd
theorem Dk      {w:World}{Im:Nat->Prop}{θ:Th}{h:HpF}(hr:HRel P ω w Im θ h){nx:Nat}(hθ:θ nx=none)(hnx:h nx=none){dead ys:List Nat}(hap:ny     dead ys=true){es fs:List SV}{us vs:Nat->Value}
  (hes:Elems P w (au Im θ h ys) e es us) (hfs:Elems P w (au Im θ h ys) e fs vs) (hpl:iI P e=true)
  (h0:tys[0]? =some t) (h1:tys[1]? =some t2) (ht:P.underlying t=some (.slice e)) (ht2:eC P t2=true) (hi:P.info? e=some i) (hz:i.zero=some z) (hzs:z.cells.size=P.cellsOf e)
  {s x:Value} (a0:args[0]? =some s) (a1:args[1]? =some x) (hd:Dst P w θ h e dead es.length us s) (hsrc:Src P w (P.cellsOf e) x fs.length (bp vs fs.length))
  (h63:es.length+fs.length<=9223372036854775807) (hb:(es.length+fs.length) * i.bytes<=140737488355328):
  ∃ v' w' θ',(Builtin.append_ tys ty args).run P w= .ok v' w'/\Ext (fun x=>nx<=x/\x < nx+1) h w Im θ (ad (dh (dead++ys)++[(nx,some (.seq e (es++fs)))]) h) w' (au Im θ h ys) θ'/\
   HRel P ω w' (au Im θ h ys) θ' (ad (dh (dead++ys)++[(nx,some (.seq e (es++fs)))]) h)/\VRel P ω w' (au Im θ h ys) θ' (.qs nx (P.cellsOf e) 0 (es.length+fs.length)) v':=by
 have hsize:i.size=P.cellsOf e:=by simp[Program.cellsOf,hi]
 have hsub:∀ y ∈ ys,y ∈ dead++ys:=fun y hy=>List.mem_append.2 (.inr hy)
 have happ:=hes.append hfs
 have hfl:=cO (us:=us) es.length hes.size
 have hgl:=cO (us:=vs) fs.length hfs.size
 have hones:∀ u ∈ bp vs fs.length,u.oneCell'=true:=by
  intro u hu
  obtain⟨k,hk,huk⟩:=lZ _ u hu
  have hrel:=(hfs.rel k fs[k] (by simp[hk])).1
  exact(gE hpl (hfs.fit _ (List.getElem_mem hk)) hrel).1 u huk
 -- out of place
 have out:∀ {p:Option Addr} {cap:Nat},s= .slice p es.length cap->(∀ w':World,w'.heap=w.heap->(Builtin.firstCells i.size es.length (.slice p es.length cap)).run P w'= .ok (bp   us es.length).toArray w')->cap < es.length+fs.length->
   ∃ v' w' θ',(Builtin.append_ tys ty args).run P w= .ok v' w'/\Ext (fun x=>nx<=x/\x < nx+1) h w Im θ (ad (dh (dead++ys)++[(nx,some (.seq e (es++fs)))]) h) w' (au Im θ h ys) θ'/\
    HRel P ω w' (au Im θ h ys) θ' (ad (dh (dead++ys)++[(nx,some (.seq e (es++fs)))]) h)/\VRel P ω w' (au Im θ h ys) θ' (.qs nx (P.cellsOf e) 0 (es.length+fs.length)) v':=by
  intro p cap hs ho hgt
  subst hs
  have hge:=grownCap_ge w (es.length+fs.length) cap e
  have hrun:=xr (args:=args) (ty:=ty) h0 h1 ht ht2 hi hz a0 a1 (by rw[hsize];exact hsrc) ho hgt h63 hb
  generalize hcells:((bp us es.length).toArray++(bp vs fs.length).toArray++Builtin.zeroCells z.cells (grownCap w (es.length+fs.length) cap e - (es.length+fs.length)))=cells at hrun
  have hcs:cells.size=grownCap w (es.length+fs.length) cap e * P.cellsOf e:=by
   rw[<- hcells]
   simp only[Array.size_append,List.size_toArray,hfl,hgl,size_zeroCells,hzs,<- Nat.add_mul]
   congr 1;omega
  obtain⟨θ',hE,hH,hn⟩:=nf        hr hθ hnx hsub (ds:=dead++ys) (w':=w.drew.alloc (.cells cells e)) (b:=w.heap.size) (N:=cells.size) (.inl ⟨Nat.le_refl _,by simp⟩) (by simp) (fun d _ hdl=>dl        w.drew _ d hdl) rfl rfl rfl (.seq e (es++fs)) (fun θ' g1 g2 g3=>by
   refine .inr ⟨w.heap.size,cells.size,cells,e,(0,0),_,g1,ef w.drew _,fun i _ hh=>by omega,⟨rfl,rfl⟩,?_,happ.fit,fun i v hv=>⟨((happ.mono g3).rel i v hv).1,(happ.rel i v hv).2,?_⟩⟩
   . rw[hcs,lA0];exact Nat.mul_le_mul_right _ hge
   . have:=nW          hes hfs (cells:=cells.toList) (fun j u hj=>by
       rw[<- hcells]
       simp only[Array.toList_append,aA]
       rw[<- aA,List.getElem?_append_left]
       . exact hj
       . rcases Nat.lt_or_ge j (bp us es.length++bp vs fs.length).length with h3 | h3
         . exact h3
         . simp[List.getElem?_eq_none h3]at hj) i v hv
     intro d c hd
     have:=this d c hd
     simpa using this)
  refine⟨_,_,θ',hrun,hE,hH,?_⟩
  have:=VRel'.qs (P:=P) (ω:=ω) (w:=w.drew.alloc (.cells cells e)) (Im:=au Im θ h ys) (θ:=θ') (x:=nx) (sz:=P.cellsOf e) (l:=0) (n:=es.length+fs.length) (cap:=grownCap w (es.length+fs.length) cap e) hn (by rw[hcs];simp) hge
  simpa using this
 cases hd with
 | none hn0=>
  rename_i p
  have hes0:es=[]:=List.eq_nil_of_length_eq_zero hn0
  subst hes0
  by_cases hm:fs.length=0
  . have hfs0:fs=[]:=List.eq_nil_of_length_eq_zero hm
    subst hfs0
    obtain⟨hE,hH⟩:=Ay hr hθ hsub e (ds:=dead++ys)
    refine⟨.slice p 0 0,w,θ,?_,by simpa using hE,by simpa using hH,.qsnil (by simp)⟩
    cases p with
    | none=>exact vD h0 h1 ht ht2 hi a0 a1 (by rw[hsize];exact hsrc) (by simp)
    | some a=>exact r6 h0 h1 ht ht2 hi a0 a1 (by rw[hsize];exact hsrc) (by simp) (w':=w) (by simp[bp,storeCells])
  . exact out (p:=p) (cap:=0) rfl (fun w' _=>(ge (P:=P) (w:=w) (sz:=i.size) (cap:=0) (p:=p)).cells w' ‹_›) (by simp;omega)
 | row hy hyh hyθ hheap hfine hle hcap hcells=>
  rename_i b cap y c0 N' cs fr
  have hsrc0:Src P w i.size (.slice (some ⟨b,0,none⟩) es.length cap) es.length (bp us es.length):=by
   refine jY (by rw[hsize];exact hfl) (j7 hes.size (fun i hi d c hd=> ?_))
   rw[bv]
   simp only[World.cell?,hheap,Nat.zero_add]
   simpa using hcells i hi d c hd
  by_cases hfit:es.length+fs.length<=cap
  . have hroom:es.length * P.cellsOf e+(bp   vs fs.length).length<=cs.size:=by
      rw[hgl,<- Nat.add_mul]
      exact Nat.le_trans (Nat.mul_le_mul_right _ hfit) hcap
    have hst:=bB P b (es.length * P.cellsOf e) e fr (bp vs fs.length) 0 cs w hheap hfine (by simpa using hroom) hones
    simp only[Nat.add_zero]at hst
    have hrun:=r6 (args:=args) (ty:=ty) h0 h1 ht ht2 hi a0 a1 (by rw[hsize];exact hsrc) hfit (w':=w.setRow b (cs.toList.take (es.length * P.cellsOf e)++bp vs fs.length++cs.toList.drop (es.length * P.cellsOf e+(bp vs fs.length).length)).toArray) (by rw[bv,hsize,Nat.zero_add];exact hst)
    generalize hcells':(cs.toList.take (es.length * P.cellsOf e)++bp vs fs.length++cs.toList.drop (es.length * P.cellsOf e+(bp vs fs.length).length)).toArray=cells at hrun
    have hcs:cells.size=cs.size:=by
     rw[<- hcells']
     simp only[List.size_toArray,lA0,List.length_take,List.length_drop,Array.length_toList]
     omega
    have hyys:y ∉ ys:=nV _ _ hap y hy
    obtain⟨θ',hE,hH,hn⟩:=nf        hr hθ hnx hsub (ds:=dead++ys) (w':=w.setRow b cells) (b:=b) (N:=cells.size) (.inr ⟨y,c0,N',List.mem_append.2 (.inl hy),hyys,hyh,hyθ⟩) (by simp[World.setRow]) (fun d hd _=>setRow_other w b d _ hd) rfl rfl rfl (.seq e (es++fs)) (fun θ' g1 g2 g3=>by
     refine .inr ⟨b,cells.size,cells,e,fr,_,g1,setRow_heap w b cs _ e fr hheap,by rw[hcs];exact hfine,⟨rfl,rfl⟩,?_,happ.fit,fun i v hv=>⟨((happ.mono g3).rel i v hv).1,(happ.rel i v hv).2,?_⟩⟩
     . rw[hcs,lA0];exact Nat.le_trans (Nat.mul_le_mul_right _ hfit) hcap
     . have:=nW          hes hfs (cells:=cells.toList) (fun j u hj=>by
         rw[<- hcells']
         simp only[]
         have htake:cs.toList.take (es.length * P.cellsOf e)=bp us es.length:=by
          apply List.ext_getElem?
          intro k
          by_cases hk:k < es.length * P.cellsOf e
          . rw[List.getElem?_take,if_pos hk]
            have hk2:k < (bp us es.length).length:=by rw[hfl];exact hk
            have e1:(bp us es.length)[k]? =some (bp us es.length)[k]:=by simp[hk2]
            rw[e1]
            have:=j7 (us:=us) (m:=es.length) hes.size (at_:=fun j=>cs[j]?) (fun i hi d c hd=>hcells i hi d c hd) k _ e1
            simpa using this
          . rw[List.getElem?_take,if_neg hk,List.getElem?_eq_none (by rw[hfl];omega)]
         rw[htake,List.getElem?_append_left]
         . exact hj
         . rcases Nat.lt_or_ge j (bp us es.length++bp vs fs.length).length with h3 | h3
           . exact h3
           . simp[List.getElem?_eq_none h3]at hj) i v hv
       intro d c hd
       have:=this d c hd
       simpa using this)
    refine⟨_,_,θ',hrun,hE,hH,?_⟩
    have:=VRel'.qs (P:=P) (ω:=ω) (w:=w.setRow b cells) (Im:=au Im θ h ys) (θ:=θ') (x:=nx) (sz:=P.cellsOf e) (l:=0) (n:=es.length+fs.length) (cap:=cap) hn (by rw[hcs];simpa using hcap) hfit
    simpa using this
  . exact out (p:=some ⟨b,0,none⟩) (cap:=cap) rfl (fun w' hw=>hsrc0.cells w' hw) (by omega)
end
end Go.Am
namespace Go.Am
variable {P:Program} {ω:Nat->Value}
theorem jn      {h:HpF}{n:Nat}:∀ {m:OpM} {rs0:List Nat} {r:SV} {ups:List (Nat × Option Chunk)} {nx:Nat} {rs:List Nat},af   h (qC   n m rs0)=some (r,ups,nx,rs)->
  af h m=some (r,ups,nx,rs)/\n<=nx/\∀ p ∈ ups,p.1 ∈ rs0\/p.1 ∈ rs\/(n<=p.1/\p.1 < nx)
 | .done r0 ups0 nx0,rs0,r,ups,nx,rs,hm=>by
  simp only[qC]at hm
  cases hb:Nat.ble n nx0&&qB rs0 n nx0 ups0 with
  | false=>simp[hb,af]at hm
  | true=>
   simp only[hb,cT]at hm
   obtain⟨rfl,rfl,rfl,rfl⟩:=ai hm
   simp only[bA]at hb
   refine⟨rfl,by have:=hb.1;rwa [Nat.ble_eq]at this,fun p hp=> ?_⟩
   have key:∀ (l:List (Nat × Option Chunk)),qB rs0 n nx0 l=true->∀ p ∈ l,p.1 ∈ rs0\/(n<=p.1/\p.1 < nx0):=by
    intro l
    induction l with
    | nil=>intro _ p hp;cases hp
    | cons q l ih=>
     obtain⟨y,c⟩:=q
     intro hk p hp
     simp only[qB,bA,Bool.or_eq_true]at hk
     rcases List.mem_cons.1 hp with rfl | hp
     . rcases hk.1 with h1 | h1
       . exact .inl ((j6 _ _).1 h1)
       . rw[Nat.ble_eq,bL]at h1;exact .inr h1
     . exact ih hk.2 p hp
   rcases key _ hb.2 p hp with h1 | h1
   . exact .inl h1
   . exact .inr (.inr h1)
 | .get x k,rs0,r,ups,nx,rs,hm=>by
  simp only[qC,af]at hm ⊢
  cases hx:h x with
  | none=>simp[hx]at hm
  | some c=>
   simp only[hx]at hm ⊢
   cases hk:af h (qC n (k c) (x :: rs0))with
   | none=>simp[hk]at hm
   | some q=>
    obtain⟨r1,ups1,nx1,rs1⟩:=q
    simp only[hk,sJ,pJ]at hm
    obtain⟨rfl,rfl,rfl,rfl⟩:=hm
    obtain⟨h1,h2,h3⟩:=jn hk
    refine⟨by rw[h1],h2,fun p hp=> ?_⟩
    rcases h3 p hp with h4 | h4 | h4
    . rcases List.mem_cons.1 h4 with h5 | h5
      . exact .inr (.inl (by simp[h5]))
      . exact .inl h5
    . exact .inr (.inl (by simp[h4]))
    . exact .inr (.inr h4)
 | .ite b t e,rs0,r,ups,nx,rs,hm=>by
  simp only[qC,af]at hm ⊢
  cases b
  . simp only[Bool.false_eq_true,if_false]at hm ⊢
    exact jn hm
  . simp only[if_true]at hm ⊢
    exact jn hm
 | .fail,_,_,_,_,_,hm=>by simp[qC,af]at hm
theorem aN{h:HpF}{b:Bool}{m:OpM}{res:SV × List (Nat × Option Chunk) × Nat × List Nat}(hm:af h (.ite b m .fail)=some res):b=true/\af h m=some res:=by
 cases b
 . simp[af]at hm
 . exact⟨rfl,by simpa [af]using hm⟩
theorem aB{h:HpF}{b:Bool}{m:OpM}{res:SV × List (Nat × Option Chunk) × Nat × List Nat}(hm:af h (bif b then m else .fail)=some res):b=true/\af h m=some res:=by
 cases b
 . simp[af]at hm
 . exact⟨rfl,hm⟩
theorem cV{h:HpF}{x:Nat}{k:Chunk->OpM}{r:SV}{ups:List (Nat × Option Chunk)}{nx:Nat}{rs:List Nat}(hm:af h (.get x k)=some (r,ups,nx,rs)):∃ c rs',h x=some c/\af h (k c)=some (r,ups,nx,rs')/\rs=x :: rs':=by
 simp only[af]at hm
 cases hx:h x with
 | none=>simp[hx]at hm
 | some c=>
  simp only[hx]at hm
  cases hk:af h (k c)with
  | none=>simp[hk]at hm
  | some q=>
   obtain⟨r1,ups1,nx1,rs1⟩:=q
   simp only[hk,sJ,pJ]at hm
   obtain⟨rfl,rfl,rfl,rfl⟩:=hm
   exact⟨c,rs1,rfl,hk,rfl⟩
section
variable {w:World} {Im:Nat->Prop} {θ:Th} {h:HpF}
/- Slicing. -/
theorem sP          {t:TypeId}{x:SV}{lo hi mx:Option SV}{nx nx':Nat}{r:SV}{ups:List (Nat × Option Chunk)}{rs:List Nat}(hr:HRel P ω w Im θ h)(hm:af   h (nv        P t x lo hi mx nx)=some (r,ups,nx',rs)){u:Value}{ul uh um:Option Value}(hx:VRel P ω w Im θ x u)
  (l1:lo=none->ul=none) (l2:∀ v,lo=some v->∃ x,ul=some x/\VRel P ω w Im θ v x) (i1:hi=none->uh=none) (i2:∀ v,hi=some v->∃ x,uh=some x/\VRel P ω w Im θ v x) (m1:mx=none->um=none):
  ∃ v,(Instr.sliceAt t u ul uh um).run P w= .ok v w/\VRel P ω w Im θ r v/\ups=[]/\nx'=nx:=by
 unfold nv at hm
 split at hm
 case h_2=>simp[af]at hm
 rename_i n e y off hu
 obtain rfl:=m1 rfl
 split at hm
 case h_2=>simp[af]at hm
 rename_i l hh hl' hh'
 obtain⟨c,rs',hy,hm,rfl⟩:=cV hm
 cases c with
 | cells T vs=>
  obtain⟨hk,hm⟩:=aB hm
  simp only[bA]at hk
  obtain⟨ie,hie⟩:=bo hk.1
  have hle:off+n * P.cellsOf e<=vs.length:=by have:=hk.2;rwa [Nat.ble_eq]at this
  have bl:=bX hl' l1 l2
  have bh:=bX hh' i1 i2
  unfold my at hm
  obtain⟨hc,hm⟩:=aN hm
  simp only[bA,decide_eq_true_eq]at hc
  obtain⟨⟨c1,c2⟩,c3⟩:=hc
  cases hx with
  | ptr hθ=>
   rename_i b N
   obtain⟨b',cs,fr,g1,g2,g3,g4⟩:=hr.at_ y _ hy
   rw[hθ]at g1
   simp only[sJ,pJ]at g1
   obtain⟨rfl,rfl⟩:=g1
   have hb:=jx (P:=P) (w:=w) bl bh c1 c2 c3
   simp only[af]at hm
   split at hm
   . rename_i hc2
     simp only[sJ,pJ]at hm
     obtain⟨rfl,rfl,rfl,_⟩:=hm
     simp only[Bool.or_eq_true,decide_eq_true_eq]at hc2
     refine⟨.slice (some ⟨b,off+l.toNat * P.cellsOf e,none⟩) (hh.toNat - l.toNat) (n - l.toNat),?_,.sl hθ ?_ (by omega),rfl,rfl⟩
     . by_cases hcl:n=l.toNat
       . have h0:l=0:=by omega
         subst h0
         have hc0:n=0:=by simpa using hcl
         subst hc0
         simp[Instr.sliceAt,run_underlying hu,hb,av hie,Instr.sureAddr]
       . simp[Instr.sliceAt,run_underlying hu,hb,av hie,hcl,bv,Instr.sureAddr]
     . have:(l.toNat+(n - l.toNat)) * P.cellsOf e=n * P.cellsOf e:=by congr 1;omega
       rw[Nat.add_assoc,<- Nat.add_mul,this];exact hle
   . rename_i hc2
     simp only[sJ,pJ]at hm
     obtain⟨rfl,rfl,rfl,_⟩:=hm
     simp only[Bool.or_eq_true,decide_eq_true_eq,not_or]at hc2
     have hnl:n=l.toNat:=by omega
     refine⟨.slice (some ⟨b,off,none⟩) 0 0,?_,.psl (fun _=>undef) rfl ⟨Nat.zero_le _,by simp⟩ (fun v hv=>by cases hv) (fun i v hv=>by simp at hv) (fun hn=>absurd rfl hn),rfl,rfl⟩
     have e0:hh.toNat - l.toNat=0:=by omega
     simp[Instr.sliceAt,run_underlying hu,hb,av hie,<- hnl,Instr.sureAddr]
     omega
 | seq=>simp[af]at hm
 | loopr=>simp[af]at hm
 | mpc=>simp[af]at hm
 | mpb=>simp[af]at hm
end
end Go.Am
namespace Go.Am
variable {P:Program} {ω:Nat->Value}
section
variable {w:World} {Im:Nat->Prop} {θ:Th} {h:HpF}
theorem Em      {e:TypeId}{es:List SV}{p:Option Addr}{n cap:Nat}{l k:Nat}(hv:VRel P ω w Im θ (.psl e es) (.slice p n cap))(hlk:l+k<=es.length):
  VRel P ω w Im θ (.psl e ((es.drop l).take k)) (.slice (if cap=l then p else p.map (·.add (l * P.cellsOf e))) k (cap - l)):=by
 cases hv with
 | psl us h1 h0 h2 h3 h4=>
  have hlen:((es.drop l).take k).length=k:=by simp;omega
  by_cases hk0:k=0
  . subst hk0
    simp only[List.take_zero]
    refine .psl (fun _=>undef) rfl ⟨Nat.zero_le _,fun hp=> ?_⟩ (fun v hv=>by cases hv) (fun i v hv=>by simp at hv) (fun hn=>absurd rfl hn)
    by_cases hcl:cap=l
    . omega
    . rw[if_neg hcl]at hp
      have:=h0.2 (by simpa using hp)
      omega
  . have hn0:n≠0:=by omega
    obtain⟨a,off,rfl,ha,hc⟩:=h4 hn0
    have hcl:¬ cap=l:=by omega
    rw[if_neg hcl]
    simp only[Option.map_some,bv]
    refine .psl (fun i=>us (l+i)) hlen ⟨by omega,by simp⟩ (fun v hv=>h2 v (List.mem_of_mem_drop (List.mem_of_mem_take hv))) (fun i v hv=> ?_) (fun _=>⟨a,_,rfl,ha,fun i hi=> ?_⟩)
    . rw[List.getElem?_take]at hv
      split at hv
      . rw[List.getElem?_drop]at hv;exact h3 _ v hv
      . cases hv
    . obtain⟨g1,g2⟩:=hc (l+i) (by omega)
      refine⟨g1,fun d c hd=> ?_⟩
      have:=g2 d c hd
      rw[Nat.add_mul]at this
      rw[<- this]
      congr 2
      omega
theorem oA{h:HpF}{b:Bool}{m m':OpM}{res:SV × List (Nat × Option Chunk) × Nat × List Nat}(hm:af h (.ite b m m')=some res):(b=true/\af h m=some res)\/(b=false/\af h m'=some res):=by
 cases b
 . exact .inr ⟨rfl,by simpa [af]using hm⟩
 . exact .inl ⟨rfl,by simpa [af]using hm⟩
theorem od{w:World}{n cap:Nat}{lu hu mu:Option Value}{l h k:Int}(hl:(lu=none/\l=0)\/∃ q,lu=some (.int q l))(hh:∃ q,hu=some (.int q h))(hm:∃ q,mu=some (.int q k))(h1:0<=l)(h2:l<=h)(h3:h<=k)(h4:k<=(n:Int))(h5:n<=cap):
  (Instr.sliceBounds true n cap lu hu mu).run P w= .ok (l.toNat,h.toNat,k.toNat) w:=by
 obtain⟨q1,rfl⟩:=hh
 obtain⟨q2,rfl⟩:=hm
 have a0:0<=k:=by omega
 have a1:0<=h:=by omega
 have a2:k<=(cap:Int):=by omega
 have a3:l<=(h.toNat:Int):=by omega
 have a4:h<=(k.toNat:Int):=by omega
 have a5:h<=max k 0:=by omega
 have a6:l<=max h 0:=by omega
 rcases hl with ⟨rfl,rfl⟩ | ⟨q3,rfl⟩ <;> simp[Instr.sliceBounds,Instr.sliceBound,asIntOf, *]
theorem A4       {t e:TypeId}(hu:P.underlying t=some (.slice e)){ie:TypeInfo}(hie:P.info? e=some ie){x:SV}{l hh k:Int}{nx nx':Nat}{r:SV}{ups:List (Nat × Option Chunk)}{rs:List Nat}(hm:af   h (D4    P e x l hh k nx)=some (r,ups,nx',rs)){u:Value}{ul uh um:Option Value}(hx:VRel P ω w Im θ x u)
  (bl:(ul=none/\l=0)\/∃ q,ul=some (.int q l)) (bh:∃ q,uh=some (.int q hh)) (bm:∃ q,um=some (.int q k)):
  ∃ v,(Instr.sliceAt t u ul uh um).run P w= .ok v w/\VRel P ω w Im θ r v/\ups=[]/\nx'=nx:=by
 unfold D4 at hm
 split at hm
 case h_2=>simp[af]at hm
 rename_i y sz i n
 have hb0:=aB hm;clear hm;obtain⟨hk,hm⟩:=hb0
 have:sz=P.cellsOf e:=nE hk
 subst this
 have hb0:=aN hm;clear hm;obtain⟨hc,hm⟩:=hb0
 simp only[bA,decide_eq_true_eq]at hc
 obtain⟨⟨⟨c1,c2⟩,c3⟩,c4⟩:=hc
 obtain⟨rfl,rfl,rfl,-⟩:=ai hm
 cases hx with
 | qs hθ g1 g2=>
  rename_i b N cap
  have hb:=od (P:=P) (w:=w) bl bh bm c1 c2 c3 c4 g2
  by_cases hcl:k.toNat=l.toNat
  . have hz:hh.toNat - l.toNat=0:=by omega
    refine⟨.slice (some ⟨b,i * P.cellsOf e,none⟩) 0 0,?_,.qsnil hz,rfl,rfl⟩
    simp[Instr.sliceAt,Instr.slice,run_underlying hu,hb,av hie,hz,hcl]
  . refine⟨.slice (some ⟨b,(i+l.toNat) * P.cellsOf e,none⟩) (hh.toNat - l.toNat) (k.toNat - l.toNat),?_,.qs hθ ?_ (by omega),rfl,rfl⟩
    . simp[Instr.sliceAt,Instr.slice,run_underlying hu,hb,av hie,hcl,bv,Nat.add_mul]
    . have:i+l.toNat+(k.toNat - l.toNat)<=i+cap:=by omega
      exact Nat.le_trans (Nat.mul_le_mul_right _ this) g1
 | qsnil h0=>
  rename_i p
  subst h0
  have hb:=od (P:=P) (w:=w) (cap:=0) bl bh bm c1 c2 c3 c4 (Nat.le_refl _)
  have hl0:l=0:=by omega
  have hh0:hh=0:=by omega
  have hk0:k=0:=by omega
  subst hl0
  subst hh0
  subst hk0
  refine⟨.slice p 0 0,?_,.qsnil (by simp),rfl,rfl⟩
  simp[Instr.sliceAt,Instr.slice,run_underlying hu,hb,av hie]
theorem ij:∀ {l:List SV},kH l=true->∀ v ∈ l,∃ n,v= .int .u8 n
 | [],_,v,h=>by cases h
 | a :: l,hb,v,h=>by
  unfold kH at hb
  split at hb
  . rename_i heq;cases heq
  . rename_i n l' heq
    simp only[List.cons.injEq]at heq
    obtain⟨rfl,rfl⟩:=heq
    rcases List.mem_cons.1 h with rfl | h
    . exact⟨_,rfl⟩
    . exact ij hb v h
  . cases hb
theorem En      {t:TypeId}{v:SV}{off n nx nx':Nat}{e:TypeId}{r:SV}{ups:List (Nat × Option Chunk)}{rs:List Nat}(hu:P.underlying t=some (.array n e))(hm:af   h (KP   P e n v off nx)=some (r,ups,nx',rs)){u:Value}(hx:VRel P ω w Im θ (.pel v off) u):
  ∃ v,(Instr.sliceAt t u none none none).run P w= .ok v w/\VRel P ω w Im θ r v/\ups=[]/\nx'=nx:=by
 unfold KP at hm
 split at hm
 case h_2=>simp[af]at hm
 rename_i cs hcs
 split at hm
 case h_2=>simp[af]at hm
 rename_i bs hbs
 have hb0:=aB hm;clear hm;obtain⟨hk,hm⟩:=hb0
 obtain⟨rfl,rfl,rfl,rfl⟩:=ai hm
 simp only[bA]at hk
 obtain⟨k1,k2,k3,k4⟩:=hk
 obtain⟨ie,hie⟩:=bo k1
 have hn:1<=n:=by rwa [Nat.ble_eq]at k4
 have hue:P.underlying e=some (.int .u8)/\P.cellsOf e=1:=by
  unfold qz at k2
  split at k2
  . rename_i h1;exact⟨h1,nE k2⟩
  . cases k2
 obtain⟨t1,t2⟩:=dZ _ _ _ _ hbs
 cases hx with
 | pel h1 h2 h3=>
  rename_i uu a base
  have hl:=bW h1 hcs
  have hlen:bs.length=n:=by rw[t2,List.length_take,List.length_drop];omega
  have hb:=jx (P:=P) (w:=w) (n:=n) (lu:=none) (hu:=none) (l:=0) (h:=n) (.inl ⟨rfl,rfl⟩) (.inl ⟨rfl,rfl⟩) (by omega) (by omega) (by omega)
  have hat:∀ (i:Nat) (x:SV),bs[i]? =some x->∃ k q,x= .int .u8 k/\uu.cells.toList[off+i]? =some q/\q= .int .u8 k:=by
   intro i x hi
   obtain⟨k,rfl⟩:=ij k3 x (List.mem_of_getElem? hi)
   have hci:cs[off+i]? =some (.int .u8 k):=by
    rw[t2]at hi
    rw[List.getElem?_take,List.getElem?_drop]at hi
    split at hi
    . exact hi
    . cases hi
   have hlt:off+i < uu.cells.toList.length:=by
    obtain⟨hlt,_⟩:=List.getElem?_eq_some_iff.1 hci
    rw[hl.len]at hlt;exact hlt
   refine⟨k,uu.cells.toList[off+i],rfl,List.getElem?_eq_getElem hlt,?_⟩
   have:=hl.at_ (off+i) _ _ hci (List.getElem?_eq_getElem hlt)
   generalize uu.cells.toList[off+i]=q at this
   cases this;rfl
  refine⟨.slice (some ⟨a,base+off,none⟩) n n,?_,?_,rfl,rfl⟩
  . have:¬ n=0:=by omega
    simp[Instr.sliceAt,run_underlying hu,hb,av hie,this,bv,Instr.sureAddr]
  . refine .psl (fun i=>uu.cells.toList.getD (off+i) undef) hlen ⟨Nat.le_refl _,fun h=>by cases h⟩ (fun x hx=> ?_) (fun i x hi=> ?_) (fun _=>⟨a,base+off,rfl,h2,fun i hi=> ?_⟩)
    . obtain⟨k,rfl⟩:=ij k3 x hx
      have ha:aq P e=false:=by unfold aq;rw[hue.1]
      simp only[expand,ha,cF,aS,hue.1,asI]
    . obtain⟨k,q,rfl,hq,rfl⟩:=hat i x hi
      show VRel P om0 w Im eG _ (uu.cells.toList.getD (off+i) undef)
      rw[gD0,hq];exact .int
    . obtain⟨k,q,hx,hq,rfl⟩:=hat i bs[i] (List.getElem?_eq_getElem (by omega))
      show(uu.cells.toList.getD (off+i) undef).cells.size=_/\∀ (d:Nat) (c:Value),(uu.cells.toList.getD (off+i) undef).cells[d]? =some c->_
      rw[gD0,hq]
      refine⟨by rw[hue.2];rfl,fun d c hd=> ?_⟩
      cases d with
      | zero=>
       simp[Value.cells]at hd;subst hd
       rw[hue.2,Nat.mul_one,Nat.add_zero,Nat.add_assoc]
       exact h3 (off+i) _ (by simpa using hq)
      | succ d=>simp[Value.cells]at hd
theorem wu(es:List SV):∀ (n i j:Nat) (v:SV),(gK es i n)[j]? =some v->j < n/\v= .int .u8 (asI (es.getD (i+j) .junk))
 | 0,i,j,v,h=>by simp[gK]at h
 | n+1,i,0,v,h=>by simp[gK]at h;exact⟨by omega,h.symm⟩
 | n+1,i,j+1,v,h=>by
  simp only[gK,List.getElem?_cons_succ]at h
  obtain⟨h1,h2⟩:=wu es n (i+1) j v h
  exact⟨by omega,by rw[h2,show i+1+j=i+(j+1)by omega]⟩
theorem sr(es:List SV):∀ (n i:Nat),(gK es i n).length=n
 | 0,i=>rfl
 | n+1,i=>by simp[gK,sr es n (i+1)]
theorem A5       {t:TypeId}{x:SV}{nx nx':Nat}{r:SV}{ups:List (Nat × Option Chunk)}{rs:List Nat}(hm:af   h (D5    P t x nx)=some (r,ups,nx',rs)){u:Value}(hx:VRel P ω w Im θ x u):
  ∃ v,(Instr.arrayAt t u).run P w= .ok v w/\VRel P ω w Im θ r v/\ups=[]/\nx'=nx:=by
 unfold D5 at hm
 split at hm
 case h_2=>simp[af]at hm
 rename_i n e e' es hu
 have hb0:=aB hm;clear hm;obtain⟨hk,hm⟩:=hb0
 simp only[bA]at hk
 obtain⟨⟨k2,k5⟩,k4⟩:=hk
 have hee:e=e':=nE k5
 subst hee
 have hn:1<=n:=by rwa [Nat.ble_eq]at k4
 have hue:P.underlying e=some (.int .u8)/\P.cellsOf e=1:=by
  unfold qz at k2
  split at k2
  . rename_i h1;exact⟨h1,nE k2⟩
  . cases k2
 have hb0:=aN hm;clear hm;obtain⟨hc,hm⟩:=hb0
 have hle:n<=es.length:=of_decide_eq_true hc
 obtain⟨rfl,rfl,rfl,rfl⟩:=ai hm
 cases hx with
 | psl us h1 h0 h2 h3 h4=>
  rename_i p m cap
  obtain⟨a,off,rfl,hIm,hat⟩:=h4 (by omega)
  have hval:∀ i,i < n->us i= .int .u8 (asI (es.getD i .junk)):=by
   intro i hi
   have hi':i < es.length:=by omega
   have hv:=h3 i es[i] (by simp[hi'])
   have hex:=h2 es[i] (List.getElem_mem _)
   have ha:aq P e=false:=by unfold aq;rw[hue.1]
   unfold expand at hex
   rw[ha,cF]at hex
   unfold aS at hex
   rw[hue.1]at hex
   simp only at hex
   rw[gD0,List.getElem?_eq_getElem hi',Option.getD_some]
   rw[<- hex]at hv
   rw[<- hex]
   generalize us i=q at hv
   cases hv
   simp[asI]
  refine⟨.pointer (some ⟨a,off,none⟩),?_,?_,rfl,rfl⟩
  . have:¬ m < n:=by omega
    simp[Instr.arrayAt,run_underlying hu,this]
  . refine .pel (u:=.agg ((List.range n).map fun i=>Value.int .u8 (asI (es.getD i .junk))).toArray) (base:=off) ?_ hIm (fun d c hd=> ?_)
    . refine .agg (by simp[sr]) (fun i v u hv hu'=> ?_)
      obtain⟨q1,q2⟩:=wu es n 0 i v hv
      rw[q2,Nat.zero_add]
      simp[q1]at hu'
      rw[<- hu']
      exact .int
    . simp only[Value.cells,List.getElem?_toArray,List.getElem?_map]at hd
      by_cases hdn:d < n
      . simp[hdn]at hd
        obtain⟨q1,q2⟩:=hat d (by omega)
        have:=q2 0 c (by rw[hval d hdn,<- hd];rfl)
        rw[hue.2,Nat.mul_one,Nat.add_zero]at this
        exact this
      . simp[hdn]at hd
theorem Eo      {t:TypeId}{x:SV}{lo hi mx:Option SV}{nx nx':Nat}{r:SV}{ups:List (Nat × Option Chunk)}{rs:List Nat}(hr:HRel P ω w Im θ h)(hm:af   h (tD   P t x lo hi mx nx)=some (r,ups,nx',rs)){u:Value}{ul uh um:Option Value}(hx:VRel P ω w Im θ x u)
  (l1:lo=none->ul=none) (l2:∀ v,lo=some v->∃ x,ul=some x/\VRel P ω w Im θ v x) (i1:hi=none->uh=none) (i2:∀ v,hi=some v->∃ x,uh=some x/\VRel P ω w Im θ v x) (m1:mx=none->um=none) (m2:∀ v,mx=some v->∃ x,um=some x/\VRel P ω w Im θ v x):
  ∃ v,(Instr.sliceAt t u ul uh um).run P w= .ok v w/\VRel P ω w Im θ r v/\ups=[]/\nx'=nx:=by
 unfold tD at hm
 split at hm
 . obtain rfl:=m1 rfl
   split at hm
   · -- a string
     rename_i s hu
     split at hm
     case h_2=>simp[af]at hm
     rename_i l hh hl' hh'
     have hb0:=aN hm;clear hm;obtain⟨hc,hm⟩:=hb0
     simp only[bA,decide_eq_true_eq]at hc
     obtain⟨⟨c1,c2⟩,c3⟩:=hc
     obtain⟨rfl,rfl,rfl,rfl⟩:=ai hm
     have bl:=bX hl' l1 l2
     have bh:=bX hh' i1 i2
     cases hx with
     | str hs=>
      rename_i bs
      rw[<- d6 hs]at bh c3
      have hb:=jx (P:=P) (w:=w) bl bh c1 c2 c3
      refine⟨.string (bs.extract l.toNat hh.toNat),?_,.str ?_,rfl,rfl⟩
      . simp[Instr.sliceAt,Instr.slice,run_underlying hu,hb]
      . rw[ByteArray.data_extract,Array.toList_extract,hs,List.extract_eq_take_drop]
   · -- known by content
     rename_i e e' es hu
     split at hm
     case h_2=>simp[af]at hm
     rename_i l hh hl' hh'
     have hb0:=aB hm;clear hm;obtain⟨hk,hm⟩:=hb0
     simp only[bA]at hk
     have:e=e':=nE hk.1
     subst this
     obtain⟨ie,hie⟩:=bo hk.2
     have hb0:=aN hm;clear hm;obtain⟨hc,hm⟩:=hb0
     simp only[bA,decide_eq_true_eq]at hc
     obtain⟨⟨c1,c2⟩,c3⟩:=hc
     obtain⟨rfl,rfl,rfl,rfl⟩:=ai hm
     have bl:=bX hl' l1 l2
     have bh:=bX hh' i1 i2
     have hx2:=hx
     cases hx with
     | psl us h1 h0 h2 h3 h4=>
      rename_i p n cap
      rw[h1]at bh c3
      have hb:=eW (P:=P) (w:=w) bl bh c1 c2 c3 h0.1
      refine⟨_,?_,Em (l:=l.toNat) (k:=hh.toNat - l.toNat) hx2 (by omega),rfl,rfl⟩
      simp[Instr.sliceAt,Instr.slice,run_underlying hu,hb,av hie]
   · -- a list that has grown
     rename_i e y sz k n hu
     split at hm
     case h_2=>simp[af]at hm
     rename_i l hh hl' hh'
     have hb0:=aB hm;clear hm;obtain⟨hk,hm⟩:=hb0
     simp only[bA]at hk
     have:sz=P.cellsOf e:=nE hk.1
     subst this
     obtain⟨ie,hie⟩:=bo hk.2
     have hb0:=aN hm;clear hm;obtain⟨hc,hm⟩:=hb0
     simp only[bA,decide_eq_true_eq]at hc
     obtain⟨⟨c1,c2⟩,c3⟩:=hc
     obtain⟨rfl,rfl,rfl,rfl⟩:=ai hm
     have bl:=bX hl' l1 l2
     have bh:=bX hh' i1 i2
     cases hx with
     | qs hθ g1 g2=>
      rename_i b N cap
      have hb:=eW (P:=P) (w:=w) bl bh c1 c2 c3 g2
      by_cases hcl:cap=l.toNat
      . have hz:hh.toNat - l.toNat=0:=by omega
        refine⟨.slice (some ⟨b,k * P.cellsOf e,none⟩) 0 0,?_,.qsnil hz,rfl,rfl⟩
        subst hcl
        simp[Instr.sliceAt,Instr.slice,run_underlying hu,hb,av hie,hz]
      . refine⟨.slice (some ⟨b,(k+l.toNat) * P.cellsOf e,none⟩) (hh.toNat - l.toNat) (cap - l.toNat),?_,.qs hθ ?_ (by omega),rfl,rfl⟩
        . simp[Instr.sliceAt,Instr.slice,run_underlying hu,hb,av hie,hcl,bv,Nat.add_mul]
        . have:k+l.toNat+(cap - l.toNat)=k+cap:=by omega
          rw[this];exact g1
     | qsnil h0=>
      rename_i p
      subst h0
      have hb:=eW (P:=P) (w:=w) (cap:=0) bl bh c1 c2 c3 (Nat.le_refl _)
      have hl0:l=0:=by omega
      have hh0:hh=0:=by omega
      subst hl0
      subst hh0
      refine⟨.slice p 0 0,?_,.qsnil (by simp),rfl,rfl⟩
      simp[Instr.sliceAt,Instr.slice,run_underlying hu,hb,av hie]
   . rename_i e hu
     split at hm
     case h_2=>simp[af]at hm
     rename_i l hh hl' hh'
     have hb0:=aB hm;clear hm;obtain⟨hk,hm⟩:=hb0
     obtain⟨ie,hie⟩:=bo hk
     have hb0:=aN hm;clear hm;obtain⟨hc,hm⟩:=hb0
     simp only[bA,decide_eq_true_eq]at hc
     obtain⟨rfl,rfl⟩:=hc
     obtain⟨rfl,rfl,rfl,rfl⟩:=ai hm
     have bl:=bX hl' l1 l2
     have bh:=bX hh' i1 i2
     cases hx
     have hb:=eW (P:=P) (w:=w) (n:=0) (cap:=0) bl bh (Int.le_refl _) (Int.le_refl _) (Int.le_refl _) (Nat.le_refl _)
     refine⟨.slice none 0 0,?_,.nils,rfl,rfl⟩
     simp[Instr.sliceAt,Instr.slice,run_underlying hu,hb,av hie]
   . exact sP hr hm hx l1 l2 i1 i2 (fun h=>rfl)
   . rename_i n e v off hu
     split at hm
     . obtain rfl:=l1 rfl
       obtain rfl:=i1 rfl
       exact En hu hm hx
     . simp[af]at hm
   . simp[af]at hm
 . rename_i m
   obtain⟨xm,rfl,hxm⟩:=m2 m rfl
   split at hm
   case h_2=>simp[af]at hm
   rename_i e l hh k hu hl' hh' hk'
   have hb0:=aB hm;clear hm;obtain⟨hk,hm⟩:=hb0
   simp only[bA]at hk
   obtain⟨ie,hie⟩:=bo hk.1
   have bl:=bX hl' l1 l2
   have bm0:∃ q,some xm=some (.int q k):=by
    cases m <;> simp only[ck]at hk' <;> try (cases hk';done)
    simp only[sJ]at hk'
    subst hk'
    cases hxm
    exact⟨_,rfl⟩
   have bh0:∃ q,uh=some (.int q hh):=by
    cases hi with
    | none=>simp at hk
    | some v=>
     obtain⟨x,rfl,hv⟩:=i2 v rfl
     cases v <;> simp only[ck]at hh' <;> try (cases hh';done)
     simp only[sJ]at hh'
     subst hh'
     cases hv
     exact⟨_,rfl⟩
   have hm2:=oA hm
   clear hm
   rcases hm2 with ⟨hc,hm⟩ | ⟨hc,hm⟩
   case inr=>exact A4 hu hie hm hx bl bh0 bm0
   simp only[bA,decide_eq_true_eq]at hc
   obtain⟨⟨rfl,rfl⟩,rfl⟩:=hc
   have bm:∃ kk,xm= .int kk 0:=by
    cases m <;> simp only[ck]at hk' <;> try (cases hk';done)
    simp only[sJ]at hk'
    subst hk'
    cases hxm
    exact⟨_,rfl⟩
   have bh:∃ kk,uh=some (.int kk 0):=by
    cases hi with
    | none=>simp at hk
    | some v=>
     obtain⟨x,rfl,hv⟩:=i2 v rfl
     cases v <;> simp only[ck]at hh' <;> try (cases hh';done)
     simp only[sJ]at hh'
     subst hh'
     cases hv
     exact⟨_,rfl⟩
   obtain⟨km,rfl⟩:=bm
   obtain⟨kh,rfl⟩:=bh
   have hb:∀ n cap,(Instr.sliceBounds true n cap ul (some (.int kh 0)) (some (.int km 0))).run P w= .ok (0,0,0) w:=by
    intro n cap
    rcases bl with ⟨rfl,_⟩ | ⟨kl,rfl⟩ <;> simp[Instr.sliceBounds,Instr.sliceBound,asIntOf]
   have key:∀ (p:Option Addr) (n cap:Nat),(Instr.sliceAt t (.slice p n cap) ul (some (.int kh 0)) (some (.int km 0))).run P w= .ok (.slice p 0 0) w:=by
    intro p n cap
    simp[Instr.sliceAt,Instr.slice,run_underlying hu,hb,av hie]
   split at hm
   . obtain⟨rfl,rfl,rfl,rfl⟩:=ai hm
     cases hx
     exact⟨_,key _ _ _,.nils,rfl,rfl⟩
   . obtain⟨rfl,rfl,rfl,rfl⟩:=ai hm
     cases hx
     exact⟨_,key _ _ _,.emp,rfl,rfl⟩
   . obtain⟨rfl,rfl,rfl,rfl⟩:=ai hm
     cases hx
     exact⟨_,key _ _ _,.emp,rfl,rfl⟩
   . obtain⟨rfl,rfl,rfl,rfl⟩:=ai hm
     cases hx
     exact⟨_,key _ _ _,.emp,rfl,rfl⟩
   . obtain⟨rfl,rfl,rfl,rfl⟩:=ai hm
     cases hx <;> exact⟨_,key _ _ _,.emp,rfl,rfl⟩
   . obtain⟨rfl,rfl,rfl,rfl⟩:=ai hm
     cases hx <;> exact⟨_,key _ _ _,.emp,rfl,rfl⟩
   . simp[af]at hm
/- Elements. -/
theorem qT            {t:TypeId}{x ix:SV}{nx nx':Nat}{r:SV}{ups:List (Nat × Option Chunk)}{rs:List Nat}(hm:af   h (lc         P t x ix nx)=some (r,ups,nx',rs)){u ui:Value}(hx:VRel P ω w Im θ x u)(hi:VRel P ω w Im θ ix ui):
  ∃ v,(Instr.indexAt t u ui).run P w= .ok v w/\VRel P ω w Im θ r v/\ups=[]/\nx'=nx:=by
 unfold lc at hm
 split at hm
 . rename_i k i e e' es hu
   cases hi
   have hb0:=aB hm;clear hm;obtain⟨hk,hm⟩:=hb0
   simp only[bA]at hk
   have:e=e':=nE hk.1
   subst this
   obtain⟨ie,hie⟩:=bo hk.2
   obtain⟨hb,rfl,rfl,rfl⟩:=bI hm
   have hb':=inB_iff.1 hb
   cases hx with
   | psl us h1 h0 h2 h3 h4=>
    rename_i p n cap
    have hil:i.toNat < es.length:=by omega
    obtain⟨a,off,rfl,ha,hc⟩:=h4 (by omega)
    obtain⟨g1,g2⟩:=hc i.toNat (by omega)
    have hget:es[i.toNat]? =some es[i.toNat]:=by simp[hil]
    refine⟨.pointer (some ⟨a,off+i.toNat * P.cellsOf e+0,none⟩),?_,.pel ?_ ha g2,rfl,rfl⟩
    . have hin:0<=i/\i < (n:Int):=by omega
      simp[Instr.indexAt,asIntOf,run_underlying hu,hin,av hie,bv]
    . have:es.getD i.toNat .junk=es[i.toNat]:=by simp[gD0,hget]
      rw[this,h2 _ (List.getElem_mem hil)]
      exact h3 _ _ hget
 . rename_i k i e y sz l n hu
   cases hi
   have hb0:=aB hm;clear hm;obtain⟨hk,hm⟩:=hb0
   simp only[bA]at hk
   have:sz=P.cellsOf e:=nE hk.1
   subst this
   obtain⟨ie,hie⟩:=bo hk.2
   obtain⟨hb,rfl,rfl,rfl⟩:=bI hm
   have hb':=inB_iff.1 hb
   cases hx with
   | qs hθ g1 g2=>
    rename_i b N cap
    refine⟨.pointer (some ⟨b,(l+i.toNat) * P.cellsOf e+0,none⟩),?_,.qp hθ,rfl,rfl⟩
    simp[Instr.indexAt,asIntOf,run_underlying hu,hb',av hie,bv,Nat.add_mul]
   | qsnil h0=>exfalso;omega
 . rename_i k i n e v off hu
   cases hi
   have hb0:=aB hm;clear hm;obtain⟨hk,hm⟩:=hb0
   obtain⟨ie,hie⟩:=bo hk
   obtain⟨hb,rfl,rfl,rfl⟩:=bI hm
   have hb':=inB_iff.1 hb
   cases hx with
   | pel h1 h2 h3=>
    refine⟨_,?_,.pel h1 h2 h3,rfl,rfl⟩
    simp[Instr.indexAt,asIntOf,run_underlying hu,Instr.sureAddr,hb',av hie,bv,Nat.add_assoc]
 . rename_i k i n e y sz l off hu
   cases hi
   have hb0:=aB hm;clear hm;obtain⟨hk,hm⟩:=hb0
   obtain⟨ie,hie⟩:=bo hk
   obtain⟨hb,rfl,rfl,rfl⟩:=bI hm
   have hb':=inB_iff.1 hb
   cases hx with
   | qp hθ=>
    refine⟨_,?_,.qp hθ,rfl,rfl⟩
    simp[Instr.indexAt,asIntOf,run_underlying hu,Instr.sureAddr,hb',av hie,bv,Nat.add_assoc]
 . simp[af]at hm
theorem jP            {θ':Th}{a base off:Nat}{us:List Value}{vs:List SV}{t:TypeId}{v:SV}(hmem:∀ (d:Nat) (c:Value),us[d]? =some c->w.cell? ⟨a,base+d,none⟩=some c)(hl:LRel P ω w Im θ' vs us)(hp:dR    P t vs off=some v):
  ∃ u,(loadVar t ⟨a,base+off,none⟩).run P w= .ok u w/\VRel P ω w Im θ' v u:=by
 obtain⟨u,hu,hc⟩:=uZ hl hp
 refine⟨u,?_,hu⟩
 have hun:∃ d,P.underlying t=some d:=by
  unfold dR at hp
  cases h:P.underlying t with
  | none=>simp[h]at hp
  | some d=>exact⟨d,rfl⟩
 obtain⟨d,hd⟩:=hun
 obtain⟨i,hi⟩:=info_of_underlying hd
 rcases hc with ⟨h1,rfl,h2⟩ | ⟨h1,h2⟩
 . have hload:=run_loadCells_list (P:=P) w ⟨a,base+off,none⟩ ((us.drop off).take (P.cellsOf t)) (fun j v hj=>by
     rw[List.getElem?_take]at hj
     split at hj
     . rw[List.getElem?_drop]at hj
       rw[bv,Nat.add_assoc]
       exact hmem _ _ hj
     . cases hj)
   have hn:((us.drop off).take (P.cellsOf t)).length=P.cellsOf t:=by simp;omega
   rw[hn]at hload
   unfold loadVar
   simp[eg hd,h1,av hi,hload]
 . have hc:=hmem off u h2
   unfold loadVar
   simp[eg hd,h1,hc]
theorem VRel.names{θ':Th}{v:SV}{u:Value}(hv:VRel P om0 w Im eG v u)(hn:eK v=true):VRel P ω w Im θ' v u:=(VRel.om hv hn).mono (fun b hb=>⟨hb,rfl⟩) (fun x p hp=>by simp[eG]at hp)
theorem A6       {t:TypeId}{a:SV}{nx nx':Nat}{r:SV}{ups:List (Nat × Option Chunk)}{rs:List Nat}(hr:HRel P ω w Im θ h)(hm:af   h (D6    P t a nx)=some (r,ups,nx',rs)){u:Value}(hx:VRel P ω w Im θ a u):
  ∃ v,(Instr.loadAt t u).run P w= .ok v w/\VRel P ω w Im θ r v/\ups=[]/\nx'=nx:=by
 unfold D6 at hm
 split at hm
 . rename_i v off
   split at hm
   case h_2=>simp[af]at hm
   rename_i cs hcs
   split at hm
   case h_2=>simp[af]at hm
   rename_i z hz
   have hb0:=aB hm;clear hm;obtain⟨hno,hm⟩:=hb0
   obtain⟨rfl,rfl,rfl,rfl⟩:=ai hm
   cases hx with
   | pel h1 h2 h3=>
    rename_i uu a base
    obtain⟨q,hq1,hq2⟩:=jP (t:=t) (off:=off) (us:=uu.cells.toList) (fun d c hd=>h3 d c (by simpa using hd)) (bW h1 hcs) hz
    exact⟨q,by simp[Instr.loadAt,Instr.sureAddr,hq1],hq2.names hno,rfl,rfl⟩
 . rename_i y sz k off
   have hb0:=cV hm;clear hm;obtain⟨c,rs',hy,hm,rfl⟩:=hb0
   cases c with
   | seq e es=>
    have hb0:=aB hm;clear hm;obtain⟨hk,hm⟩:=hb0
    have:sz=P.cellsOf e:=nE hk
    subst this
    split at hm
    case h_2=>simp[af]at hm
    rename_i cs hcs
    split at hm
    case h_2=>simp[af]at hm
    rename_i z hz
    have hb0:=aB hm;clear hm;obtain⟨hno,hm⟩:=hb0
    obtain⟨hb,rfl,rfl,rfl⟩:=bI hm
    have hkl:k < es.length:=of_decide_eq_true hb
    cases hx with
    | qp hθ=>
     rename_i b N
     rcases hr.at_ y _ hy with ⟨_,h3⟩ | ⟨b',N',ca,T,fr,us,h3,h4,h5,h6,h7,h8,h9⟩
     . rw[h3]at hθ;cases hθ
     . rw[hθ]at h3
       simp only[sJ,pJ]at h3
       obtain⟨rfl,rfl⟩:=h3
       have hget:es[k]? =some es[k]:=by simp[hkl]
       obtain⟨g1,g2,g3⟩:=h9 k es[k] hget
       have hex:expand P e (es.getD k .junk)=es[k]:=by
        have:es.getD k .junk=es[k]:=by simp[gD0,hget]
        rw[this,h8 _ (List.getElem_mem hkl)]
       rw[hex]at hcs
       obtain⟨q,hq1,hq2⟩:=jP (t:=t) (a:=b) (base:=k * P.cellsOf e) (off:=off) (us:=(us k).cells.toList) (fun d c hd=>by
        have:=g3 d c (by simpa using hd)
        simp only[World.cell?,h4]
        simpa using this) (bW g1 hcs) hz
       exact⟨q,by simp[Instr.loadAt,Instr.sureAddr,hq1],hq2.names hno,rfl,rfl⟩
   | cells=>simp[af]at hm
   | loopr=>simp[af]at hm
   | mpc=>simp[af]at hm
   | mpb=>simp[af]at hm
 . simp[af]at hm
end
end Go.Am
