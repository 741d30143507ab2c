/- The abstract machine: loops, by what is known of them. -/
import Derived.Test.YtnlmhpancboddaaGreatMachine5
set_option linter.unusedVariables false
set_option linter.unusedSimpArgs false
namespace Go.Am
variable {P:Program} {ω:Nat->Value}
def aR(P:Program)(e:LEnt):Prop:=
 ∀ (args:List SV) (H:HpL) (k:IntKind) (c:Int) (outs:List SV) (ups:List (Nat × Option Chunk)),ae (e.s args H)=some (.tup (.int k c :: outs),ups)->gL H->outs.length=e.outs.length->args.length=e.ins.length->
  ∃ m,∀ (ω:Nat->Value) (θ:Th) (Im:Nat->Prop) (w:World) (a:Act) (Q:Exit->Act->World->Prop),a.tmps.size=e.size->LRel P ω w Im θ args (e.ins.map fun t=>a.tmps.getD t undef)->HRel P ω w Im θ H.get->
   (∀ x,H.length<=x->θ x=none)->Mk w Im θ H.get a.defers->
   (∀ a' w' Im' θ',a'.tmps.size=e.size->Ext (fun x=>H.length<=x) H.get w Im θ (ad ups H.get) w' Im' θ'->LRel P ω w' Im' θ' outs (e.outs.map fun t=>a'.tmps.getD t undef)->HRel P ω w' Im' θ' (ad ups H.get)->
    (∀ t ∈ e.keep,a'.tmps.getD t undef=a.tmps.getD t undef)->Mk w' Im' θ' (ad ups H.get) a'.defers->New a a' w->Q (eX (Ed c)) a' w')->
   Code.roundsIn (FR none) 0 P e.code Q m a w
theorem rG:∀ (l:List Nat) (s:St) (t:Tr SV) (j:Nat),(∀ x ∈ l,x < 16000)->(qH l s t).get j=if j ∈ l then some (s.tmp j)else t.get j
 | [],s,t,j,_=>by simp[qH]
 | x :: l,s,t,j,h=>by
  simp only[qH]
  rw[rG l s _ j (fun y hy=>h y (by simp[hy]))]
  rw[Tr.get_set 14 t x _ j (by have:=h x (by simp);omega)]
  by_cases h1:j ∈ l
  . simp[h1]
  . by_cases h2:j=x
    . subst h2;simp[h1]
    . simp[h1,h2]
theorem na:∀ (l:List Nat) (t:Tr SV) (j:Nat),(∀ x ∈ l,x < 16000)->(mF l t).get j=if j ∈ l then some (.opq j)else t.get j
 | [],t,j,_=>by simp[mF]
 | x :: l,t,j,h=>by
  simp only[mF]
  rw[na l _ j (fun y hy=>h y (by simp[hy]))]
  rw[Tr.get_set 14 t x _ j (by have:=h x (by simp);omega)]
  by_cases h1:j ∈ l
  . simp[h1]
  . by_cases h2:j=x
    . subst h2;simp[h1]
    . simp[h1,h2]
theorem lI      :∀ (l:List Nat) (vs:List SV) (t:Tr SV) (j:Nat),(∀ x ∈ l,x < 16000)->((dS    l vs t).get j=t.get j/\(j ∉ l\/l.length≠vs.length))\/∃ i:Nat,l[i]? =some j/\∃ v,vs[i]? =some v/\(dS    l vs t).get j=some v
 | [],vs,t,j,_=>by left;cases vs <;> exact⟨rfl,.inl (by simp)⟩
 | x :: l,[],t,j,_=>.inl ⟨rfl,.inr (by simp)⟩
 | x :: l,v :: vs,t,j,h=>by
  simp only[dS]
  rcases lI l vs (t.set 14 x (some v)) j (fun y hy=>h y (by simp[hy]))with ⟨h1,h2⟩ | ⟨i,h1,v',h2,h3⟩
  . rw[h1,Tr.get_set 14 t x _ j (by have:=h x (by simp);omega)]
    by_cases h4:j=x
    . subst h4
      exact .inr ⟨0,rfl,v,rfl,by simp⟩
    . rw[if_neg h4]
      refine .inl ⟨rfl,?_⟩
      rcases h2 with h2 | h2
      . exact .inl (by simp[h4,h2])
      . exact .inr (by simpa using h2)
  . exact .inr ⟨i+1,by simpa using h1,v',by simpa using h2,h3⟩
theorem pj{w:World}{Im:Nat->Prop}{θ:Th}{f:Nat->SV}{g:Nat->Value}:∀ {l:List Nat},(∀ t ∈ l,VRel P ω w Im θ (f t) (g t))->LRel P ω w Im θ (l.map f) (l.map g):=by
 intro l hl
 refine⟨by simp,fun i v u hv hu=> ?_⟩
 simp only[List.getElem?_map,Option.map_eq_some_iff]at hv hu
 obtain⟨t,ht,rfl⟩:=hv
 obtain⟨t',ht',rfl⟩:=hu
 rw[ht]at ht'
 cases ht'
 exact hl t (List.mem_of_getElem? ht)
theorem BT{rs rs':List Nat}(h:rs.map iA=rs'.map iA):rs=rs':=by
 induction rs generalizing rs' with
 | nil=>cases rs' with
  | nil=>rfl
  | cons=>simp at h
 | cons r rs ih=>cases rs' with
  | nil=>simp at h
  | cons r' rs'=>
   simp only[List.map_cons,List.cons.injEq]at h
   have h1:=h.1
   simp only[iA,Deferred.mk.injEq,Target.collected.injEq,and_true]at h1
   rw[h1,ih h.2]
section
variable {R D:Type} {fl:R} {den:R->Option D} (hfl:den fl=none)
include hfl
theorem jV       {e:LEnt}(hv:aR     P e){s:St}{k:Ex->St->R}{d:D}(hs:StOk s)(h:den (wo    fl e s k)=some d):∃ ex s2,StOk s2/\Comes P (.loop e.code) s ex s2/\den (k ex s2)=some d:=by
 unfold wo at h
 cases hrd:s.rd with
 | some y=>rw[hrd]at h;exact(ba hfl h).elim
 | none=>
  rw[hrd]at h
  simp only[]at h
  cases hb:Nat.beq s.size e.size&&ep s.size e.ins&&ep s.size e.outs&&ep s.size e.keep with
  | false=>rw[hb]at h;exact(ba hfl h).elim
  | true=>
   rw[hb]at h
   simp only[cT]at h
   simp only[bA]at hb
   obtain⟨⟨⟨b1,b2⟩,b3⟩,b4⟩:=hb
   have hsz:s.size=e.size:=nE b1
   have hins:=cB _ b2
   have houts:=cB _ b3
   have hkeep:=cB _ b4
   have hsmall:=hs.size
   obtain⟨r,ups,nx,rs',hm,h2⟩:=eY hfl _ _ h
   cases hbn:Nat.blt nx 1000000 with
   | false=>rw[hbn]at h2;exact(ba hfl h2).elim
   | true=>
    rw[hbn]at h2
    simp only[cT]at h2
    have hnx:nx < 1000000:=by rw[bL]at hbn;exact hbn
    split at h2
    case h_2=>exact(ba hfl h2).elim
    rename_i kk c outs
    cases hbl:Nat.beq outs.length e.outs.length with
    | false=>rw[hbl]at h2;exact(ba hfl h2).elim
    | true=>
     rw[hbl]at h2
     simp only[cT]at h2
     have hol:outs.length=e.outs.length:=nE hbl
     obtain⟨hle,hkeys⟩:=pd hm
     have hk:∀ p ∈ ups,p.1 < nx:=by
      intro p hp
      rcases hkeys p hp with h3 | h3
      . obtain⟨c,hc⟩:=bZ _ _ hm p.1 h3
        have:=hs.dom _ c hc;omega
      . exact h3.2
     have hk2:∀ p ∈ ups,p.1 < 1000000:=fun p hp=>by have:=hk p hp;omega
     have ou:=kW hs hle hnx hk
     have hhp:(s.upd ups nx).hp.get=ad ups s.hp.get:=ek _ _ hk2
     -- the temporaries behind the loop
     have htm:∀ j,((lm e outs ups nx s).tmp j= .junk)\/(j ∈ e.keep/\(lm e outs ups nx s).tmp j=s.tmp j)\/∃ i:Nat,e.outs[i]? =some j/\∃ v,outs[i]? =some v/\(lm e outs ups nx s).tmp j=v:=by
      intro j
      have hk16:∀ x ∈ e.keep,x < 16000:=fun x hx=>by have:=hkeep x hx;omega
      have ho16:∀ x ∈ e.outs,x < 16000:=fun x hx=>by have:=houts x hx;omega
      have he:(lm e outs ups nx s).tmp j=match(dS e.outs outs (qH e.keep s .lf)).get j with
       | some v=>v
       | none=>.junk:=rfl
      rcases lI e.outs outs (qH e.keep s .lf) j ho16 with ⟨g1,-⟩ | ⟨i,g1,v,g2,g3⟩
      . rw[he,g1,rG _ _ _ _ hk16]
        by_cases hj:j ∈ e.keep
        . simp[hj]
        . simp[hj,Tr.get_lf]
      . exact .inr (.inr ⟨i,g1,v,g2,by rw[he,g3]⟩)
     have hok:StOk (lm e outs ups nx s):=by
      refine⟨hs.size,ou.nx,fun t ht=> ?_,ou.dom,ou.m⟩
      have ht':s.size<=t:=ht
      rcases htm t with g | ⟨g,_⟩ | ⟨i,g,_⟩
      . exact g
      . have:=hkeep t g;omega
      . have:=houts t (List.mem_of_getElem? g);omega
     obtain⟨args',H,v,u,back,q1,q2,q3,q4,hsem⟩:=sn (P:=P) hm
     -- the loop's own names
     have hvf:∃ outsL,v= .tup (.int kk c :: outsL)/\outs=cx back outsL:=by
      cases v <;> simp only[bq]at q4 <;> try (cases q4;done)
      rename_i vs
      cases vs with
      | nil=>simp[cx]at q4
      | cons x vs=>
       simp only[cx,SV.tup.injEq,List.cons.injEq]at q4
       obtain⟨h3,h4⟩:=q4
       cases x <;> simp only[bq]at h3 <;> try (cases h3;done)
       cases h3
       exact⟨vs,rfl,h4⟩
     obtain⟨outsL,rfl,rfl⟩:=hvf
     have holL:outsL.length=e.outs.length:=by rw[cJ]at hol;simpa using hol
     obtain⟨m,hmv⟩:=hv args' H kk c outsL u q1 q2 holL (by rw[q3];simp)
     refine⟨Ed c,lm e (cx back outsL) ups nx s,hok,⟨⟨rfl,hle,(el hle hk2).same,(el hle hk2).up,(el hle hk2).low⟩,rfl,rfl,m,?_⟩,h2⟩
     intro ω ρ Q a w Im θ sim hA
     have hρ:ρ=none:=by
      rcases sim.rd with ⟨_,g⟩ | ⟨y,b,N,g,_⟩
      . exact g
      . rw[hrd]at g;cases g
     subst hρ
     show Code.roundsIn (FR none) 0 P e.code Q m a w
     have hargs:LRel P ω w Im θ (e.ins.map s.tmp) (e.ins.map fun t=>a.tmps.getD t undef):=pj (fun t ht=>sim.sf.tm t (hins t ht))
     obtain⟨θL,l1,l2,l3,l4,l5⟩:=hsem sim.sf.hp hargs (fun x h1 _=>sim.fr x h1)
     obtain⟨rs0,d1,d2,d3⟩:=sim.sf.df
     have hMkL:Mk w Im θL H.get a.defers:=⟨rs0,d1,d2,fun r hr=>⟨(d3 r hr).1,(d3 r hr).2.1,fun y c N hy hb=>by
      obtain⟨x,c0,hx,hxb⟩:=l4 y c r N hy hb
      exact(d3 r hr).2.2 x c0 N hx hxb⟩⟩
     refine hmv ω θL Im w a Q (by rw[sim.sf.size,hsz]) l1 l2 l3 hMkL (fun a' w' Im' θL' e1 e2 e3 e4 e5 e6 e7=> ?_)
     -- back
     have hz:VRel P ω w' Im' θL' (.tup (.int kk c :: outsL)) (.tuple (.int kk c :: (e.outs.map fun t=>a'.tmps.getD t undef)).toArray):=by
      refine .tup (by simpa using e3.len) (fun i v u hv hu=> ?_)
      cases i with
      | zero=>simp at hv hu;subst hv;subst hu;exact .int
      | succ i=>exact e3.at_ i v u (by simpa using hv) (by simpa using hu)
     obtain⟨θ',f1,f2,f3,f4,f5⟩:=l5 _ w' θL' Im' e2 hz e4
     have hE':Ext (fun x=>s.nx<=x) s.hp.get w Im θ (ad ups s.hp.get) w' Im' θ':=f1.mono (fun x hx=>hx.1)
     have hval:∀ t,VRel P ω w Im θ (s.tmp t) (a.tmps.getD t undef)->VRel P ω w' Im' θ' (s.tmp t) (a.tmps.getD t undef):=fun t ht=>hE'.val sim.sf.hp ht
     refine hA a' w' Im' θ' ⟨hok,⟨by rw[e1];exact hsz.symm,fun t ht=> ?_,hok.out,?_,?_⟩,?_,.inl ⟨hrd,rfl⟩⟩ ?_ e7
     . have ht':t < s.size:=ht
       rcases htm t with g | ⟨g,g2⟩ | ⟨i,g,v,g2,g3⟩
       . rw[g];exact .junk
       . rw[g2,e5 t g];exact hval t (sim.sf.tm t ht')
       . rw[g3]
         have f2':LRel P ω w' Im' θ' (.int kk c :: cx back outsL) (.int kk c :: (e.outs.map fun t=>a'.tmps.getD t undef)):=by
          cases f2 with
          | tup p1 p2=>exact⟨by simpa using p1,fun i v u hv hu=>p2 i v u hv (by simpa using hu)⟩
         exact f2'.at_ (i+1) v _ (by simpa using g2) (by simp[g])
     · -- marks
       show Mk w' Im' θ' ((s.upd ups nx).hp.get) a'.defers
       rw[hhp]
       obtain⟨rs1,m1,m2,m3⟩:=e6
       obtain⟨rs2,n1,n2⟩:=e7
       refine⟨rs1,m1,m2,fun r hr=>⟨(m3 r hr).1,(m3 r hr).2.1,fun x c N hx hb=> ?_⟩⟩
       rcases f4 x c r N hx hb with ⟨y,c0,hy,hyb⟩ | ⟨c0,hx0,hxb⟩
       . exact(m3 r hr).2.2 y c0 N hy hyb
       . have hr2:r ∈ rs2\/r ∈ rs0:=by
           have:rs1=rs2++rs0:=BT (by
            have h5:a'.defers=rs1.map iA:=m1
            have h6:a.defers=rs0.map iA:=d1
            rw[List.map_append,<- h5,n1,h6])
           rw[this]at hr
           exact List.mem_append.1 hr
         rcases hr2 with h3 | h3
         . have h4:=n2 r h3
           have:=(sim.sf.hp.own x c0 r N hx0 hxb).2
           omega
         . exact(d3 r h3).2.2 x c0 N hx0 hxb
     . show HRel P ω w' Im' θ' ((s.upd ups nx).hp.get)
       rw[hhp];exact f3
     . show Fr nx θ' ((s.upd ups nx).hp.get)
       rw[hhp]
       exact sim.fr.step hle hkeys (bZ _ _ hm) f1
     . show Ext (fun x=>s.nx<=x) s.hp.get w Im θ ((s.upd ups nx).hp.get) w' Im' θ'
       rw[hhp];exact hE'
end
end Go.Am
namespace Go.Am
variable {P:Program} {ω:Nat->Value}
def mU{R D:Type}(P:Program)(T:cQ)(den:R->Option D)(rec:Rcr R):Prop:=
 ∀ (c:Code) (s:St) (k:Ex->St->R) (d:D),StOk s->den (rec c s k)=some d->∃ e s2,StOk s2/\Comes P (aM T c) s e s2/\den (k e s2)=some d
def LOk(P:Program)(T:cQ):Prop:=∀ w e,T w=some e->aR P e
section
variable {R D:Type} {fl:R} {den:R->Option D} (hfl:den fl=none) {T:cQ} {recL rec:Rcr R} (hrecL:mU P T den recL) (hrec:RcrOk P den rec) {κ:Nat->Option ag} {ι:Nat->Bool} (hκ:KOk P κ)
include hfl hrecL hrec hκ
theorem zM       (hmix:P.follows .mixedOrders=true)(hT:LOk P T):mU     P T den (d7     fl P κ ι T recL rec):=by
 intro c
 induction c with
 | skip=>intro s k d hs h;exact⟨.normal,s,hs,bO (fun ρ Q a w hq=>wpIn_skip hq),h⟩
 | region id ops draw=>
  intro s k d hs h
  obtain⟨s',hs',hc,h1⟩:=kS hfl hrec hκ (id:=id) hmix hs h
  exact⟨.normal,s',hs',hc,h1⟩
 | seq x y ihx ihy=>
  intro s k d hs h
  simp only[d7]at h
  obtain⟨e,s1,hs1,hc1,h1⟩:=ihx s _ d hs h
  cases e with
  | normal=>
   simp only[]at h1
   obtain⟨e2,s2,hs2,hc2,h2⟩:=ihy s1 k d hs1 h1
   refine⟨e2,s2,hs2,⟨hc1.later.trans hc2.later,by rw[hc2.size,hc1.size],by rw[hc2.rd,hc1.rd],0,fun ω ρ Q a w Im θ sim hA=> ?_⟩,h2⟩
   refine wpIn_seq (hc1.wp ρ _ a w Im θ sim (fun a' w' Im' θ' sim' hE hN=> ?_))
   exact hc2.wp ρ Q a' w' Im' θ' sim' (After.trans hc1.later hE hN hA)
  | exit id=>
   exact⟨.exit id,s1,hs1,⟨hc1.later,hc1.size,hc1.rd,0,fun ω ρ Q a w Im θ sim hA=>wpIn_seq (hc1.wp ρ _ a w Im θ sim (fun a' w' Im' θ' sim' hE hN=>hA a' w' Im' θ' sim' hE hN))⟩,h1⟩
  | ret=>
   exact⟨.ret,s1,hs1,⟨hc1.later,hc1.size,hc1.rd,0,fun ω ρ Q a w Im θ sim hA=>wpIn_seq (hc1.wp ρ _ a w Im θ sim (fun a' w' Im' θ' sim' hE hN=>hA a' w' Im' θ' sim' hE hN))⟩,h1⟩
 | cond c x y ihx ihy=>
  intro s k d hs h
  simp only[d7]at h
  split at h
  . rename_i b hb
    have hev:∀ {ω:Nat->Value} {ρ:Option Nat} {a:Act} {w:World} {Im:Nat->Prop} {θ:Th},Sim P ω ρ s a w Im θ->a.eval c= .bool b:=by
     intro ω ρ a w Im θ sim
     have:=sim.sf.eval c
     rw[<- eL,hb]at this
     generalize a.eval c=u at this
     cases this
     rfl
    cases b with
    | true=>
     obtain⟨e,s1,hs1,hc1,h1⟩:=ihx s k d hs h
     exact⟨e,s1,hs1,⟨hc1.later,hc1.size,hc1.rd,0,fun ω ρ Q a w Im θ sim hA=>wpIn_cond_true (hev sim) (hc1.wp ρ Q a w Im θ sim hA)⟩,h1⟩
    | false=>
     obtain⟨e,s1,hs1,hc1,h1⟩:=ihy s k d hs h
     exact⟨e,s1,hs1,⟨hc1.later,hc1.size,hc1.rd,0,fun ω ρ Q a w Im θ sim hA=>wpIn_cond_false (hev sim) (hc1.wp ρ Q a w Im θ sim hA)⟩,h1⟩
  . exact(ba hfl h).elim
 | block id c ih=>
  intro s k d hs h
  simp only[d7]at h
  obtain⟨e,s1,hs1,hc1,h1⟩:=ih s _ d hs h
  cases e with
  | normal=>exact⟨.normal,s1,hs1,⟨hc1.later,hc1.size,hc1.rd,0,fun ω ρ Q a w Im θ sim hA=>wpIn_block (hc1.wp ρ _ a w Im θ sim hA)⟩,h1⟩
  | ret=>exact⟨.ret,s1,hs1,⟨hc1.later,hc1.size,hc1.rd,0,fun ω ρ Q a w Im θ sim hA=>wpIn_block (hc1.wp ρ _ a w Im θ sim hA)⟩,h1⟩
  | exit j=>
   simp only[]at h1
   cases hj:Nat.beq j id with
   | true=>
    rw[hj]at h1
    have hji:j=id:=nE hj
    subst hji
    refine⟨.normal,s1,hs1,⟨hc1.later,hc1.size,hc1.rd,0,fun ω ρ Q a w Im θ sim hA=>wpIn_block (hc1.wp ρ _ a w Im θ sim (fun a' w' Im' θ' sim' hE hN=> ?_))⟩,h1⟩
    simp only[eX,Exit.inBlock,if_true]
    exact hA a' w' Im' θ' sim' hE hN
   | false=>
    rw[hj]at h1
    have hji:¬ j=id:=fun e=>by rw[fK e]at hj;cases hj
    refine⟨.exit j,s1,hs1,⟨hc1.later,hc1.size,hc1.rd,0,fun ω ρ Q a w Im θ sim hA=>wpIn_block (hc1.wp ρ _ a w Im θ sim (fun a' w' Im' θ' sim' hE hN=> ?_))⟩,h1⟩
    simp only[eX,Exit.inBlock,if_neg hji]
    exact hA a' w' Im' θ' sim' hE hN
 | loop c ih=>
  intro s k d hs h
  simp only[d7]at h
  obtain⟨e,s1,hs1,hc1,h1⟩:=ih s _ d hs h
  cases e with
  | normal=>
   simp only[]at h1
   obtain⟨e2,s2,hs2,hc2,h2⟩:=hrecL (.loop c) s1 k d hs1 h1
   obtain⟨m,hm⟩:=hc2.wps
   refine⟨e2,s2,hs2,⟨hc1.later.trans hc2.later,by rw[hc2.size,hc1.size],by rw[hc2.rd,hc1.rd],m+1,fun ω ρ Q a w Im θ sim hA=> ?_⟩,h2⟩
   show Code.roundsIn (FR ρ) 0 P (aM T c) Q (m+1) a w
   rw[roundsIn_succ]
   refine hc1.wp ρ _ a w Im θ sim (fun a' w' Im' θ' sim' hE hN=> ?_)
   exact hm ω ρ Q a' w' Im' θ' sim' (After.trans hc1.later hE hN hA)
  | exit id=>
   refine⟨.exit id,s1,hs1,⟨hc1.later,hc1.size,hc1.rd,1,fun ω ρ Q a w Im θ sim hA=> ?_⟩,h1⟩
   show Code.roundsIn (FR ρ) 0 P (aM T c) Q 1 a w
   rw[roundsIn_succ]
   exact hc1.wp ρ _ a w Im θ sim (fun a' w' Im' θ' sim' hE hN=>hA a' w' Im' θ' sim' hE hN)
  | ret=>
   refine⟨.ret,s1,hs1,⟨hc1.later,hc1.size,hc1.rd,1,fun ω ρ Q a w Im θ sim hA=> ?_⟩,h1⟩
   show Code.roundsIn (FR ρ) 0 P (aM T c) Q 1 a w
   rw[roundsIn_succ]
   exact hc1.wp ρ _ a w Im θ sim (fun a' w' Im' θ' sim' hE hN=>hA a' w' Im' θ' sim' hE hN)
 | exit id=>intro s k d hs h;exact⟨.exit id,s,hs,bO (fun ρ Q a w hq=>wpIn_exit hq),h⟩
 | label l=>intro s k d hs h;exact⟨.normal,s,hs,bO (fun ρ Q a w hq=>wpIn_label hq),h⟩
 | ret=>intro s k d hs h;exact⟨.ret,s,hs,bO (fun ρ Q a w hq=>wpIn_ret hq),h⟩
 | rangeFunc f ps x y _ _=>
  intro s k d hs h
  exact o8 hfl hrec hκ hmix _ s k d hs h
 | scope c ih=>
  intro s k d hs h
  simp only[d7]at h
  obtain⟨e,s1,hs1,hc1,h1⟩:=ih s k d hs h
  exact⟨e,s1,hs1,⟨hc1.later,hc1.size,hc1.rd,0,fun ω ρ Q a w Im θ sim hA=>dD (hc1.wp ρ _ a w Im θ sim (fun a' w' Im' θ' sim' hE hN=>by
   cases e <;> exact hA a' w' Im' θ' sim' hE hN))⟩,h1⟩
 | goto l=>intro s k d hs h;exact(ba hfl h).elim
 | refuse w=>
  intro s k d hs h
  simp only[d7]at h
  cases hw:T w with
  | none=>rw[hw]at h;exact(ba hfl h).elim
  | some e=>
   rw[hw]at h
   have hf:aM T (.refuse w)= .loop e.code:=by simp only[aM,hw]
   rw[hf]
   exact jV hfl (hT w e hw) hs h
end
theorem lx{R D:Type}{fl:R}{den:R->Option D}(hfl:den fl=none){T:cQ}{κ:Nat->Option ag}{ι:Nat->Bool}(hκ:KOk P κ)(hmix:P.follows .mixedOrders=true)(hT:LOk P T):∀ n,mU P T den (zA fl P κ ι T n)
 | 0=>fun c s k d hs h=>(ba hfl h).elim
 | n+1=>zM hfl (lx hfl hκ hmix hT n) (oB hfl hκ hmix n) hκ hmix hT
theorem rq(e:Ex):Ed (iL e)=e:=by cases e <;> rfl
mutual
theorem ru(f:Nat->Nat):∀ (v:SV),eK (bq f v)=eK v
 | .fn g a b=>by simp only[bq,eK,dW f a,dW f b]
 | .iface t v=>by simp only[bq,eK,ru f v]
 | .agg cs=>by simp only[bq,eK,dW f cs]
 | .tup vs=>by simp only[bq,eK,dW f vs]
 | .junk | .pnn _ _ | .opq _ | .bool _ | .int _ _ | .str _ | .ptr _ _ | .nilp | .pel _ _ | .sl _ _ _ _ | .nils | .psl _ _ | .emp | .qs _ _ _ _ | .qp _ _ _ _ | .mp _ | .nilm | .yl _ | .nilf | .nili=>rfl
theorem dW(f:Nat->Nat):∀ (vs:List SV),ce (cx f vs)=ce vs
 | []=>rfl
 | v :: vs=>by simp only[cx,ce,ru f v,dW f vs]
end
theorem LRel.om{ω':Nat->Value}{w:World}{Im:Nat->Prop}{θ:Th}{vs:List SV}{us:List Value}(h:LRel P ω w Im θ vs us)(hn:ce vs=true):LRel P ω' w Im θ vs us:=
 ⟨h.len,fun i v u hv hu=>(h.at_ i v u hv hu).om (ec hn hv)⟩
theorem nH(kd:IntKind):∀ kvs:List (Int × Bool),ce (bN kd kvs)=true
 | []=>rfl
 | _ :: l=>nH kd l
theorem nI:∀ kvs:List (Int × Bool),ce (cA kvs)=true
 | []=>rfl
 | _ :: l=>nI l
theorem CRel.om{ω':Nat->Value}{w:World}{Im:Nat->Prop}{θ:Th}{x:Nat}{c:Chunk}(h:CRel P ω w Im θ x c)(hn:iG c=true):CRel P ω' w Im θ x c:=by
 cases c with
 | cells T vs=>
  obtain⟨b,cs,fr,h1,h2,h3,h4⟩:=h
  exact⟨b,cs,fr,h1,h2,h3,h4.om hn⟩
 | seq e es=>exact h
 | loopr st vs ps asg bdy=>
  obtain⟨b,N,lp,h1,h2,h3,h4,h5,h6,h7⟩:=h
  exact⟨b,N,lp,h1,h2,h3,h4,h5,h6,h7.om hn⟩
 | mpc ks vs=>
  obtain⟨b,N,es,cl,h1,h2,h3,h4,h5⟩:=h
  simp only[iG,bA]at hn
  exact⟨b,N,es,cl,h1,h2,h3.om hn.1,h4.om hn.2,h5⟩
 | mpb kd kvs=>
  obtain⟨b,N,es,cl,h1,h2,h3,h4,h5⟩:=h
  exact⟨b,N,es,cl,h1,h2,h3.om (nH kd kvs),h4.om (nI kvs),h5⟩
theorem HRel.om{ω':Nat->Value}{w:World}{Im:Nat->Prop}{θ:Th}{h:HpF}(hr:HRel P ω w Im θ h)(hn:∀ x c,h x=some c->iG c=true):HRel P ω' w Im θ h:=
 ⟨fun x c hx=>(hr.at_ x c hx).om (hn x c hx),hr.inj,hr.own,hr.im⟩
theorem jS       :∀ {H:HpL},jJ     H=true->∀ {x:Nat} {c:Chunk},H.get x=some c->iG     c=true:=by
 intro H hn x c hx
 have hm:=aU H x c hx
 induction H with
 | nil=>cases hm
 | cons p H ih=>
  obtain⟨y,d⟩:=p
  simp only[jJ,bA]at hn
  rcases List.mem_cons.1 hm with h | h
  . cases h;exact hn.1
  . have:∀ (l:HpL),jJ     l=true->∀ q ∈ l,iG     q.2=true:=by
      intro l
      induction l with
      | nil=>intro _ q hq;cases hq
      | cons p l ih=>
       obtain⟨z,e⟩:=p
       intro hl q hq
       simp only[jJ,bA]at hl
       rcases List.mem_cons.1 hq with rfl | hq
       . exact hl.1
       . exact ih hl.2 q hq
    exact this H hn.2 (x,c) h
theorem jT:∀ {u:List (Nat × Option Chunk)},jI u=true->∀ {h:HpF},(∀ x c,h x=some c->iG c=true)->∀ x c,ad u h x=some c->iG c=true
 | [],_,h,hh,x,c,hx=>hh x c hx
 | (y,some d) :: u,hn,h,hh,x,c,hx=>by
  simp only[jI,bA]at hn
  simp only[ad]at hx
  refine jT hn.2 (fun z e hz=> ?_) x c hx
  by_cases hzy:z=y
  . simp only[hzy,if_true]at hz;cases hz;exact hn.1
  . simp only[hzy,if_false]at hz;exact hh z e hz
 | (y,none) :: u,hn,h,hh,x,c,hx=>by
  simp only[jI]at hn
  simp only[ad]at hx
  refine jT hn (fun z e hz=> ?_) x c hx
  by_cases hzy:z=y
  . simp only[hzy,if_true]at hz;cases hz
  . simp only[hzy,if_false]at hz;exact hh z e hz
theorem rx       {s:St}:∀ {l:List Nat},qI     s l=true->∀ t ∈ l,s.tmp t= .opq t
 | [],_,t,ht=>by cases ht
 | x :: l,h,t,ht=>by
  simp only[qI,bA]at h
  rcases List.mem_cons.1 ht with rfl | ht
  . have h1:=h.1
    split at h1
    . rename_i n hn
      rw[hn,nE h1]
    . cases h1
  . exact rx h.2 t ht
theorem nJ{e:LEnt}{ex:Ex}{s:St}{k:IntKind}{c:Int}{outs:List SV}{ups:List (Nat × Option Chunk)}(h:ae (kj e ex s)=some (.tup (.int k c :: outs),ups)):
  (∀ t ∈ e.keep,s.tmp t= .opq t)/\ce (e.outs.map s.tmp)=true/\jI ups=true/\c=iL ex/\∃ ns,cr s.hp s.m 2000 (ak (.tup (.int .i64 (iL ex) :: e.outs.map s.tmp))++bQ s.hp s.dirty) []=some ns/\
   outs=cx (bz ns s.m) (e.outs.map s.tmp)/\ups=fg s.hp (bz ns s.m) s.dirty++eb s.hp (bz ns s.m) ns:=by
 unfold kj at h
 cases hb:qI s e.keep&&ce (e.outs.map s.tmp)with
 | false=>rw[hb]at h;simp[ae]at h
 | true=>
  rw[hb]at h
  simp only[cT]at h
  simp only[bA]at hb
  unfold zB at h
  cases hre:cr s.hp s.m 2000 (ak (.tup (.int .i64 (iL ex) :: e.outs.map s.tmp))++bQ s.hp s.dirty) []with
  | none=>rw[hre]at h;simp[ae]at h
  | some ns=>
   rw[hre]at h
   simp only[]at h
   cases hu:jI (fg s.hp (bz ns s.m) s.dirty++eb s.hp (bz ns s.m) ns)with
   | false=>rw[hu]at h;simp[ae]at h
   | true=>
    rw[hu]at h
    simp only[cT,ae,bq,cx,sJ,pJ,SV.tup.injEq,List.cons.injEq,SV.int.injEq]at h
    obtain⟨⟨⟨_,rfl⟩,rfl⟩,rfl⟩:=h
    exact⟨rx hb.1,hb.2,hu,rfl,ns,rfl,rfl,rfl⟩
def az(μ:List SV->HpL->Nat)(s:ag)(n:Nat):ag:=fun args H=>.ite (Nat.blt (μ args H) n) (s args H) .fail
theorem ct        {κ:Nat->Option ag   }{ι:Nat->Bool}{T:cQ  }{sp:Bool}{fuel:Nat}{e:LEnt}{c:Code}{μ:List SV->HpL->Nat}(hκ:KOk P κ)(hmix:P.follows .mixedOrders=true)(hT:LOk P T)(hfill:aM    T c=e.code)
  (hstep:∀ n args H r,Nat.blt (μ args H) (n+1)=true->ae (e.s args H)=some r->ae (ay P κ ι T sp fuel e {e with s:=az μ e.s n} c args H)=some r):aR P e:=by
 have key:∀ n,aR     P {e with s:=az     μ e.s n}:=by
  intro n
  induction n with
  | zero=>
   intro args H k c outs ups hrun
   have:Nat.blt (μ args H) 0=false:=by
    cases h:Nat.blt (μ args H) 0 with
    | false=>rfl
    | true=>rw[bL]at h;omega
   simp[az,this,ae]at hrun
  | succ n ih=>
   intro args H k c0 outs ups hrun hcanon hol hal
   have hb:Nat.blt (μ args H) (n+1)=true:=by
    cases h:Nat.blt (μ args H) (n+1)with
    | true=>rfl
    | false=>simp[az,h,ae]at hrun
   have hrun':ae (e.s args H)=some (.tup (.int k c0 :: outs),ups):=by simpa [az,hb,ae]using hrun
   have hl:=hstep n args H _ hb hrun'
   unfold ay at hl
   cases hc:cI H 0&&dx H.length H&&Nat.beq args.length e.ins.length&&Nat.blt e.size 16000&&Nat.blt H.length 1000000&&ep e.size e.ins&&ep e.size e.keep&&ep e.size e.outs&&ce args&&jJ H&&ep H.length (aF args)with
   | false=>rw[hc]at hl;simp[ae]at hl
   | true=>
    rw[hc]at hl
    simp only[cT]at hl
    simp only[bA]at hc
    obtain⟨⟨⟨⟨⟨⟨⟨⟨⟨⟨c1,c2⟩,c3⟩,c4⟩,c5⟩,c6⟩,c7⟩,c8⟩,c9⟩,c10⟩,c11⟩:=hc
    have hsz:e.size < 16000:=by rwa [bL]at c4
    have hHl:H.length < 1000000:=by rwa [bL]at c5
    have hins:=cB _ c6
    have hkeep:=cB _ c7
    have houts:=cB _ c8
    have hhp:(dj sp e args H).hp.get=H.get:=fD c1 (by omega)
    have htm:∀ j,((dj sp e args H).tmp j= .junk)\/(j ∈ e.keep/\(dj sp e args H).tmp j= .opq j)\/∃ i:Nat,e.ins[i]? =some j/\∃ v,args[i]? =some v/\(dj sp e args H).tmp j=v:=by
     intro j
     have hk16:∀ x ∈ e.keep,x < 16000:=fun x hx=>by have:=hkeep x hx;omega
     have hi16:∀ x ∈ e.ins,x < 16000:=fun x hx=>by have:=hins x hx;omega
     have he:(dj sp e args H).tmp j=match(dS e.ins args (mF e.keep .lf)).get j with
      | some v=>v
      | none=>.junk:=rfl
     rcases lI e.ins args (mF e.keep .lf) j hi16 with ⟨g1,-⟩ | ⟨i,g1,v,g2,g3⟩
     . rw[he,g1,na _ _ _ hk16]
       by_cases hj:j ∈ e.keep
       . simp[hj]
       . simp[hj,Tr.get_lf]
     . exact .inr (.inr ⟨i,g1,v,g2,by rw[he,g3]⟩)
    have hs0:StOk (dj sp e args H):=by
     refine⟨hsz,hHl,fun t ht=> ?_,?_,Nat.le_refl _⟩
     . have ht':e.size<=t:=ht
       rcases htm t with g | ⟨g,_⟩ | ⟨i,g,_⟩
       . exact g
       . have:=hkeep t g;omega
       . have:=hins t (List.mem_of_getElem? g);omega
     . intro x c hx
       rw[hhp]at hx
       exact dk c1 hx
    obtain⟨ex1,s1,hs1,hc1,hk1⟩:=lx (den:=ae) rfl hκ hmix hT fuel c _ _ _ hs0 hl
    rw[hfill]at hc1
    have hall:∃ ex sF,StOk sF/\Comes P (.loop e.code) (dj sp e args H) ex sF/\ae (kj e ex sF)=some (.tup (.int k c0 :: outs),ups):=by
     cases ex1 with
     | normal=>
      simp only[]at hk1
      obtain⟨ex2,s2,hs2,hc2,hk2⟩:=jV (den:=ae) rfl ih hs1 hk1
      obtain⟨m,hm⟩:=hc2.wps
      refine⟨ex2,s2,hs2,⟨hc1.later.trans hc2.later,by rw[hc2.size,hc1.size],by rw[hc2.rd,hc1.rd],m+1,fun ω ρ Q a w Im θ sim hA=> ?_⟩,hk2⟩
      show Code.roundsIn (FR ρ) 0 P e.code Q (m+1) a w
      rw[roundsIn_succ]
      refine hc1.wp ρ _ a w Im θ sim (fun a' w' Im' θ' sim' hE hN=> ?_)
      exact hm ω ρ Q a' w' Im' θ' sim' (After.trans hc1.later hE hN hA)
     | exit id=>
      refine⟨.exit id,s1,hs1,⟨hc1.later,hc1.size,hc1.rd,1,fun ω ρ Q a w Im θ sim hA=> ?_⟩,hk1⟩
      show Code.roundsIn (FR ρ) 0 P e.code Q 1 a w
      rw[roundsIn_succ]
      exact hc1.wp ρ _ a w Im θ sim (fun a' w' Im' θ' sim' hE hN=>hA a' w' Im' θ' sim' hE hN)
     | ret=>
      refine⟨.ret,s1,hs1,⟨hc1.later,hc1.size,hc1.rd,1,fun ω ρ Q a w Im θ sim hA=> ?_⟩,hk1⟩
      show Code.roundsIn (FR ρ) 0 P e.code Q 1 a w
      rw[roundsIn_succ]
      exact hc1.wp ρ _ a w Im θ sim (fun a' w' Im' θ' sim' hE hN=>hA a' w' Im' θ' sim' hE hN)
    obtain⟨ex,sF,hsF,hC,hfin⟩:=hall
    obtain⟨f1,f2,f3,rfl,ns,hre,rfl,rfl⟩:=nJ hfin
    obtain⟨m,hm⟩:=hC.wps
    refine⟨m,fun ω θ Im w a Q hsize hargs hH hfr hMk hpost=> ?_⟩
    have hmF:sF.m=H.length:=hC.later.m
    have hsF2:sF.size=e.size:=hC.size
    have sim0:Sim P (fun t=>a.tmps.getD t undef) none (dj     sp e args H) a w Im θ:=by
     refine⟨hs0,⟨hsize,fun t ht=> ?_,hs0.out,by rw[hhp];exact hMk,by rw[hhp];exact hH.om (fun x c hx=>jS c10 hx)⟩,?_,.inl ⟨rfl,rfl⟩⟩
     . rcases htm t with g | ⟨g,g2⟩ | ⟨i,g,v,g2,g3⟩
       . rw[g];exact .junk
       . rw[g2];exact .opq
       . rw[g3]
         exact(hargs.at_ i v _ g2 (by simp[g])).om (ec c9 g2)
     . intro x hx
       have hx':H.length<=x:=hx
       refine⟨hfr x hx',?_⟩
       rw[hhp]
       cases hg:H.get x with
       | none=>rfl
       | some c=>have:=dk c1 hg;omega
    refine hm (fun t=>a.tmps.getD t undef) none Q a w Im θ sim0 (fun a' w' Im' θ' sim' hE hN=> ?_)
    have hsame:∀ x,x < H.length->sF.hp.get x=H.get x\/x ∈ sF.dirty:=by
     intro x hx
     have:=hC.later.same x hx
     rwa [hhp]at this
    have hdl:∀ x ∈ sF.dirty,x < H.length:=by
     intro x hx
     rcases hC.later.low x hx with h | h
     . cases h
     . exact h
    have hext:Ext (fun x=>H.length<=x) H.get w Im θ sF.hp.get w' Im' θ':=by
     rw[<- hhp];exact hE
    have hz:VRel P (fun t=>a.tmps.getD t undef) w' Im' θ' (.tup (.int .i64 (iL ex) :: e.outs.map sF.tmp)) (.tuple (.int .i64 (iL ex) :: (e.outs.map fun t=>a'.tmps.getD t undef)).toArray):=by
     have hl:=pj (P:=P) (ω:=fun t=>a.tmps.getD t undef) (w:=w') (Im:=Im') (θ:=θ') (f:=sF.tmp) (g:=fun t=>a'.tmps.getD t undef) (l:=e.outs) (fun t ht=>sim'.sf.tm t (by rw[hsF2];exact houts t ht))
     refine .tup (by simp) (fun i v u hv hu=> ?_)
     cases i with
     | zero=>simp at hv hu;subst hv;subst hu;exact .int
     | succ i=>exact hl.at_ i v u (by simpa using hv) (by simpa using hu)
    obtain⟨θ3,g1,g2,g3,g4⟩:=gn c1 c2 hfr hmF hsame hdl hre sim'.sf.hp hext hz
    rw[<- hmF]at g1 g2 g3 g4
    have g2':LRel P (fun t=>a.tmps.getD t undef) w' Im' θ3 (cx (bz ns sF.m) (e.outs.map sF.tmp)) (e.outs.map fun t=>a'.tmps.getD t undef):=by
     simp only[bq,cx]at g2
     cases g2 with
     | tup p1 p2=>exact⟨by rw[cJ];simp,fun i v u hv hu=>p2 (i+1) v u (by simpa using hv) (by simpa using hu)⟩
    rw[<- hmF]at hpost
    have:=hpost a' w' Im' θ3 (by rw[sim'.sf.size];exact hsF2) g1 (g2'.om (by rw[dW];exact f2)) (g3.om (jT f3 (fun x c hx=>jS c10 hx))) (fun t ht=> ?_) ?_ hN
    . rw[rq]at this;exact this
    . have h1:=sim'.sf.tm t (by rw[hsF2];exact hkeep t ht)
      rw[f1 t ht]at h1
      generalize a'.tmps.getD t undef=z at h1
      cases h1
      rfl
    . obtain⟨rs,m1,m2,m3⟩:=sim'.sf.df
      refine⟨rs,m1,m2,fun r hr=>⟨(m3 r hr).1,(m3 r hr).2.1,fun y c N hy hb=> ?_⟩⟩
      obtain⟨x,c0,hx,hxb⟩:=g4 y c r N hy hb
      exact(m3 r hr).2.2 x c0 N hx hxb
 intro args H k c0 outs ups hrun hcanon hol hal
 refine key (μ args H+1) args H k c0 outs ups ?_ hcanon hol hal
 have:Nat.blt (μ args H) (μ args H+1)=true:=by rw[bL];omega
 simp only[az,ae,this,if_true]
 exact hrun
end Go.Am
namespace Go.Am
variable {P:Program} {ω:Nat->Value}
theorem aZ         {κ:Nat->Option ag   }(hκ:KOk P κ)(hmix:P.follows .mixedOrders=true){T:cQ  }(hT:LOk P T){f:FuncId}{fn:Func}(hf:P.funcs[f]? =some fn){c:Code}(hb:fn.body=some (aM    T c)){ι:Nat->Bool}{sp:Bool}{fuel:Nat}:qK     P f (bV     P κ ι T sp fuel fn c):=by
 intro args H v ups hrun _ ω θ Im w us hargs hH hfr
 unfold bV at hrun
 cases hc:cI H 0&&dx H.length H&&Nat.ble args.length fn.ntmps&&Nat.blt fn.ntmps 16000&&Nat.blt H.length 1000000 with
 | false=>rw[hc]at hrun;simp[ae]at hrun
 | true=>
  rw[hc]at hrun
  simp only[cT]at hrun
  simp only[bA]at hc
  obtain⟨⟨⟨⟨c1,c2⟩,c3⟩,c4⟩,c5⟩:=hc
  have hal:args.length<=fn.ntmps:=by rwa [Nat.ble_eq]at c3
  have hnt:fn.ntmps < 16000:=by rwa [bL]at c4
  have hHl:H.length < 1000000:=by rwa [bL]at c5
  have hhp:(bU sp fn args H).hp.get=H.get:=fD c1 (by omega)
  have hs0:StOk {bU sp fn args H with tm:=.lf,size:=0}:=by
   refine⟨by show 0 < 16000;omega,hHl,fun t _=>rfl,?_,Nat.le_refl _⟩
   intro x c hx
   have hx':(bU sp fn args H).hp.get x=some c:=hx
   rw[hhp]at hx'
   exact dk c1 hx'
  have hst:StOk (bU sp fn args H):=gj hs0 hal hnt
  obtain⟨e,s2,hs2,hcomes,hfin⟩:=lx (den:=ae) rfl hκ hmix hT fuel c _ _ _ hst hrun
  have hm2:s2.m=H.length:=hcomes.later.m
  have he:∀ id,e≠ .exit id:=by
   rintro id rfl
   simp[ae]at hfin
  have hfin':ae (fY P fn s2)=some (v,ups):=by
   cases e with
   | exit id=>exact absurd rfl (he id)
   | normal=>exact hfin
   | ret=>exact hfin
  unfold fY at hfin'
  cases hrs:bR P s2 fn.results.toList with
  | none=>rw[hrs]at hfin';simp[ae]at hfin'
  | some vs=>
   rw[hrs]at hfin'
   simp only[]at hfin'
   cases hre:cr s2.hp s2.m 2000 (ak (cP vs)++bQ s2.hp s2.dirty) []with
   | none=>rw[hre]at hfin';simp[ae]at hfin'
   | some ns=>
     rw[hre]at hfin'
     simp only[ae,sJ,pJ]at hfin'
     rw[hm2]at hfin'
     obtain⟨rfl,rfl⟩:=hfin'
     have hfr0:Fr (bU sp fn args H).nx θ (bU sp fn args H).hp.get:=by
      intro x hx
      have hx':H.length<=x:=hx
      refine⟨hfr x hx',?_⟩
      rw[hhp]
      cases hg:H.get x with
      | none=>rfl
      | some c=>have:=dk c1 hg;omega
     have sim0:=ic (P:=P) hs0 (args:=args) (us:=us) hal hnt (w:=w) (Im:=Im) (θ:=θ) (by show HRel P ω w Im θ (bU sp fn args H).hp.get;rw[hhp];exact hH) hfr0 hargs
     refine(callsIn_wide (n:=0)).1 (gh (ρ:=none) hf hb he hcomes sim0 hrs (fun u w' Im' θ' hH2 _ hE hvu=> ?_))
     have hsame:∀ x,x < H.length->s2.hp.get x=H.get x\/x ∈ s2.dirty:=by
      intro x hx
      have:=hcomes.later.same x hx
      rwa [hhp]at this
     have hdl:∀ x ∈ s2.dirty,x < H.length:=by
      intro x hx
      rcases hcomes.later.low x hx with h | h
      . cases h
      . exact h
     have hext:Ext (fun x=>H.length<=x) H.get w Im θ s2.hp.get w' Im' θ':=by
      rw[<- hhp];exact hE
     obtain⟨θ3,g1,g2,g3,-⟩:=gn c1 c2 hfr hm2 hsame hdl hre hH2 hext hvu
     exact⟨u,θ3,Im',rfl,g1,g2,g3⟩
def aL:List (String × LEnt)->cQ
 | [],_=>none
 | (w,e) :: l,x=>if w=x then some e else aL l x
theorem aE:LOk P (aL []):=fun w e h=>by cases h
theorem bf{w:String}{e:LEnt}{l:List (String × LEnt)}(h:aR P e)(hl:LOk P (aL l)):LOk P (aL ((w,e) :: l)):=by
 intro x e' hx
 simp only[aL]at hx
 split at hx
 . cases hx;exact h
 . exact hl x e' hx
end Go.Am
namespace Go.Am
variable {P:Program}
def sw(k nw x:Nat):Nat:=bif Nat.beq x k then nw else x
theorem Oh{k nw:Nat}:sw k nw k=nw:=by simp[sw]
theorem Oi{k nw x:Nat}(h:x≠k):sw k nw x=x:=by simp[sw,b8 h]
theorem vO      {ω:Nat->Value}{H:HpL}{w w':World}{Im Im':Nat->Prop}{θ θ':Th}{ups ups':List (Nat × Option Chunk)}{k nw:Nat}(hfr:∀ x,H.length<=x->θ x=none)(hnw:H.length<=nw)
  (hc0:∀ x c,ad ups H.get x=some c->nw ∉ aJ c)
  (hu:∀ x,ad ups' H.get x=if x=nw then(ad ups H.get k).map (br (sw k nw))else if x=k then none else(ad ups H.get x).map (br (sw k nw)))
  (hE:Ext (fun x=>H.length<=x) H.get w Im θ (ad ups H.get) w' Im' θ') (hH':HRel P ω w' Im' θ' (ad ups H.get)):
  ∃ θ2:Th,Ext (fun x=>H.length<=x) H.get w Im θ (ad ups' H.get) w' Im' θ2/\HRel P ω w' Im' θ2 (ad ups' H.get)/\(∀ v u,VRel P ω w' Im' θ' v u->nw ∉ ak v->VRel P ω w' Im' θ2 (bq (sw k nw) v) u)/\
   (∀ y c',ad ups' H.get y=some c'->∃ x c,ad ups H.get x=some c/\θ2 y=θ' x):=by
 let θ2:Th:=fun x=>if x=nw then θ' k else θ' x
 have t2:∀ x,x≠nw->θ2 x=θ' x:=fun x hx=>if_neg hx
 have tn:θ2 nw=θ' k:=if_pos rfl
 have hsw:∀ x,x≠nw->∀ p,θ' x=some p->θ2 (sw k nw x)=some p:=by
  intro x hx p hp
  by_cases hxk:x=k
  . subst hxk;rw[Oh,tn];exact hp
  . rw[Oi hxk,t2 x hx];exact hp
 have src:∀ y c',ad   ups' H.get y=some c'->∃ x c,ad   ups H.get x=some c/\c'=br   (sw k nw) c/\θ2 y=θ' x/\(y=nw/\x=k\/y≠nw/\y≠k/\x=y):=by
  intro y c' hy
  rw[hu y]at hy
  by_cases h1:y=nw
  . subst h1
    rw[if_pos rfl,Option.map_eq_some_iff]at hy
    obtain⟨c,h1,h2⟩:=hy
    exact⟨k,c,h1,h2.symm,tn,.inl ⟨rfl,rfl⟩⟩
  . rw[if_neg h1]at hy
    by_cases h2:y=k
    . rw[if_pos h2]at hy;cases hy
    . rw[if_neg h2,Option.map_eq_some_iff]at hy
      obtain⟨c,h3,h4⟩:=hy
      exact⟨y,c,h3,h4.symm,t2 y h1,.inr ⟨h1,h2,rfl⟩⟩
 refine⟨θ2,?_,?_,?_,?_⟩
 . refine {thOld:=fun x hx=> ?_,thUp:=fun x p hp=> ?_,imUp:=hE.imUp,size:=hE.size,keep:=hE.keep,os:=hE.os,output:=hE.output,tape:=hE.tape,imNew:=hE.imNew,ownNew:=fun y c' b N hy hx=> ?_}
   . have:x≠nw:=by intro e;subst e;exact hx hnw
     rw[t2 x this];exact hE.thOld x hx
   . have:x≠nw:=by intro e;subst e;rw[hfr x hnw]at hp;cases hp
     rw[t2 x this];exact hE.thUp x p hp
   . obtain⟨x,c,h1,_,h3,_⟩:=src y c' hy
     exact hE.ownNew x c b N h1 (h3 ▸ hx)
 . refine⟨fun y c' hy=> ?_,fun y y' c c' b N N' hy hy' hx hx'=> ?_,fun y c b N hy hx=> ?_,hH'.im⟩
   . obtain⟨x,c,h1,rfl,h3,_⟩:=src y c' hy
     exact(hH'.at_ x c h1).ren (sw k nw) (fun z hz=>hsw z (fun e=>hc0 x c h1 (e ▸ hz))) h3
   . obtain⟨x,c1,h1,_,h3,h4⟩:=src y c hy
     obtain⟨x',c1',h1',_,h3',h4'⟩:=src y' c' hy'
     have:=hH'.inj x x' c1 c1' b N N' h1 h1' (h3 ▸ hx) (h3' ▸ hx')
     omega
   . obtain⟨x,c,h1,_,h3,_⟩:=src y _ hy
     exact hH'.own x c b N h1 (h3 ▸ hx)
 . exact fun v u hv hv0=>hv.ren (sw k nw) (fun x hx=>hsw x (fun e=>hv0 (e ▸ hx)))
 . intro y c' hy
   obtain⟨x,c,h1,_,h3,_⟩:=src y c' hy
   exact⟨x,c,h1,h3⟩
def cg(H:HpL)(v:SV)(ups:List (Nat × Option Chunk))(v':SV)(ups':List (Nat × Option Chunk)):Prop:=
 ∃ k nw,H.length<=nw/\nw ∉ ak v/\(∀ x c,ad ups H.get x=some c->nw ∉ aJ c)/\v'=bq (sw k nw) v/\
   (∀ x,ad ups' H.get x=if x=nw then(ad ups H.get k).map (br (sw k nw))else if x=k then none else(ad ups H.get x).map (br (sw k nw)))
theorem dq{f:FuncId}{s s':ag}(h:Known P f s) (hs:∀ args H v' ups',ae (s' args H)=some (v',ups')->(∃ ups,ae (s args H)=some (v',ups)/\∀ x,ad ups' H.get x=ad ups H.get x)\/
  ∃ v ups,ae (s args H)=some (v,ups)/\cg H v ups v' ups'):Known P f s':=by
 refine⟨h.fn,?_⟩
 intro args H v' ups' hr hc ω θ Im w us hl hH hfr
 rcases hs args H v' ups' hr with ⟨ups,hr',he⟩ | ⟨v,ups,hr',k,nw,hnw,hv0,hc0,rfl,hu⟩
 . rw[show ad ups' H.get=ad ups H.get from funext he]
   exact h.ok args H v' ups hr' hc ω θ Im w us hl hH hfr
 . refine(h.ok args H _ _ hr' hc ω θ Im w us hl hH hfr).mono ?_
   rintro o w' ⟨u,θ',Im',rfl,hE,hv,hH'⟩
   obtain⟨θ2,h1,h2,h3,_⟩:=vO hfr hnw hc0 hu hE hH'
   exact⟨u,θ2,Im',rfl,h1,h3 v u hv hv0,h2⟩
theorem ia      {e:LEnt}{s':ag   }(h:aR     P e) (hs:∀ args H v' ups',ae   (s' args H)=some (v',ups')->(∃ ups,ae   (e.s args H)=some (v',ups)/\∀ x,ad   ups' H.get x=ad   ups H.get x)\/
  ∃ v ups,ae (e.s args H)=some (v,ups)/\cg H v ups v' ups'):aR P {e with s:=s'}:=by
 intro args H kk c outs' ups' hr hc ho ha
 rcases hs args H _ ups' hr with ⟨ups,hr',he⟩ | ⟨v,ups,hr',k,nw,hnw,hv0,hc0,hvr,hu⟩
 . have he':ad ups' H.get=ad ups H.get:=funext he
   obtain⟨m,hm⟩:=h args H kk c outs' ups hr' hc ho ha
   exact⟨m,fun ω θ Im w a Q hsz hl hH hfr hmk hQ=>hm ω θ Im w a Q hsz hl hH hfr hmk (by rw[<- he'];exact hQ)⟩
 . obtain⟨outs,rfl,rfl⟩:∃ outs,v= .tup (.int kk c :: outs)/\outs'=cx   (sw k nw) outs:=by
     cases v with
     | tup vs=>
      cases vs with
      | nil=>simp[bq,cx]at hvr
      | cons x xs=>
       cases x <;> simp[bq,cx]at hvr
       obtain⟨⟨rfl,rfl⟩,rfl⟩:=hvr
       exact⟨xs,rfl,rfl⟩
     | _=>simp[bq]at hvr
   obtain⟨m,hm⟩:=h args H kk c outs ups hr' hc (by rw[cJ]at ho;simpa using ho) ha
   refine⟨m,fun ω θ Im w a Q hsz hl hH hfr hmk hQ=>hm ω θ Im w a Q hsz hl hH hfr hmk ?_⟩
   intro a' w' Im' θ' b1 b2 b3 b4 b5 b6 b7
   obtain⟨θ2,h1,h2,h3,h4⟩:=vO hfr hnw hc0 hu b2 b4
   refine hQ a' w' Im' θ2 b1 h1 ⟨by rw[cJ];simpa using b3.len,fun i v u hv hu'=> ?_⟩ h2 b5 ?_ b7
   . rw[cJ,List.getElem?_map,Option.map_eq_some_iff]at hv
     obtain⟨x,hx,rfl⟩:=hv
     refine h3 x u (b3.at_ i x u hx hu') (fun hn=>hv0 ?_)
     show nw ∈ aF (.int kk c :: outs)
     exact List.mem_append.2 (.inr (lq (List.mem_of_getElem? hx) nw hn))
   . obtain⟨rs,r1,r2,r3⟩:=b6
     refine⟨rs,r1,r2,fun r hrr=>⟨(r3 r hrr).1,(r3 r hrr).2.1,fun y c' N hy ht=> ?_⟩⟩
     obtain⟨x,c,hx,hx2⟩:=h4 y c' hy
     exact(r3 r hrr).2.2 x c N hx (hx2 ▸ ht)
theorem j9{f:FuncId}{s s':ag}(h:Known P f s)(hs:∀ args H v ups',ae (s' args H)=some (v,ups')->∃ ups,ae (s args H)=some (v,ups)/\ad ups' H.get=ad ups H.get):Known P f s':=by
 refine⟨h.fn,?_⟩
 intro args H v ups' hr hc ω θ Im w us hl hH hfr
 obtain⟨ups,hr',he⟩:=hs args H v ups' hr
 rw[he]
 exact h.ok args H v ups hr' hc ω θ Im w us hl hH hfr
/- What is handed in. -/
def xA(pre:HpL):CTree->CTree
 | .ret v ups=>.ret v (pre.map (fun p=>(p.1,some p.2))++ups)
 | .ite b t e=>.ite b (xA pre t) (xA pre e)
 | .fail=>.fail
def me:HpL->Nat->Chunk->HpL
 | [],x,c=>[(x,c)]
 | p :: H,x,c=>bif Nat.beq p.1 x then(x,c) :: H else p :: me H x c
def cq:List (Option (Nat × Nat))->List SV->HpL->HpL->List SV × HpL × HpL
 | some (e,sz) :: fs,.nils :: as,H,pre=>
  let r:=cq fs as (H++[(H.length,.seq e [])]) (pre++[(H.length,.seq e [])])
  (.qs H.length sz 0 0 :: r.1,r.2)
 | some (e,sz) :: fs,.sl x 1 0 n :: as,H,pre=>
  match H.get x with
  | some (.cells T cs)=>bif Nat.beq T e&&Nat.beq sz 1&&kH cs then
    let r:=cq fs as (me H x (.seq e cs)) (pre++[(x,.seq e cs)])
    (.qs x 1 0 n :: r.1,r.2)
   else let r:=cq fs as H pre;(.sl x 1 0 n :: r.1,r.2)
  | _=>let r:=cq fs as H pre;(.sl x 1 0 n :: r.1,r.2)
 | _ :: fs,a :: as,H,pre=>let r:=cq fs as H pre;(a :: r.1,r.2)
 | [],as,H,pre=>(as,H,pre)
 | _,[],H,pre=>([],H,pre)
def inS(fs:List (Option (Nat × Nat)))(s:ag):ag:=fun args H=>
 let r:=cq fs args H []
 xA r.2.2 (s r.1 r.2.1)
theorem ka{x n:Nat}{c:Chunk}:∀ (H:HpL),H.get n=none->HpL.get (H++[(n,c)]) x=if x=n then some c else H.get x
 | [],_=>by
  simp only[nA,HpL.get]
  by_cases h:x=n
  . subst h;simp
  . rw[b8 (fun e=>h e.symm),if_neg h];rfl
 | (y,d) :: H,hn=>by
  simp only[HpL.get]at hn
  simp only[List.cons_append,HpL.get]
  by_cases hyn:y=n
  . subst hyn;rw[fK rfl]at hn;cases hn
  . rw[b8 hyn]at hn
    rw[ka H hn]
    by_cases h:y=x
    . subst h;simp only[fK rfl,if_neg hyn,cT]
    . rw[b8 h];rfl
theorem mf{x y:Nat}{c:Chunk}:∀ (H:HpL),HpL.get (me H y c) x=if x=y then some c else H.get x
 | []=>by
  simp only[me,HpL.get]
  by_cases h:x=y
  . subst h;simp
  . rw[b8 (fun e=>h e.symm),if_neg h];rfl
 | (z,d) :: H=>by
  simp only[me]
  by_cases hz:z=y
  . subst hz
    rw[fK rfl,cT]
    simp only[HpL.get]
    by_cases h:z=x
    . subst h;simp
    . rw[b8 h,if_neg (fun e=>h e.symm)];rfl
  . rw[b8 hz,cF]
    simp only[HpL.get]
    rw[mf H]
    by_cases h:z=x
    . subst h;simp only[fK rfl,if_neg hz,cT]
    . rw[b8 h];rfl
theorem zj     {y:Nat}{c d:Chunk}:∀ (H:HpL),H.get y=some d->(me   H y c).length=H.length/\∀ i:Nat,((me   H y c)[i]?).map (·.1)=(H[i]?).map (·.1)
 | [],h=>by simp[HpL.get]at h
 | (z,e) :: H,h=>by
  simp only[HpL.get]at h
  simp only[me]
  by_cases hz:z=y
  . subst hz
    rw[fK rfl,cT]
    exact⟨rfl,fun i=>by cases i <;> rfl⟩
  . rw[b8 hz]at h
    rw[b8 hz,cF]
    obtain⟨h1,h2⟩:=zj (c:=c) H h
    exact⟨by simp[h1],fun i=>by cases i with
     | zero=>rfl
     | succ i=>simpa using h2 i⟩
theorem AO{H:HpL}(hc:gL H):∀ x c,H.get x=some c->x < H.length:=by
 intro x c hx
 obtain⟨i,hi⟩:=List.mem_iff_getElem?.1 (aU H x c hx)
 have:=hc i _ hi
 obtain⟨hlt,_⟩:=List.getElem?_eq_some_iff.1 hi
 simp at this;omega
theorem xB{H:HpL}(hc:gL H):H.get H.length=none:=by
 cases h:H.get H.length with
 | none=>rfl
 | some c=>have:=AO hc _ _ h;omega
structure InOk (P:Program) (args:List SV) (H:HpL) (args2:List SV) (H2:HpL):Prop where
 canon:gL H2
 len:H.length<=H2.length
 al:args2.length=args.length
 back:∀ x c,H2.get x=some c->(∃ c',H.get x=some c')\/H.length<=x
 rel:∀ (ω:Nat->Value) (θ:Th) (w:World) (Im:Nat->Prop) (us:List Value),LRel P ω w Im θ args us->HRel P ω w Im θ H.get->(∀ x,H.length<=x->θ x=none)->LRel P ω w Im θ args2 us/\HRel P ω w Im θ H2.get
theorem LRel.cons{ω:Nat->Value}{w:World}{Im:Nat->Prop}{θ:Th}{v:SV}{vs:List SV}{u:Value}{us:List Value}(h:VRel P ω w Im θ v u)(hl:LRel P ω w Im θ vs us):LRel P ω w Im θ (v :: vs) (u :: us):=
 ⟨by simp[hl.len],fun i v' u' hv hu=>by
  cases i with
  | zero=>simp at hv hu;subst hv;subst hu;exact h
  | succ i=>exact hl.at_ i v' u' (by simpa using hv) (by simpa using hu)⟩
theorem LRel.uncons{ω:Nat->Value}{w:World}{Im:Nat->Prop}{θ:Th}{v:SV}{vs:List SV}{us:List Value}(h:LRel P ω w Im θ (v :: vs) us):∃ u us',us=u :: us'/\VRel P ω w Im θ v u/\LRel P ω w Im θ vs us':=by
 cases us with
 | nil=>have:=h.len;simp at this
 | cons u us=>exact⟨u,us,rfl,h.at_ 0 v u rfl rfl,⟨by simpa using h.len,fun i v u hv hu=>h.at_ (i+1) v u (by simpa using hv) (by simpa using hu)⟩⟩
theorem InOk.cons{a a2:SV}{as as2:List SV}{H H2:HpL}(h:InOk P as H as2 H2)(ha:∀ (ω:Nat->Value) (θ:Th) (w:World) (Im:Nat->Prop) (u:Value),VRel P ω w Im θ a u->VRel P ω w Im θ a2 u):InOk P (a :: as) H (a2 :: as2) H2:=
 ⟨h.canon,h.len,by simp[h.al],h.back,fun ω θ w Im us hl hH hf=>by
  obtain⟨u,us',rfl,h1,h2⟩:=hl.uncons
  obtain⟨h3,h4⟩:=h.rel ω θ w Im us' h2 hH hf
  exact⟨h3.cons (ha _ _ _ _ _ h1),h4⟩⟩
theorem HRel.fresh{ω:Nat->Value}{w:World}{Im:Nat->Prop}{θ:Th}{H:HpL}(h:HRel P ω w Im θ H.get){n:Nat}{e:TypeId}(hn:H.get n=none)(ht:θ n=none):HRel P ω w Im θ (HpL.get (H++[(n,.seq e [])])):=by
 refine⟨fun x c hx=> ?_,fun x y c c' b N N' hx hy h1 h2=> ?_,fun x c b N hx h1=> ?_,h.im⟩
 . rw[ka H hn]at hx
   by_cases he:x=n
   . subst he;rw[if_pos rfl]at hx;cases hx;exact .inl ⟨rfl,ht⟩
   . rw[if_neg he]at hx;exact h.at_ x c hx
 . rw[ka H hn]at hx hy
   have e1:x≠n:=fun e=>by subst e;rw[ht]at h1;cases h1
   have e2:y≠n:=fun e=>by subst e;rw[ht]at h2;cases h2
   rw[if_neg e1]at hx
   rw[if_neg e2]at hy
   exact h.inj x y c c' b N N' hx hy h1 h2
 . rw[ka H hn]at hx
   have e1:x≠n:=fun e=>by subst e;rw[ht]at h1;cases h1
   rw[if_neg e1]at hx
   exact h.own x c b N hx h1
theorem CRel.bytes{ω:Nat->Value}{w:World}{Im:Nat->Prop}{θ:Th}{x:Nat}{T:TypeId}{cs:List SV}(h:CRel P ω w Im θ x (.cells T cs))(hb:kH cs=true)(hu:P.underlying T=some (.int .u8))(h1:P.cellsOf T=1):CRel P ω w Im θ x (.seq T cs):=by
 obtain⟨b,us,fr,ht,hw,hf,hl⟩:=h
 have hlen:=hl.len
 have hex:∀ v ∈ cs,expand P T v=v:=by
  intro v hv
  obtain⟨n,rfl⟩:=ij hb v hv
  have ha:aq P T=false:=by unfold aq;rw[hu]
  simp only[expand,ha,cF,aS,hu,asI]
 refine .inr ⟨b,cs.length,us,T,fr,fun i=>us.toList.getD i undef,ht,hw,hf,⟨by simpa using hlen.symm,rfl⟩,by rw[h1];omega,hex,?_⟩
 intro i v hi
 have hlt:i < us.size:=by
  obtain⟨hlt,_⟩:=List.getElem?_eq_some_iff.1 hi
  rw[hlen]at hlt;simpa using hlt
 have hui:us.toList[i]? =some (us.toList.getD i undef):=by
  rw[gD0,Array.getElem?_toList,Array.getElem?_eq_getElem hlt];rfl
 have hv:=hl.at_ i v _ hi hui
 obtain⟨n,rfl⟩:=ij hb v (List.mem_of_getElem? hi)
 show VRel P om0 w Im eG _ (us.toList.getD i undef)/\(us.toList.getD i undef).cells.size=_/\∀ (d:Nat) (c:Value),(us.toList.getD i undef).cells[d]? =some c->_
 generalize hg:us.toList.getD i undef=u at hv hui ⊢
 cases hv
 refine⟨.int,by rw[h1];rfl,fun d c hd=> ?_⟩
 rw[h1,Nat.mul_one]
 cases d with
 | zero=>
  simp[Value.cells]at hd;subst hd
  simpa [Array.getElem?_toList]using hui
 | succ d=>simp[Value.cells]at hd
theorem HRel.bytes{ω:Nat->Value}{w:World}{Im:Nat->Prop}{θ:Th}{H:HpL}(h:HRel P ω w Im θ H.get){x:Nat}{T:TypeId}{cs:List SV}(hx:H.get x=some (.cells T cs))(hb:kH cs=true)(hu:P.underlying T=some (.int .u8))(h1:P.cellsOf T=1):HRel P ω w Im θ (HpL.get (me H x (.seq T cs))):=by
 have up:∀ y c,HpL.get (me H x (.seq T cs)) y=some c->∃ c',H.get y=some c':=by
  intro y c hy
  rw[mf]at hy
  by_cases he:y=x
  . subst he;exact⟨_,hx⟩
  . rw[if_neg he]at hy;exact⟨_,hy⟩
 refine⟨fun y c hy=> ?_,fun y z c c' b N N' hy hz h2 h3=> ?_,fun y c b N hy h2=> ?_,h.im⟩
 . rw[mf]at hy
   by_cases he:y=x
   . subst he;rw[if_pos rfl]at hy;cases hy;exact(h.at_ _ _ hx).bytes hb hu h1
   . rw[if_neg he]at hy;exact h.at_ y c hy
 . obtain⟨d,hd⟩:=up y c hy
   obtain⟨d',hd'⟩:=up z c' hz
   exact h.inj y z d d' b N N' hd hd' h2 h3
 . obtain⟨d,hd⟩:=up y c hy
   exact h.own y d b N hd h2
def okF(P:Program):List (Option (Nat × Nat))->Prop
 | []=>True
 | some (e,sz) :: fs=>(sz=1->P.underlying e=some (.int .u8)/\P.cellsOf e=1)/\okF P fs
 | none :: fs=>okF P fs
def ow(pre:HpL):List (Nat × Option Chunk):=pre.map fun p=>(p.1,some p.2)
theorem sb(pre:HpL)(x:Nat)(c:Chunk)(h:HpF):ad (ow (pre++[(x,c)])) h=fun y=>if y=x then some c else ad (ow pre) h y:=by
 unfold ow
 rw[List.map_append,jN]
 rfl
theorem Gw     {H0:HpL}:∀ (fs:List (Option (Nat × Nat))) (as:List SV) (H pre:HpL),okF P fs->gL    H->H.get=ad   (ow   pre) H0.get->
  InOk P as H (cq fs as H pre).1 (cq fs as H pre).2.1/\(cq fs as H pre).2.1.get=ad (ow (cq fs as H pre).2.2) H0.get:=by
 intro fs as
 induction as generalizing fs with
 | nil=>
  intro H pre _ hc he
  have h0:InOk P [] H [] H:=⟨hc,Nat.le_refl _,rfl,fun x c h=>.inl ⟨c,h⟩,fun ω θ w Im us hl hH hf=>⟨hl,hH⟩⟩
  cases fs with
  | nil=>exact⟨h0,he⟩
  | cons f fs=>
   have:cq (f :: fs) [] H pre=([],H,pre):=by cases f <;> rfl
   rw[this];exact⟨h0,he⟩
 | cons a as ih=>
  intro H pre hf hc he
  have hid:InOk P (a :: as) H (a :: as) H:=⟨hc,Nat.le_refl _,rfl,fun x c h=>.inl ⟨c,h⟩,fun ω θ w Im us hl hH hf=>⟨hl,hH⟩⟩
  cases fs with
  | nil=>exact⟨hid,he⟩
  | cons f fs=>
   have hfs:okF P fs:=by
    cases f with
    | none=>exact hf
    | some p=>exact hf.2
   have keep:InOk P (a :: as) H (a :: (cq fs as H pre).1) (cq fs as H pre).2.1/\(cq fs as H pre).2.1.get=ad (ow (cq fs as H pre).2.2) H0.get:=
    ⟨(ih fs H pre hfs hc he).1.cons (fun _ _ _ _ _ h=>h),(ih fs H pre hfs hc he).2⟩
   have nil:∀ (e sz:Nat),f=some (e,sz)->a= .nils->InOk P (a :: as) H (cq   (f :: fs) (a :: as) H pre).1 (cq   (f :: fs) (a :: as) H pre).2.1/\(cq   (f :: fs) (a :: as) H pre).2.1.get=ad   (ow   (cq   (f :: fs) (a :: as) H pre).2.2) H0.get:=by
    rintro e sz rfl rfl
    show InOk P (.nils :: as) H (.qs H.length sz 0 0 :: (cq fs as (H++[(H.length,.seq e [])]) (pre++[(H.length,.seq e [])])).1) (cq fs as (H++[(H.length,.seq e [])]) (pre++[(H.length,.seq e [])])).2.1/\(cq fs as (H++[(H.length,.seq e [])]) (pre++[(H.length,.seq e [])])).2.1.get=ad (ow (cq fs as (H++[(H.length,.seq e [])]) (pre++[(H.length,.seq e [])])).2.2) H0.get
    have hn:=xB hc
    have hc':gL (H++[(H.length,.seq e [])]):=by
     intro i p hp
     rw[List.getElem?_append]at hp
     split at hp
     . exact hc i p hp
     . rename_i hlt
       have:i - H.length=0:=by
        cases hi:i - H.length with
        | zero=>rfl
        | succ j=>rw[hi]at hp;simp at hp
       rw[this]at hp;simp at hp;subst hp;simp;omega
    obtain⟨h1,h2⟩:=ih fs (H++[(H.length,.seq e [])]) (pre++[(H.length,.seq e [])]) hfs hc' (by
     rw[sb,<- he];funext y;exact ka H hn)
    refine⟨⟨h1.canon,by have:=h1.len;simp at this;omega,by simp[h1.al],fun x c hx=> ?_,fun ω θ w Im us hl hH hfr=> ?_⟩,h2⟩
    . rcases h1.back x c hx with ⟨c',hx'⟩ | hx'
      . rw[ka H hn]at hx'
        by_cases hxe:x=H.length
        . exact .inr (by omega)
        . rw[if_neg hxe]at hx';exact .inl ⟨c',hx'⟩
      . simp at hx';exact .inr (by omega)
    . obtain⟨u,us',rfl,h3,h4⟩:=hl.uncons
      obtain⟨h5,h6⟩:=h1.rel ω θ w Im us' h4 (hH.fresh hn (hfr _ (Nat.le_refl _))) (fun x hx=>hfr x (by simp at hx;omega))
      refine⟨h5.cons ?_,h6⟩
      cases h3;exact .qsnil rfl
   have row:∀ (e sz x n:Nat),f=some (e,sz)->a= .sl x 1 0 n->InOk P (a :: as) H (cq   (f :: fs) (a :: as) H pre).1 (cq   (f :: fs) (a :: as) H pre).2.1/\(cq   (f :: fs) (a :: as) H pre).2.1.get=ad   (ow   (cq   (f :: fs) (a :: as) H pre).2.2) H0.get:=by
    rintro e sz x n rfl rfl
    have heq:cq (some (e,sz) :: fs) (.sl x 1 0 n :: as) H pre=(match H.get x with
     | some (.cells T cs)=>bif Nat.beq T e&&Nat.beq sz 1&&kH cs then
       (.qs x 1 0 n :: (cq fs as (me H x (.seq e cs)) (pre++[(x,.seq e cs)])).1,(cq fs as (me H x (.seq e cs)) (pre++[(x,.seq e cs)])).2)
      else(.sl x 1 0 n :: (cq fs as H pre).1,(cq fs as H pre).2)
     | _=>(.sl x 1 0 n :: (cq fs as H pre).1,(cq fs as H pre).2)):=rfl
    rw[heq]
    split
    . rename_i T cs hx
      cases hb:(Nat.beq T e&&Nat.beq sz 1&&kH cs)with
      | false=>exact keep
      | true=>
       simp only[cT]
       simp only[bA]at hb
       obtain⟨⟨b1,b2⟩,b3⟩:=hb
       have e1:T=e:=nE b1
       have e2:sz=1:=nE b2
       subst e1;subst e2
       obtain⟨hu,h1⟩:=hf.1 rfl
       obtain⟨l1,l2⟩:=zj (c:=.seq T cs) H hx
       have hc':gL (me H x (.seq T cs)):=by
        intro i p hp
        have:=l2 i
        rw[hp]at this
        cases hi:H[i]? with
        | none=>rw[hi]at this;cases this
        | some q=>
         rw[hi]at this
         simp only[Option.map_some,sJ]at this
         rw[this];exact hc i q hi
       obtain⟨h3,h4⟩:=ih fs (me H x (.seq T cs)) (pre++[(x,.seq T cs)]) hfs hc' (by
        rw[sb,<- he];funext y;exact mf H)
       refine⟨⟨h3.canon,by have:=h3.len;omega,by simp[h3.al],fun y c hy=> ?_,fun ω θ w Im us hl hH hfr=> ?_⟩,h4⟩
       . rcases h3.back y c hy with ⟨c',hy'⟩ | hy'
         . rw[mf]at hy'
           by_cases hye:y=x
           . subst hye;exact .inl ⟨_,hx⟩
           . rw[if_neg hye]at hy';exact .inl ⟨c',hy'⟩
         . exact .inr (by omega)
       . obtain⟨u,us',rfl,h5,h6⟩:=hl.uncons
         obtain⟨h7,h8⟩:=h3.rel ω θ w Im us' h6 (hH.bytes hx b3 hu h1) (fun y hy=>hfr y (by omega))
         refine⟨h7.cons ?_,h8⟩
         cases h5 with
         | sl a1 a2 a3=>have:=VRel'.qs (P:=P) (w:=w) (Im:=Im) (ω:=ω) (x:=x) (sz:=1) (l:=0) a1 (by omega) a3;simpa using this
         | slnil=>exact .qsnil rfl
    . exact keep
   have oth:cq (f :: fs) (a :: as) H pre=(a :: (cq fs as H pre).1,(cq fs as H pre).2)->InOk P (a :: as) H (cq (f :: fs) (a :: as) H pre).1 (cq (f :: fs) (a :: as) H pre).2.1/\(cq (f :: fs) (a :: as) H pre).2.1.get=ad (ow (cq (f :: fs) (a :: as) H pre).2.2) H0.get:=by
    intro heq;rw[heq];exact keep
   cases f with
   | none=>exact oth rfl
   | some p=>
    obtain⟨e,sz⟩:=p
    cases a with
    | nils=>exact nil e sz rfl rfl
    | sl x z o n=>
     match z,o with
     | 1,0=>exact row e sz x n rfl rfl
     | 0,_=>exact oth rfl
     | 1,_+1=>exact oth rfl
     | _+2,_=>exact oth rfl
    | _=>exact oth rfl
theorem nj(pre:HpL):∀ {t:CTree} {v:SV} {ups:List (Nat × Option Chunk)},ae (xA pre t)=some (v,ups)->∃ ups2,ae t=some (v,ups2)/\ups=ow pre++ups2
 | .ret v0 u0,v,ups,h=>by
  simp only[xA,ae,sJ,pJ]at h
  obtain⟨rfl,rfl⟩:=h
  exact⟨u0,rfl,rfl⟩
 | .ite b t e,v,ups,h=>by
  rw[xA]at h
  cases b with
  | true=>exact nj pre (t:=t) h
  | false=>exact nj pre (t:=e) h
 | .fail,v,ups,h=>by simp[xA,ae]at h
theorem Ext.inc{args args2:List SV}{H H2:HpL}(hi:InOk P args H args2 H2){w w':World}{Im Im':Nat->Prop}{θ θ':Th}{h':HpF}(hfr:∀ x,H.length<=x->θ x=none)(he:Ext (fun x=>H2.length<=x) H2.get w Im θ h' w' Im' θ'):
  Ext (fun x=>H.length<=x) H.get w Im θ h' w' Im' θ':=by
 have hb:∀ x c b N,H2.get x=some c->θ x=some (b,N)->∃ c',H.get x=some c':=by
  intro x c b N hx ht
  rcases hi.back x c hx with h | h
  . exact h
  . rw[hfr x h]at ht;cases ht
 exact { thOld := fun x hx => he.thOld x (fun h => hx (by have := hi.len; omega)), thUp := he.thUp, imUp := he.imUp, size := he.size, os := he.os, output := he.output, tape := he.tape
         keep:=fun b hlt hk=>he.keep b hlt (fun x c N hx ht=>by obtain⟨c',hc'⟩:=hb x c b N hx ht;exact hk x c' N hc' ht)
         imNew:=fun b hbm=>by
          rcases he.imNew b hbm with h | ⟨x,c,N,h1,h2⟩ | h
          . exact .inl h
          . obtain⟨c',hc'⟩:=hb x c b N h1 h2
            exact .inr (.inl ⟨x,c',N,hc',h2⟩)
          . exact .inr (.inr h)
         ownNew:=fun x c b N h1 h2=>by
          rcases he.ownNew x c b N h1 h2 with ⟨y,c',N',h3,h4⟩ | h
          . obtain⟨c2,hc2⟩:=hb y c' b N' h3 h4
            exact .inl ⟨y,c2,N',hc2,h4⟩
          . exact .inr h}
theorem Gx{e:LEnt}(h:aR P e){fs:List (Option (Nat × Nat))}(hf:okF P fs):aR P {e with s:=inS fs e.s}:=by
 intro args H k c outs ups hr hc ho ha
 obtain⟨ups2,h1,rfl⟩:=nj _ hr
 obtain⟨hi,he⟩:=Gw (P:=P) (H0:=H) fs args H [] hf hc rfl
 obtain⟨m,hm⟩:=h _ _ k c outs ups2 h1 hi.canon ho (by rw[hi.al];exact ha)
 refine⟨m,fun ω θ Im w a Q hsz hl hH hfr hmk hQ=> ?_⟩
 obtain⟨h2,h3⟩:=hi.rel ω θ w Im _ hl hH hfr
 have hu:ad (ow (cq fs args H []).2.2++ups2) H.get=ad ups2 (cq fs args H []).2.1.get:=by rw[jN,he]
 have hmk2:Mk w Im θ (cq fs args H []).2.1.get a.defers:=by
  obtain⟨rs,r1,r2,r3⟩:=hmk
  refine⟨rs,r1,r2,fun r hrr=>⟨(r3 r hrr).1,(r3 r hrr).2.1,fun x c N hx ht=> ?_⟩⟩
  rcases hi.back x c hx with ⟨c',h4⟩ | h4
  . exact(r3 r hrr).2.2 x c' N h4 ht
  . rw[hfr x h4]at ht;cases ht
 refine hm ω θ Im w a Q hsz h2 h3 (fun x hx=>hfr x (Nat.le_trans hi.len hx)) hmk2 ?_
 intro a' w' Im' θ' b1 b2 b3 b4 b5 b6 b7
 exact hQ a' w' Im' θ' b1 (by rw[hu];exact b2.inc hi hfr) b3 (by rw[hu];exact b4) b5 (by rw[hu];exact b6) b7
end Go.Am
namespace Go.Am
variable {P:Program} {ω:Nat->Value}
section
variable {R:Type} (fl:R) (P:Program) (κ:Nat->Option ag) (ι:Nat->Bool) (T:cQ) (M:Nat->Option Code)
def fL(recL rec:Rcr R):Rcr R
 | .skip,s,k=>k .normal s
 | .region _ ops draw,s,k=>mE fl P κ ι rec ops draw (k .normal) s
 | .seq a b,s,k=>fL recL rec a s (fun e s=>match e with
  | .normal=>fL recL rec b s k
  | e=>k e s)
 | .cond c t e,s,k=>
  match s.ev c with
  | .bool b=>bif b then fL recL rec t s k else fL recL rec e s k
  | _=>fl
 | .block id c,s,k=>fL recL rec c s (fun e s=>match e with
  | .exit j=>bif Nat.beq j id then k .normal s else k (.exit j) s
  | e=>k e s)
 | .loop c,s,k=>fL recL rec c s (fun e s=>match e with
  | .normal=>recL (.loop c) s k
  | e=>k e s)
 | .scope c,s,k=>fL recL rec c s k
 | .exit id,s,k=>k (.exit id) s
 | .label _,s,k=>k .normal s
 | .ret,s,k=>k .ret s
 | .rangeFunc g ps asg bdy,s,k=>
  match s.ev g with
  | .fn (.func f) _ _=>
   (match M f with
    | some c'=>dU fl P κ ι (fun _ s k=>recL c' s k) (.rangeFunc g ps asg bdy) s k
    | none=>dU fl P κ ι rec (.rangeFunc g ps asg bdy) s k)
  | _=>fl
 | .refuse w,s,k=>match T w with
  | some e=>wo fl e s k
  | none=>fl
 | _,_,_=>fl
def wy:Nat->Rcr R
 | 0,_,_,_=>fl
 | n+1,c,s,k=>fL fl P κ ι T M (wy n) (exec fl P κ ι n) c s k
end
def oZ(P:Program)(κ:Nat->Option ag)(ι:Nat->Bool)(T:cQ)(M:Nat->Option Code)(sp:Bool)(fuel:Nat)(f:Func)(c:Code)(args:List SV)(H:HpL):CTree:=
 bif cI H 0&&dx H.length H&&Nat.ble args.length f.ntmps&&Nat.blt f.ntmps 16000&&Nat.blt H.length 1000000 then
  wy .fail P κ ι T M fuel c (bU sp f args H) (fun e s=>match e with
   | .exit _=>.fail
   | _=>fY P f s)
 else .fail
def MOk(P:Program)(T:cQ)(M:Nat->Option Code):Prop:=∀ f c',M f=some c'->∀ fn c,P.funcs[f]? =some fn->fn.body=some c->c=aM T c'
def BOk{R D:Type}(P:Program)(den:R->Option D)(rec:Rcr R)(f:Nat):Prop:=
 ∀ fn c,P.funcs[f]? =some fn->fn.body=some c->∀ (s:St) (k:Ex->St->R) (d:D),StOk s->den (rec c s k)=some d->∃ e s2,StOk s2/\Comes P c s e s2/\den (k e s2)=some d
theorem RcrOk.b{R D:Type}{den:R->Option D}{rec:Rcr R}(h:RcrOk P den rec)(f:Nat):BOk P den rec f:=fun _ c _ _ s k d hs hd=>h c s k d hs hd
section
variable {R D:Type} {fl:R} {den:R->Option D} (hfl:den fl=none) {rec:Rcr R} {κ:Nat->Option ag} {ι:Nat->Bool}
include hfl
theorem tP         {f:Nat}(hrec:BOk P den rec f){args:List SV}{s:St}{k:SV->St->R}{d:D}(hs:StOk s)(h:den (nF     fl P rec f args s k)=some d):
  ∃ r s',StOk s'∧Later s s'∧s'.tm=s.tm∧s'.size=s.size∧s'.rd=s.rd∧den (k r s')=some d∧(∃ fn,P.funcs[f]? =some fn∧(fn.name== "runtime.NumGoroutine")=false∧fn.body.isNone=false)∧
   ∀ (ω:Nat->Value) (ρ:Option Nat) (a:Act) (w:World) (Im:Nat->Prop) (θ:Th) (us:List Value) (R':Ending->World->Prop),Sim P ω ρ s a w Im θ->LRel P ω w Im θ args us->
    (∀ u w' Im' θ',Sim P ω ρ s' a w' Im' θ'->Ext (fun x=>s.nx<=x) s.hp.get w Im θ s'.hp.get w' Im' θ'->VRel P ω w' Im' θ' r u->R' (.returned u) w')->CallsIn (FR ρ) 0 P f us.toArray w R':=by
 unfold nF at h
 cases hf:P.funcs[f]? with
 | none=>rw[hf]at h;exact(ba hfl h).elim
 | some fn=>
  rw[hf]at h
  simp only[]at h
  cases hb:fn.body with
  | none=>rw[hb]at h;exact(ba hfl h).elim
  | some c=>
   rw[hb]at h
   simp only[]at h
   cases hc:Nat.ble args.length fn.ntmps&&Nat.blt fn.ntmps 16000&& !(fn.name== "runtime.NumGoroutine")with
   | false=>rw[hc]at h;exact(ba hfl h).elim
   | true=>
    rw[hc]at h
    simp only[cT]at h
    simp only[bA,Bool.not_eq_true']at hc
    obtain⟨⟨c1,c2⟩,c3⟩:=hc
    have h1:args.length<=fn.ntmps:=by rwa [Nat.ble_eq]at c1
    have h2:fn.ntmps < 16000:=by rwa [bL]at c2
    obtain⟨e,s2,hs2,hcm,h3⟩:=hrec fn c hf hb _ _ _ (gj hs h1 h2) h
    have he:∀ id,e≠ .exit id:=by
     rintro id rfl
     exact ba hfl h3
    have h4:den (match bR P s2 fn.results.toList with
     | some vs=>k (cP vs) {s2 with tm:=s.tm,size:=s.size,rd:=s.rd}
     | none=>fl)=some d:=by
     cases e with
     | exit id=>exact absurd rfl (he id)
     | normal=>exact h3
     | ret=>exact h3
    cases hvs:bR P s2 fn.results.toList with
    | none=>rw[hvs]at h4;exact(ba hfl h4).elim
    | some vs=>
     rw[hvs]at h4
     simp only[]at h4
     have hl:Later s s2:=⟨hcm.later.m,hcm.later.nx,hcm.later.same,hcm.later.up,hcm.later.low⟩
     refine⟨cP vs,{s2 with tm:=s.tm,size:=s.size,rd:=s.rd},⟨hs.size,hs2.nx,hs.out,hs2.dom,hs2.m⟩,jD s s2 _ _ _ hl,rfl,rfl,rfl,h4,⟨fn,rfl,c3,by rw[hb];rfl⟩,?_⟩
     intro ω ρ a w Im θ us R' sim hl' hR
     refine gh hf hb he hcm (ic hs h1 h2 sim.sf.hp sim.fr hl') hvs (fun u w' Im' θ' hH hF hE hv=> ?_)
     exact hR u w' Im' θ' (nm sim hs2 hl hH hF hE) hE hv
theorem wz        {g:Operand}{ps:Array Tmp}{asg bdy:Code}{s:St}{k:Ex->St->R}{d:D}(hrec:∀ f first caps,s.ev g= .fn (.func f) first caps->BOk P den rec f)(hs:StOk s)(h:den (dU    fl P κ ι rec (.rangeFunc g ps asg bdy) s k)=some d):
  ∃ e s2,StOk s2/\Comes P (.rangeFunc g ps asg bdy) s e s2/\den (k e s2)=some d:=by
 simp only[dU]at h
 split at h
 case h_2=>exact(ba hfl h).elim
 rename_i f first caps hg
 cases hc:rdOk s&&Nat.blt (s.nx+1) 1000000 with
 | false=>rw[hc]at h;exact(ba hfl h).elim
 | true=>
  rw[hc]at h
  simp only[cT]at h
  simp only[bA]at hc
  have hnx:s.nx+1 < 1000000:=by have:=hc.2;rwa [bL]at this
  have hk:∀ p ∈ [(s.nx,some (Chunk.loopr .ready (bk s s.size 0) ps asg bdy))],p.1 < s.nx+1:=by
   intro p hp
   simp only[List.mem_singleton]at hp
   subst hp;exact Nat.lt_succ_self _
  have ou:=kW hs (Nat.le_succ _) hnx hk
  have ol:Later s (s.upd [(s.nx,some (Chunk.loopr .ready (bk s s.size 0) ps asg bdy))] (s.nx+1)):=el (Nat.le_succ _) (fun p hp=>by have:=hk p hp;omega)
  obtain⟨r,s1,hs1,hl1,e1,e2,e3,h2,⟨fnc,hfn,hn1,hn2⟩,hw⟩:=tP hfl (hrec f first caps hg) ou h
  -- the end of it
  have fin:∀ (st:LS) (e:Ex) (vs1:List SV) (ps1:Array Nat) (asg1 bdy1:Code),s1.hp.get s.nx=some (.loopr st vs1 ps1 asg1 bdy1)->((st= .ready/\e= .normal)\/st= .done e)->
    StOk (s1.upd [(s.nx,none)] s1.nx)/\Comes P (.rangeFunc g ps asg bdy) s e (s1.upd [(s.nx,none)] s1.nx):=by
   intro st e vs1 ps1 asg1 bdy1 hx1 hst
   obtain⟨o2,l2,g2⟩:=mR none hx1 hs1
   refine⟨o2,(ol.trans hl1).trans l2,e2,e3,0,fun ω ρ Q a w Im θ sim hA=> ?_⟩
   show(Code.rangeFunc g ps asg bdy).wpIn (FR ρ) 0 P Q a w
   refine wpIn_rangeFunc (fun fn _=> ?_)
   obtain⟨l,mk,w1,θ1,hen,sim0,hE0,hθ1,hmk⟩:=nU sim hc.1 hnx ps asg bdy fn
   have hf:=sim.sf.eval g
   rw[<- eL,hg]at hf
   generalize hu:a.eval g=u at hf
   cases hf with
   | fn h1 h3 h4 h5=>
    rename_i us vs
    have lift:∀ {v:SV} {u:Value},VRel P ω w Im θ v u->VRel P ω w1 Im θ1 v u:=fun hv=>hE0.val sim.sf.hp hv
    have hl:LRel P ω w1 Im θ1 (first++([.yl s.nx]++caps)) (us.toList++([.func (.yield l) #[] #[]]++vs.toList)):=by
     refine LRel.append ⟨by simpa using h1,fun i v u hv hu=>lift (h4 i v u hv (by simpa using hu))⟩ (LRel.append ⟨rfl,fun i v u hv hu=> ?_⟩ ⟨by simpa using h3,fun i v u hv hu=>lift (h5 i v u hv (by simpa using hu))⟩)
     match i,hv,hu with
     | 0,hv,hu=>cases hv;cases hu;exact .yl hθ1
    have ee:(us.toList++([Value.func (.yield l) #[] #[]]++vs.toList)).toArray=us++ #[Value.func (.yield l) #[] #[]]++vs:=by
     apply Array.ext'
     simp
    have hn1':¬ fnc.name= "runtime.NumGoroutine" :=by simpa using hn1
    have hn2':¬ fnc.body=none:=by intro hh;simp[hh]at hn2
    refine⟨l,mk.map iA,w1,{target:=.fn (.func f) vs,args:=us++ #[.func (.yield l) #[] #[]]},w1,f,(us.toList++([Value.func (.yield l) #[] #[]]++vs.toList)).toArray,w1,hen,?_,fun f' _=>hX ρ f',?_,eS ρ,?_⟩
    . have hcst:a.eval (.const (.func (.yield l) #[] #[]))= .func (.yield l) #[] #[]:=rfl
      simp[resolve,hu,Deferred.ofValue,hcst]
    . rw[ee]
      simp[invoke,callFunc,hfn,hn1',hn2']
    . refine hw _ ρ {a with defers:=mk.map iA++a.defers} w1 Im θ1 _ _ sim0 hl (fun v w' Im' θ' sim' hE hv=> ?_)
      have hθ':θ' s.nx=some (l,0):=hE.thUp _ _ hθ1
      obtain⟨b',N',lp',j1,j2,-,-,-,j3,-⟩:=sim'.sf.hp.at_ _ _ hx1
      rw[hθ']at j1
      simp only[sJ,pJ]at j1
      obtain⟨rfl,rfl⟩:=j1
      have hnb:lp'.state≠ .busy:=by
       rcases hst with ⟨rfl,-⟩ | rfl
       . rw[j3.1];simp
       . rw[j3.1];simp
      obtain⟨hEd,hHd⟩:=dm sim'.sf.hp hx1 hθ' (.loop {lp' with state:=.exhausted}) none (fun _ d hd=>by cases hd)
      obtain⟨sim2,hE2⟩:=sim'.turn hx1 hEd hHd
      have hEall:Ext (fun x=>s.nx<=x) s.hp.get w Im θ (s1.upd [(s.nx,none)] s1.nx).hp.get (w'.putObj l (.loop {lp' with state:=.exhausted})) Im' θ':=
       (hE0.trans (hE.mono (fun x hx=>Nat.le_trans ol.nx hx))).trans (hE2.mono (fun x hx=>Nat.le_trans (ol.trans hl1).nx hx))
      have hQ:Q (eX e) {a with defers:=mk.map iA++a.defers} (w'.putObj l (.loop {lp' with state:=.exhausted})):=hA _ _ Im' θ' sim2 hEall ⟨mk,rfl,hmk⟩
      refine⟨lp'.pending,_,run_endLoop j2 hnb,?_⟩
      rcases hst with ⟨rfl,rfl⟩ | rfl
      . rw[j3.2]at hQ ⊢;exact hQ
      . rw[j3.2.1]at hQ ⊢
        cases e with
        | normal=>exact absurd j3.2.1 j3.2.2
        | ret=>exact wpIn_ret hQ
        | exit id=>exact wpIn_exit hQ
  split at h2
  . rename_i vs1 ps1 asg1 bdy1 hx1
    obtain⟨o2,hcm⟩:=fin .ready .normal _ _ _ _ hx1 (.inl ⟨rfl,rfl⟩)
    exact⟨.normal,_,o2,hcm,h2⟩
  . rename_i e vs1 ps1 asg1 bdy1 hx1
    obtain⟨o2,hcm⟩:=fin (.done e) e _ _ _ _ hx1 (.inr rfl)
    exact⟨e,_,o2,hcm,h2⟩
  . exact(ba hfl h2).elim
end
section
variable {R D:Type} {fl:R} {den:R->Option D} (hfl:den fl=none) {T:cQ} {M:Nat->Option Code} {recL rec:Rcr R} (hrecL:mU P T den recL) (hrec:RcrOk P den rec) {κ:Nat->Option ag} {ι:Nat->Bool} (hκ:KOk P κ)
include hfl hrecL hrec hκ
theorem A9      (hmix:P.follows .mixedOrders=true)(hT:LOk P T)(hM:MOk P T M):mU     P T den (fL    fl P κ ι T M recL rec):=by
 intro c
 induction c with
 | skip=>intro s k d hs h;exact⟨.normal,s,hs,bO (fun ρ Q a w hq=>wpIn_skip hq),h⟩
 | region id ops draw=>
  intro s k d hs h
  obtain⟨s',hs',hc,h1⟩:=kS hfl hrec hκ (id:=id) hmix hs h
  exact⟨.normal,s',hs',hc,h1⟩
 | seq x y ihx ihy=>
  intro s k d hs h
  simp only[fL]at h
  obtain⟨e,s1,hs1,hc1,h1⟩:=ihx s _ d hs h
  cases e with
  | normal=>
   simp only[]at h1
   obtain⟨e2,s2,hs2,hc2,h2⟩:=ihy s1 k d hs1 h1
   refine⟨e2,s2,hs2,⟨hc1.later.trans hc2.later,by rw[hc2.size,hc1.size],by rw[hc2.rd,hc1.rd],0,fun ω ρ Q a w Im θ sim hA=> ?_⟩,h2⟩
   refine wpIn_seq (hc1.wp ρ _ a w Im θ sim (fun a' w' Im' θ' sim' hE hN=> ?_))
   exact hc2.wp ρ Q a' w' Im' θ' sim' (After.trans hc1.later hE hN hA)
  | exit id=>
   exact⟨.exit id,s1,hs1,⟨hc1.later,hc1.size,hc1.rd,0,fun ω ρ Q a w Im θ sim hA=>wpIn_seq (hc1.wp ρ _ a w Im θ sim (fun a' w' Im' θ' sim' hE hN=>hA a' w' Im' θ' sim' hE hN))⟩,h1⟩
  | ret=>
   exact⟨.ret,s1,hs1,⟨hc1.later,hc1.size,hc1.rd,0,fun ω ρ Q a w Im θ sim hA=>wpIn_seq (hc1.wp ρ _ a w Im θ sim (fun a' w' Im' θ' sim' hE hN=>hA a' w' Im' θ' sim' hE hN))⟩,h1⟩
 | cond c x y ihx ihy=>
  intro s k d hs h
  simp only[fL]at h
  split at h
  . rename_i b hb
    have hev:∀ {ω:Nat->Value} {ρ:Option Nat} {a:Act} {w:World} {Im:Nat->Prop} {θ:Th},Sim P ω ρ s a w Im θ->a.eval c= .bool b:=by
     intro ω ρ a w Im θ sim
     have:=sim.sf.eval c
     rw[<- eL,hb]at this
     generalize a.eval c=u at this
     cases this
     rfl
    cases b with
    | true=>
     obtain⟨e,s1,hs1,hc1,h1⟩:=ihx s k d hs h
     exact⟨e,s1,hs1,⟨hc1.later,hc1.size,hc1.rd,0,fun ω ρ Q a w Im θ sim hA=>wpIn_cond_true (hev sim) (hc1.wp ρ Q a w Im θ sim hA)⟩,h1⟩
    | false=>
     obtain⟨e,s1,hs1,hc1,h1⟩:=ihy s k d hs h
     exact⟨e,s1,hs1,⟨hc1.later,hc1.size,hc1.rd,0,fun ω ρ Q a w Im θ sim hA=>wpIn_cond_false (hev sim) (hc1.wp ρ Q a w Im θ sim hA)⟩,h1⟩
  . exact(ba hfl h).elim
 | block id c ih=>
  intro s k d hs h
  simp only[fL]at h
  obtain⟨e,s1,hs1,hc1,h1⟩:=ih s _ d hs h
  cases e with
  | normal=>exact⟨.normal,s1,hs1,⟨hc1.later,hc1.size,hc1.rd,0,fun ω ρ Q a w Im θ sim hA=>wpIn_block (hc1.wp ρ _ a w Im θ sim hA)⟩,h1⟩
  | ret=>exact⟨.ret,s1,hs1,⟨hc1.later,hc1.size,hc1.rd,0,fun ω ρ Q a w Im θ sim hA=>wpIn_block (hc1.wp ρ _ a w Im θ sim hA)⟩,h1⟩
  | exit j=>
   simp only[]at h1
   cases hj:Nat.beq j id with
   | true=>
    rw[hj]at h1
    have hji:j=id:=nE hj
    subst hji
    refine⟨.normal,s1,hs1,⟨hc1.later,hc1.size,hc1.rd,0,fun ω ρ Q a w Im θ sim hA=>wpIn_block (hc1.wp ρ _ a w Im θ sim (fun a' w' Im' θ' sim' hE hN=> ?_))⟩,h1⟩
    simp only[eX,Exit.inBlock,if_true]
    exact hA a' w' Im' θ' sim' hE hN
   | false=>
    rw[hj]at h1
    have hji:¬ j=id:=fun e=>by rw[fK e]at hj;cases hj
    refine⟨.exit j,s1,hs1,⟨hc1.later,hc1.size,hc1.rd,0,fun ω ρ Q a w Im θ sim hA=>wpIn_block (hc1.wp ρ _ a w Im θ sim (fun a' w' Im' θ' sim' hE hN=> ?_))⟩,h1⟩
    simp only[eX,Exit.inBlock,if_neg hji]
    exact hA a' w' Im' θ' sim' hE hN
 | loop c ih=>
  intro s k d hs h
  simp only[fL]at h
  obtain⟨e,s1,hs1,hc1,h1⟩:=ih s _ d hs h
  cases e with
  | normal=>
   simp only[]at h1
   obtain⟨e2,s2,hs2,hc2,h2⟩:=hrecL (.loop c) s1 k d hs1 h1
   obtain⟨m,hm⟩:=hc2.wps
   refine⟨e2,s2,hs2,⟨hc1.later.trans hc2.later,by rw[hc2.size,hc1.size],by rw[hc2.rd,hc1.rd],m+1,fun ω ρ Q a w Im θ sim hA=> ?_⟩,h2⟩
   show Code.roundsIn (FR ρ) 0 P (aM T c) Q (m+1) a w
   rw[roundsIn_succ]
   refine hc1.wp ρ _ a w Im θ sim (fun a' w' Im' θ' sim' hE hN=> ?_)
   exact hm ω ρ Q a' w' Im' θ' sim' (After.trans hc1.later hE hN hA)
  | exit id=>
   refine⟨.exit id,s1,hs1,⟨hc1.later,hc1.size,hc1.rd,1,fun ω ρ Q a w Im θ sim hA=> ?_⟩,h1⟩
   show Code.roundsIn (FR ρ) 0 P (aM T c) Q 1 a w
   rw[roundsIn_succ]
   exact hc1.wp ρ _ a w Im θ sim (fun a' w' Im' θ' sim' hE hN=>hA a' w' Im' θ' sim' hE hN)
  | ret=>
   refine⟨.ret,s1,hs1,⟨hc1.later,hc1.size,hc1.rd,1,fun ω ρ Q a w Im θ sim hA=> ?_⟩,h1⟩
   show Code.roundsIn (FR ρ) 0 P (aM T c) Q 1 a w
   rw[roundsIn_succ]
   exact hc1.wp ρ _ a w Im θ sim (fun a' w' Im' θ' sim' hE hN=>hA a' w' Im' θ' sim' hE hN)
 | exit id=>intro s k d hs h;exact⟨.exit id,s,hs,bO (fun ρ Q a w hq=>wpIn_exit hq),h⟩
 | label l=>intro s k d hs h;exact⟨.normal,s,hs,bO (fun ρ Q a w hq=>wpIn_label hq),h⟩
 | ret=>intro s k d hs h;exact⟨.ret,s,hs,bO (fun ρ Q a w hq=>wpIn_ret hq),h⟩
 | rangeFunc f ps x y _ _=>
  intro s k d hs h
  simp only[fL]at h
  split at h
  case h_2=>exact(ba hfl h).elim
  rename_i f0 first0 caps0 hg
  split at h
  . rename_i c' hc'
    refine wz hfl (rec:=fun _ s k=>recL c' s k) (fun f1 first1 caps1 hg1 fn c hfn hbd s k d hs hd=> ?_) hs h
    rw[hg]at hg1
    have e0:f0=f1:=by injection hg1 with e1;injection e1
    subst e0
    rw[hM f0 c' hc' fn c hfn hbd]
    exact hrecL c' s k d hs hd
  . exact o8 hfl hrec hκ hmix _ s k d hs h
 | scope c ih=>
  intro s k d hs h
  simp only[fL]at h
  obtain⟨e,s1,hs1,hc1,h1⟩:=ih s k d hs h
  exact⟨e,s1,hs1,⟨hc1.later,hc1.size,hc1.rd,0,fun ω ρ Q a w Im θ sim hA=>dD (hc1.wp ρ _ a w Im θ sim (fun a' w' Im' θ' sim' hE hN=>by
   cases e <;> exact hA a' w' Im' θ' sim' hE hN))⟩,h1⟩
 | goto l=>intro s k d hs h;exact(ba hfl h).elim
 | refuse w=>
  intro s k d hs h
  simp only[fL]at h
  cases hw:T w with
  | none=>rw[hw]at h;exact(ba hfl h).elim
  | some e=>
   rw[hw]at h
   have hf:aM T (.refuse w)= .loop e.code:=by simp only[aM,hw]
   rw[hf]
   exact jV hfl (hT w e hw) hs h
end
theorem rp{R D:Type}{fl:R}{den:R->Option D}(hfl:den fl=none){T:cQ}{M:Nat->Option Code}{κ:Nat->Option ag}{ι:Nat->Bool}(hκ:KOk P κ)(hmix:P.follows .mixedOrders=true)(hT:LOk P T)(hM:MOk P T M):∀ n,mU P T den (wy fl P κ ι T M n)
 | 0=>fun c s k d hs h=>(ba hfl h).elim
 | n+1=>A9 hfl (rp hfl hκ hmix hT hM n) (oB hfl hκ hmix n) hκ hmix hT hM
theorem i9         {κ:Nat->Option ag   }(hκ:KOk P κ)(hmix:P.follows .mixedOrders=true){T:cQ  }(hT:LOk P T){M:Nat->Option Code}(hM:MOk P T M){f:FuncId}{fn:Func}(hf:P.funcs[f]? =some fn){c:Code}(hb:fn.body=some (aM    T c)){ι:Nat->Bool}{sp:Bool}{fuel:Nat}:qK     P f (oZ     P κ ι T M sp fuel fn c):=by
 intro args H v ups hrun _ ω θ Im w us hargs hH hfr
 unfold oZ at hrun
 cases hc:cI H 0&&dx H.length H&&Nat.ble args.length fn.ntmps&&Nat.blt fn.ntmps 16000&&Nat.blt H.length 1000000 with
 | false=>rw[hc]at hrun;simp[ae]at hrun
 | true=>
  rw[hc]at hrun
  simp only[cT]at hrun
  simp only[bA]at hc
  obtain⟨⟨⟨⟨c1,c2⟩,c3⟩,c4⟩,c5⟩:=hc
  have hal:args.length<=fn.ntmps:=by rwa [Nat.ble_eq]at c3
  have hnt:fn.ntmps < 16000:=by rwa [bL]at c4
  have hHl:H.length < 1000000:=by rwa [bL]at c5
  have hhp:(bU sp fn args H).hp.get=H.get:=fD c1 (by omega)
  have hs0:StOk {bU sp fn args H with tm:=.lf,size:=0}:=by
   refine⟨by show 0 < 16000;omega,hHl,fun t _=>rfl,?_,Nat.le_refl _⟩
   intro x c hx
   have hx':(bU sp fn args H).hp.get x=some c:=hx
   rw[hhp]at hx'
   exact dk c1 hx'
  have hst:StOk (bU sp fn args H):=gj hs0 hal hnt
  obtain⟨e,s2,hs2,hcomes,hfin⟩:=rp (den:=ae) rfl hκ hmix hT hM fuel c _ _ _ hst hrun
  have hm2:s2.m=H.length:=hcomes.later.m
  have he:∀ id,e≠ .exit id:=by
   rintro id rfl
   simp[ae]at hfin
  have hfin':ae (fY P fn s2)=some (v,ups):=by
   cases e with
   | exit id=>exact absurd rfl (he id)
   | normal=>exact hfin
   | ret=>exact hfin
  unfold fY at hfin'
  cases hrs:bR P s2 fn.results.toList with
  | none=>rw[hrs]at hfin';simp[ae]at hfin'
  | some vs=>
   rw[hrs]at hfin'
   simp only[]at hfin'
   cases hre:cr s2.hp s2.m 2000 (ak (cP vs)++bQ s2.hp s2.dirty) []with
   | none=>rw[hre]at hfin';simp[ae]at hfin'
   | some ns=>
     rw[hre]at hfin'
     simp only[ae,sJ,pJ]at hfin'
     rw[hm2]at hfin'
     obtain⟨rfl,rfl⟩:=hfin'
     have hfr0:Fr (bU sp fn args H).nx θ (bU sp fn args H).hp.get:=by
      intro x hx
      have hx':H.length<=x:=hx
      refine⟨hfr x hx',?_⟩
      rw[hhp]
      cases hg:H.get x with
      | none=>rfl
      | some c=>have:=dk c1 hg;omega
     have sim0:=ic (P:=P) hs0 (args:=args) (us:=us) hal hnt (w:=w) (Im:=Im) (θ:=θ) (by show HRel P ω w Im θ (bU sp fn args H).hp.get;rw[hhp];exact hH) hfr0 hargs
     refine(callsIn_wide (n:=0)).1 (gh (ρ:=none) hf hb he hcomes sim0 hrs (fun u w' Im' θ' hH2 _ hE hvu=> ?_))
     have hsame:∀ x,x < H.length->s2.hp.get x=H.get x\/x ∈ s2.dirty:=by
      intro x hx
      have:=hcomes.later.same x hx
      rwa [hhp]at this
     have hdl:∀ x ∈ s2.dirty,x < H.length:=by
      intro x hx
      rcases hcomes.later.low x hx with h | h
      . cases h
      . exact h
     have hext:Ext (fun x=>H.length<=x) H.get w Im θ s2.hp.get w' Im' θ':=by
      rw[<- hhp];exact hE
     obtain⟨θ3,g1,g2,g3,-⟩:=gn c1 c2 hfr hm2 hsame hdl hre hH2 hext hvu
     exact⟨u,θ3,Im',rfl,g1,g2,g3⟩
def wC:List (Nat × Code)->Nat->Option Code
 | [],_=>none
 | (g,c) :: l,f=>bif Nat.beq g f then some c else wC l f
theorem o4{T:cQ}:MOk P T (wC []):=fun f c' h=>by cases h
theorem mS{T:cQ}{g:Nat}{c':Code}{l:List (Nat × Code)}{fn0:Func}(hf:P.funcs[g]? =some fn0)(hb:fn0.body=some (aM T c'))(hl:MOk P T (wC l)):MOk P T (wC ((g,c') :: l)):=by
 intro f c2 h fn c hfn hc
 simp only[wC]at h
 cases hg:Nat.beq g f with
 | true=>
  rw[hg]at h
  have e:g=f:=nE hg
  subst e
  rw[hf]at hfn
  cases hfn
  rw[hb]at hc
  cases hc
  cases h
  rfl
 | false=>rw[hg]at h;exact hl f c2 h fn c hfn hc
end Go.Am
namespace Go.Am
variable {P:Program} {ω:Nat->Value}
theorem ji         {κ:Nat->Option ag   }{ι:Nat->Bool}{T:cQ  }{sp:Bool}{fuel:Nat}{e:LEnt}{c:Code}{s':ag   }(hκ:KOk P κ)(hmix:P.follows .mixedOrders=true)(hT:LOk P T)(hfill:aM    T c=e.code)
  (ih:aR P {e with s:=s'}):aR P {e with s:=fun args H=>ay P κ ι T sp fuel e {e with s:=s'} c args H}:=by
 have key:∀ (args:List SV) (H:HpL) (k:IntKind) (c0:Int) (outs:List SV) (ups:List (Nat × Option Chunk)),ae   (ay       P κ ι T sp fuel e {e with s:=s'} c args H)=some (.tup (.int k c0 :: outs),ups)->gL    H->outs.length=e.outs.length->args.length=e.ins.length->
  ∃ m,∀ (ω:Nat->Value) (θ:Th) (Im:Nat->Prop) (w:World) (a:Act) (Q:Exit->Act->World->Prop),a.tmps.size=e.size->LRel P ω w Im θ args (e.ins.map fun t=>a.tmps.getD t undef)->HRel P ω w Im θ H.get->
   (∀ x,H.length<=x->θ x=none)->Mk w Im θ H.get a.defers->
   (∀ a' w' Im' θ',a'.tmps.size=e.size->Ext (fun x=>H.length<=x) H.get w Im θ (ad ups H.get) w' Im' θ'->LRel P ω w' Im' θ' outs (e.outs.map fun t=>a'.tmps.getD t undef)->HRel P ω w' Im' θ' (ad ups H.get)->
    (∀ t ∈ e.keep,a'.tmps.getD t undef=a.tmps.getD t undef)->Mk w' Im' θ' (ad ups H.get) a'.defers->New a a' w->Q (eX (Ed c0)) a' w')->
   Code.roundsIn (FR none) 0 P e.code Q m a w:=by
  intro args H k c0 outs ups hl hcanon hol hal
  unfold ay at hl
  cases hc:cI H 0&&dx H.length H&&Nat.beq args.length e.ins.length&&Nat.blt e.size 16000&&Nat.blt H.length 1000000&&ep e.size e.ins&&ep e.size e.keep&&ep e.size e.outs&&ce args&&jJ H&&ep H.length (aF args)with
  | false=>rw[hc]at hl;simp[ae]at hl
  | true=>
   rw[hc]at hl
   simp only[cT]at hl
   simp only[bA]at hc
   obtain⟨⟨⟨⟨⟨⟨⟨⟨⟨⟨c1,c2⟩,c3⟩,c4⟩,c5⟩,c6⟩,c7⟩,c8⟩,c9⟩,c10⟩,c11⟩:=hc
   have hsz:e.size < 16000:=by rwa [bL]at c4
   have hHl:H.length < 1000000:=by rwa [bL]at c5
   have hins:=cB _ c6
   have hkeep:=cB _ c7
   have houts:=cB _ c8
   have hhp:(dj sp e args H).hp.get=H.get:=fD c1 (by omega)
   have htm:∀ j,((dj sp e args H).tmp j= .junk)\/(j ∈ e.keep/\(dj sp e args H).tmp j= .opq j)\/∃ i:Nat,e.ins[i]? =some j/\∃ v,args[i]? =some v/\(dj sp e args H).tmp j=v:=by
    intro j
    have hk16:∀ x ∈ e.keep,x < 16000:=fun x hx=>by have:=hkeep x hx;omega
    have hi16:∀ x ∈ e.ins,x < 16000:=fun x hx=>by have:=hins x hx;omega
    have he:(dj sp e args H).tmp j=match(dS e.ins args (mF e.keep .lf)).get j with
     | some v=>v
     | none=>.junk:=rfl
    rcases lI e.ins args (mF e.keep .lf) j hi16 with ⟨g1,-⟩ | ⟨i,g1,v,g2,g3⟩
    . rw[he,g1,na _ _ _ hk16]
      by_cases hj:j ∈ e.keep
      . simp[hj]
      . simp[hj,Tr.get_lf]
    . exact .inr (.inr ⟨i,g1,v,g2,by rw[he,g3]⟩)
   have hs0:StOk (dj sp e args H):=by
    refine⟨hsz,hHl,fun t ht=> ?_,?_,Nat.le_refl _⟩
    . have ht':e.size<=t:=ht
      rcases htm t with g | ⟨g,_⟩ | ⟨i,g,_⟩
      . exact g
      . have:=hkeep t g;omega
      . have:=hins t (List.mem_of_getElem? g);omega
    . intro x c hx
      rw[hhp]at hx
      exact dk c1 hx
   obtain⟨ex1,s1,hs1,hc1,hk1⟩:=lx (den:=ae) rfl hκ hmix hT fuel c _ _ _ hs0 hl
   rw[hfill]at hc1
   have hall:∃ ex sF,StOk sF/\Comes P (.loop e.code) (dj sp e args H) ex sF/\ae (kj e ex sF)=some (.tup (.int k c0 :: outs),ups):=by
    cases ex1 with
    | normal=>
     simp only[]at hk1
     obtain⟨ex2,s2,hs2,hc2,hk2⟩:=jV (den:=ae) rfl ih hs1 hk1
     obtain⟨m,hm⟩:=hc2.wps
     refine⟨ex2,s2,hs2,⟨hc1.later.trans hc2.later,by rw[hc2.size,hc1.size],by rw[hc2.rd,hc1.rd],m+1,fun ω ρ Q a w Im θ sim hA=> ?_⟩,hk2⟩
     show Code.roundsIn (FR ρ) 0 P e.code Q (m+1) a w
     rw[roundsIn_succ]
     refine hc1.wp ρ _ a w Im θ sim (fun a' w' Im' θ' sim' hE hN=> ?_)
     exact hm ω ρ Q a' w' Im' θ' sim' (After.trans hc1.later hE hN hA)
    | exit id=>
     refine⟨.exit id,s1,hs1,⟨hc1.later,hc1.size,hc1.rd,1,fun ω ρ Q a w Im θ sim hA=> ?_⟩,hk1⟩
     show Code.roundsIn (FR ρ) 0 P e.code Q 1 a w
     rw[roundsIn_succ]
     exact hc1.wp ρ _ a w Im θ sim (fun a' w' Im' θ' sim' hE hN=>hA a' w' Im' θ' sim' hE hN)
    | ret=>
     refine⟨.ret,s1,hs1,⟨hc1.later,hc1.size,hc1.rd,1,fun ω ρ Q a w Im θ sim hA=> ?_⟩,hk1⟩
     show Code.roundsIn (FR ρ) 0 P e.code Q 1 a w
     rw[roundsIn_succ]
     exact hc1.wp ρ _ a w Im θ sim (fun a' w' Im' θ' sim' hE hN=>hA a' w' Im' θ' sim' hE hN)
   obtain⟨ex,sF,hsF,hC,hfin⟩:=hall
   obtain⟨f1,f2,f3,rfl,ns,hre,rfl,rfl⟩:=nJ hfin
   obtain⟨m,hm⟩:=hC.wps
   refine⟨m,fun ω θ Im w a Q hsize hargs hH hfr hMk hpost=> ?_⟩
   have hmF:sF.m=H.length:=hC.later.m
   have hsF2:sF.size=e.size:=hC.size
   have sim0:Sim P (fun t=>a.tmps.getD t undef) none (dj     sp e args H) a w Im θ:=by
    refine⟨hs0,⟨hsize,fun t ht=> ?_,hs0.out,by rw[hhp];exact hMk,by rw[hhp];exact hH.om (fun x c hx=>jS c10 hx)⟩,?_,.inl ⟨rfl,rfl⟩⟩
    . rcases htm t with g | ⟨g,g2⟩ | ⟨i,g,v,g2,g3⟩
      . rw[g];exact .junk
      . rw[g2];exact .opq
      . rw[g3]
        exact(hargs.at_ i v _ g2 (by simp[g])).om (ec c9 g2)
    . intro x hx
      have hx':H.length<=x:=hx
      refine⟨hfr x hx',?_⟩
      rw[hhp]
      cases hg:H.get x with
      | none=>rfl
      | some c=>have:=dk c1 hg;omega
   refine hm (fun t=>a.tmps.getD t undef) none Q a w Im θ sim0 (fun a' w' Im' θ' sim' hE hN=> ?_)
   have hsame:∀ x,x < H.length->sF.hp.get x=H.get x\/x ∈ sF.dirty:=by
    intro x hx
    have:=hC.later.same x hx
    rwa [hhp]at this
   have hdl:∀ x ∈ sF.dirty,x < H.length:=by
    intro x hx
    rcases hC.later.low x hx with h | h
    . cases h
    . exact h
   have hext:Ext (fun x=>H.length<=x) H.get w Im θ sF.hp.get w' Im' θ':=by
    rw[<- hhp];exact hE
   have hz:VRel P (fun t=>a.tmps.getD t undef) w' Im' θ' (.tup (.int .i64 (iL ex) :: e.outs.map sF.tmp)) (.tuple (.int .i64 (iL ex) :: (e.outs.map fun t=>a'.tmps.getD t undef)).toArray):=by
    have hl:=pj (P:=P) (ω:=fun t=>a.tmps.getD t undef) (w:=w') (Im:=Im') (θ:=θ') (f:=sF.tmp) (g:=fun t=>a'.tmps.getD t undef) (l:=e.outs) (fun t ht=>sim'.sf.tm t (by rw[hsF2];exact houts t ht))
    refine .tup (by simp) (fun i v u hv hu=> ?_)
    cases i with
    | zero=>simp at hv hu;subst hv;subst hu;exact .int
    | succ i=>exact hl.at_ i v u (by simpa using hv) (by simpa using hu)
   obtain⟨θ3,g1,g2,g3,g4⟩:=gn c1 c2 hfr hmF hsame hdl hre sim'.sf.hp hext hz
   rw[<- hmF]at g1 g2 g3 g4
   have g2':LRel P (fun t=>a.tmps.getD t undef) w' Im' θ3 (cx (bz ns sF.m) (e.outs.map sF.tmp)) (e.outs.map fun t=>a'.tmps.getD t undef):=by
    simp only[bq,cx]at g2
    cases g2 with
    | tup p1 p2=>exact⟨by rw[cJ];simp,fun i v u hv hu=>p2 (i+1) v u (by simpa using hv) (by simpa using hu)⟩
   rw[<- hmF]at hpost
   have:=hpost a' w' Im' θ3 (by rw[sim'.sf.size];exact hsF2) g1 (g2'.om (by rw[dW];exact f2)) (g3.om (jT f3 (fun x c hx=>jS c10 hx))) (fun t ht=> ?_) ?_ hN
   . rw[rq]at this;exact this
   . have h1:=sim'.sf.tm t (by rw[hsF2];exact hkeep t ht)
     rw[f1 t ht]at h1
     generalize a'.tmps.getD t undef=z at h1
     cases h1
     rfl
   . obtain⟨rs,m1,m2,m3⟩:=sim'.sf.df
     refine⟨rs,m1,m2,fun r hr=>⟨(m3 r hr).1,(m3 r hr).2.1,fun y c N hy hb=> ?_⟩⟩
     obtain⟨x,c0,hx,hxb⟩:=g4 y c r N hy hb
     exact(m3 r hr).2.2 x c0 N hx hxb
 exact key
theorem cH{κ:Nat->Option ag}{ι:Nat->Bool}{T:cQ}{sp:Bool}{fuel:Nat}{e:LEnt}{c:Code}{μ:List SV->HpL->Nat}(hκ:KOk P κ)(hmix:P.follows .mixedOrders=true)(hT:LOk P T)(hfill:aM T c=e.code)
  (hstep:∀ n args H v' ups',Nat.blt (μ args H) (n+1)=true->ae (e.s args H)=some (v',ups')->(∃ ups,ae (ay P κ ι T sp fuel e {e with s:=az μ e.s n} c args H)=some (v',ups)/\∀ x,ad ups' H.get x=ad ups H.get x)\/
   ∃ v ups,ae (ay P κ ι T sp fuel e {e with s:=az μ e.s n} c args H)=some (v,ups)/\cg H v ups v' ups'):aR P e:=by
 have key:∀ n,aR P {e with s:=az μ e.s n}:=by
  intro n
  induction n with
  | zero=>
   intro args H k c outs ups hrun
   have:Nat.blt (μ args H) 0=false:=by
    cases h:Nat.blt (μ args H) 0 with
    | false=>rfl
    | true=>rw[bL]at h;omega
   simp[az,this,ae]at hrun
  | succ n ih=>
   refine ia (e:={e with s:=fun args H=>ay P κ ι T sp fuel e {e with s:=az μ e.s n} c args H}) (ji (κ:=κ) (ι:=ι) (T:=T) (sp:=sp) (fuel:=fuel) (c:=c) hκ hmix hT hfill ih) (fun args H v' ups' hrun=> ?_)
   have hb:Nat.blt (μ args H) (n+1)=true:=by
    cases h:Nat.blt (μ args H) (n+1)with
    | true=>rfl
    | false=>simp[az,h,ae]at hrun
   have hrun':ae (e.s args H)=some (v',ups'):=by simpa [az,hb,ae]using hrun
   exact hstep n args H v' ups' hb hrun'
 intro args H k c0 outs ups hrun hcanon hol hal
 refine key (μ args H+1) args H k c0 outs ups ?_ hcanon hol hal
 have:Nat.blt (μ args H) (μ args H+1)=true:=by rw[bL];omega
 simp only[az,ae,this,if_true]
 exact hrun
end Go.Am
namespace Go.Am
variable {P:Program}
def SemV(P:Program)(k e:Nat)(rs:List SV)(v v':SV):Prop:=
 ∀ (ω:Nat->Value) (w:World) (Im:Nat->Prop) (θ:Th) (h:HpF) (u:Value),HRel P ω w Im θ h->h k=some (.seq e rs)->VRel P ω w Im θ v u->VRel P ω w (au Im θ h [k]) θ v' u
def SemC(P:Program)(k e:Nat)(rs:List SV)(x:Nat)(c c':Chunk):Prop:=
 ∀ (ω:Nat->Value) (w:World) (Im:Nat->Prop) (θ:Th) (h:HpF),HRel P ω w Im θ h->h k=some (.seq e rs)->CRel P ω w Im θ x c->CRel P ω w (au Im θ h [k]) θ x c'
variable {k e:Nat} {rs:List SV}
theorem SemV.rfl'{v:SV}:SemV P k e rs v v:=fun ω w Im θ h u _ _ hv=>hv.mono (bC w) (fun _ _ h=>h)
theorem SemV.qs{sz n:Nat}(hn:n=rs.length):SemV P k e rs (.qs k sz 0 n) (.psl e rs):=fun ω w Im θ h u hr hk hv=>yN hr hk hn hv
theorem SemV.nils{e':Nat}:SemV P k e rs .nils (.psl e' []):=fun ω w Im θ h u _ _ hv=>(uK hv).mono (bC w) (fun _ _ h=>h)
inductive SemL (P:Program) (k e:Nat) (rs:List SV):List SV->List SV->Prop
 | nil:SemL P k e rs [] []
 | cons {v v':SV} {vs vs':List SV}:SemV P k e rs v v'->SemL P k e rs vs vs'->SemL P k e rs (v :: vs) (v' :: vs')
theorem SemL.rfl':∀ {vs:List SV},SemL P k e rs vs vs
 | []=>.nil
 | _ :: _=>.cons .rfl' .rfl'
theorem SemL.len:∀ {vs vs':List SV},SemL P k e rs vs vs'->vs'.length=vs.length
 | _,_,.nil=>rfl
 | _,_,.cons _ h=>by simp[h.len]
theorem SemL.at_:∀ {vs vs':List SV},SemL P k e rs vs vs'->∀ (i:Nat) (v':SV),vs'[i]? =some v'->∃ v,vs[i]? =some v/\SemV P k e rs v v'
 | _,_,.nil,i,v',h=>by simp at h
 | _,_,.cons h1 h2,0,v',h=>by simp at h;subst h;exact⟨_,rfl,h1⟩
 | _,_,.cons h1 h2,i+1,v',h=>by simp at h;obtain⟨v,h3,h4⟩:=h2.at_ i v' h;exact⟨v,by simpa using h3,h4⟩
theorem SemL.rel{vs vs':List SV}(hs:SemL P k e rs vs vs'){ω:Nat->Value}{w:World}{Im:Nat->Prop}{θ:Th}{h:HpF}(hr:HRel P ω w Im θ h)(hk:h k=some (.seq e rs)){us:List Value}(hl:LRel P ω w Im θ vs us):LRel P ω w (au Im θ h [k]) θ vs' us:=
 ⟨by rw[hs.len];exact hl.len,fun i v' u hv hu=>by
  obtain⟨v,h1,h2⟩:=hs.at_ i v' hv
  exact h2 ω w Im θ h u hr hk (hl.at_ i v u h1 hu)⟩
theorem SemV.tup{vs vs':List SV}(hs:SemL P k e rs vs vs'):SemV P k e rs (.tup vs) (.tup vs'):=by
 intro ω w Im θ h u hr hk hv
 cases hv with
 | tup h1 h2=>
  have:=hs.rel hr hk ⟨h1,fun i v u a b=>h2 i v u a (by simpa using b)⟩
  exact .tup this.len (fun i v u a b=>this.at_ i v u a (by simpa using b))
theorem SemV.agg{vs vs':List SV}(hs:SemL P k e rs vs vs'):SemV P k e rs (.agg vs) (.agg vs'):=by
 intro ω w Im θ h u hr hk hv
 cases hv with
 | agg h1 h2=>
  have:=hs.rel hr hk ⟨h1,fun i v u a b=>h2 i v u a (by simpa using b)⟩
  exact .agg this.len (fun i v u a b=>this.at_ i v u a (by simpa using b))
theorem SemC.rfl'{x:Nat}{c:Chunk}:SemC P k e rs x c c:=fun ω w Im θ h _ _ hc=>hc.mono (bC w) (fun _ _ h=>h) rfl (fun _ _ _=>rfl)
theorem SemC.cells{x:Nat}{T:TypeId}{vs vs':List SV}(hs:SemL P k e rs vs vs'):SemC P k e rs x (.cells T vs) (.cells T vs'):=by
 rintro ω w Im θ h hr hk ⟨b,cs,fr,h1,h2,h3,h4⟩
 exact⟨b,cs,fr,by rw[hs.len];exact h1,h2,h3,hs.rel hr hk h4⟩
def pp(P:Program)(H:HpL)(v:SV)(ups:List (Nat × Option Chunk))(v':SV)(ups':List (Nat × Option Chunk)):Prop:=
 ∃ k e rs,ad ups H.get k=some (.seq e rs)/\SemV P k e rs v v'/\∀ x c',ad ups' H.get x=some c'->x≠k/\∃ c,ad ups H.get x=some c/\SemC P k e rs x c c'
theorem uJ      {ω:Nat->Value}{H:HpL}{w w':World}{Im Im':Nat->Prop}{θ θ':Th}{ups ups':List (Nat × Option Chunk)}(hk:ad   ups H.get k=some (.seq e rs))
  (hu:∀ x c',ad ups' H.get x=some c'->x≠k/\∃ c,ad ups H.get x=some c/\SemC P k e rs x c c')
  (hE:Ext (fun x=>H.length<=x) H.get w Im θ (ad ups H.get) w' Im' θ') (hH:HRel P ω w' Im' θ' (ad ups H.get)):
  Ext (fun x=>H.length<=x) H.get w Im θ (ad ups' H.get) w' (au Im' θ' (ad ups H.get) [k]) θ'/\HRel P ω w' (au Im' θ' (ad ups H.get) [k]) θ' (ad ups' H.get):=by
 have hfb:∀ b,au Im' θ' (ad ups H.get) [k] b->Im' b\/∃ N,θ' k=some (b,N):=by
  rintro b (hb | ⟨y,hy,c,N,h1,h2⟩)
  . exact .inl hb
  . rw[List.mem_singleton]at hy;subst hy;exact .inr ⟨N,h2⟩
 refine⟨?_,?_⟩
 . refine {thOld:=hE.thOld,thUp:=hE.thUp,imUp:=fun b hb=>.inl (hE.imUp b hb),size:=hE.size,keep:=hE.keep,os:=hE.os,output:=hE.output,tape:=hE.tape,imNew:=fun b hb=> ?_,ownNew:=fun x c' b N hx hθ=> ?_}
   . rcases hfb b hb with hb | ⟨N,hb⟩
     . exact hE.imNew b hb
     . exact .inr (hE.ownNew k _ b N hk hb)
   . obtain⟨_,c,h1,_⟩:=hu x c' hx
     exact hE.ownNew x c b N h1 hθ
 . refine⟨fun x c' hx=> ?_,fun x y c c' b N N' hx hy h1 h2=> ?_,fun x c' b N hx hθ=> ?_,fun b hb=> ?_⟩
   . obtain⟨_,c,h1,h2⟩:=hu x c' hx
     exact h2 ω w' Im' θ' _ hH hk (hH.at_ x c h1)
   . obtain⟨_,c1,h3,_⟩:=hu x c hx
     obtain⟨_,c2,h4,_⟩:=hu y c' hy
     exact hH.inj x y c1 c2 b N N' h3 h4 h1 h2
   . obtain⟨hne,c,h1,_⟩:=hu x c' hx
     refine⟨fun hb=> ?_,(hH.own x c b N h1 hθ).2⟩
     rcases hfb b hb with hb | ⟨M,hb⟩
     . exact(hH.own x c b N h1 hθ).1 hb
     . exact hne (hH.inj x k c _ b N M h1 hk hθ hb)
   . rcases hfb b hb with hb | ⟨M,hb⟩
     . exact hH.im b hb
     . exact(hH.own k _ b M hk hb).2
theorem Ad{f:FuncId}{s s':ag}(h:Known P f s)(hs:∀ args H v' ups',ae (s' args H)=some (v',ups')->ae (s args H)=some (v',ups')\/∃ v ups,ae (s args H)=some (v,ups)/\pp P H v ups v' ups'):Known P f s':=by
 refine⟨h.fn,?_⟩
 intro args H v' ups' hr hc ω θ Im w us hl hH hfr
 rcases hs args H v' ups' hr with hr' | ⟨v,ups,hr',k,e,rs,hk,hv,hu⟩
 . exact h.ok args H v' ups' hr' hc ω θ Im w us hl hH hfr
 . refine(h.ok args H v ups hr' hc ω θ Im w us hl hH hfr).mono ?_
   rintro o w' ⟨u,θ',Im',rfl,hE,hvu,hH'⟩
   obtain⟨h1,h2⟩:=uJ hk hu hE hH'
   exact⟨u,θ',_,rfl,h1,hv ω w' Im' θ' _ u hH' hk hvu,h2⟩
def CoV(P:Program)(v v':SV):Prop:=∀ (ω:Nat->Value) (w:World) (Im:Nat->Prop) (θ:Th) (u:Value),VRel P ω w Im θ v u->VRel P ω w Im θ v' u
def CoC(P:Program)(x:Nat)(c c':Chunk):Prop:=∀ (ω:Nat->Value) (w:World) (Im:Nat->Prop) (θ:Th),CRel P ω w Im θ x c->CRel P ω w Im θ x c'
theorem CoV.rfl'{v:SV}:CoV P v v:=fun _ _ _ _ _ h=>h
theorem CoC.rfl'{x:Nat}{c:Chunk}:CoC P x c c:=fun _ _ _ _ h=>h
theorem CoV.nils{e':Nat}:CoV P .nils (.psl e' []):=fun _ _ _ _ _ h=>uK h
inductive CoL (P:Program):List SV->List SV->Prop
 | nil:CoL P [] []
 | cons {v v':SV} {vs vs':List SV}:CoV P v v'->CoL P vs vs'->CoL P (v :: vs) (v' :: vs')
theorem CoL.rfl':∀ {vs:List SV},CoL P vs vs
 | []=>.nil
 | _ :: _=>.cons .rfl' .rfl'
theorem CoL.len:∀ {vs vs':List SV},CoL P vs vs'->vs'.length=vs.length
 | _,_,.nil=>rfl
 | _,_,.cons _ h=>by simp[h.len]
theorem CoL.at_:∀ {vs vs':List SV},CoL P vs vs'->∀ (i:Nat) (v':SV),vs'[i]? =some v'->∃ v,vs[i]? =some v/\CoV P v v'
 | _,_,.nil,i,v',h=>by simp at h
 | _,_,.cons h1 h2,0,v',h=>by simp at h;subst h;exact⟨_,rfl,h1⟩
 | _,_,.cons h1 h2,i+1,v',h=>by simp at h;obtain⟨v,h3,h4⟩:=h2.at_ i v' h;exact⟨v,by simpa using h3,h4⟩
theorem CoL.rel{vs vs':List SV}(hs:CoL P vs vs'){ω:Nat->Value}{w:World}{Im:Nat->Prop}{θ:Th}{us:List Value}(hl:LRel P ω w Im θ vs us):LRel P ω w Im θ vs' us:=
 ⟨by rw[hs.len];exact hl.len,fun i v' u hv hu=>by
  obtain⟨v,h1,h2⟩:=hs.at_ i v' hv
  exact h2 ω w Im θ u (hl.at_ i v u h1 hu)⟩
theorem CoV.tup{vs vs':List SV}(hs:CoL P vs vs'):CoV P (.tup vs) (.tup vs'):=by
 intro ω w Im θ u hv
 cases hv with
 | tup h1 h2=>
  have:=hs.rel (ω:=ω) (w:=w) (Im:=Im) (θ:=θ) ⟨h1,fun i v u a b=>h2 i v u a (by simpa using b)⟩
  exact .tup this.len (fun i v u a b=>this.at_ i v u a (by simpa using b))
theorem CoV.agg{vs vs':List SV}(hs:CoL P vs vs'):CoV P (.agg vs) (.agg vs'):=by
 intro ω w Im θ u hv
 cases hv with
 | agg h1 h2=>
  have:=hs.rel (ω:=ω) (w:=w) (Im:=Im) (θ:=θ) ⟨h1,fun i v u a b=>h2 i v u a (by simpa using b)⟩
  exact .agg this.len (fun i v u a b=>this.at_ i v u a (by simpa using b))
theorem CoC.cells{x:Nat}{T:TypeId}{vs vs':List SV}(hs:CoL P vs vs'):CoC P x (.cells T vs) (.cells T vs'):=by
 rintro ω w Im θ ⟨b,cs,fr,h1,h2,h3,h4⟩
 exact⟨b,cs,fr,by rw[hs.len];exact h1,h2,h3,hs.rel h4⟩
def Told(P:Program)(H:HpL)(v:SV)(ups:List (Nat × Option Chunk))(v':SV)(ups':List (Nat × Option Chunk)):Prop:=
 CoV P v v'/\∀ x c',ad ups' H.get x=some c'->∃ c,ad ups H.get x=some c/\CoC P x c c'
theorem rJ       {ω:Nat->Value}{H:HpL}{w w':World}{Im Im':Nat->Prop}{θ θ':Th}{ups ups':List (Nat × Option Chunk)}
  (hu:∀ x c',ad ups' H.get x=some c'->∃ c,ad ups H.get x=some c/\CoC P x c c')
  (hE:Ext (fun x=>H.length<=x) H.get w Im θ (ad ups H.get) w' Im' θ') (hH:HRel P ω w' Im' θ' (ad ups H.get)):
  Ext (fun x=>H.length<=x) H.get w Im θ (ad ups' H.get) w' Im' θ'/\HRel P ω w' Im' θ' (ad ups' H.get):=by
 refine⟨?_,?_⟩
 . refine {thOld:=hE.thOld,thUp:=hE.thUp,imUp:=hE.imUp,size:=hE.size,keep:=hE.keep,os:=hE.os,output:=hE.output,tape:=hE.tape,imNew:=hE.imNew,ownNew:=fun x c' b N hx hθ=> ?_}
   obtain⟨c,h1,_⟩:=hu x c' hx
   exact hE.ownNew x c b N h1 hθ
 . refine⟨fun x c' hx=> ?_,fun x y c c' b N N' hx hy h1 h2=> ?_,fun x c' b N hx hθ=> ?_,hH.im⟩
   . obtain⟨c,h1,h2⟩:=hu x c' hx
     exact h2 ω w' Im' θ' (hH.at_ x c h1)
   . obtain⟨c1,h3,_⟩:=hu x c hx
     obtain⟨c2,h4,_⟩:=hu y c' hy
     exact hH.inj x y c1 c2 b N N' h3 h4 h1 h2
   . obtain⟨c,h1,_⟩:=hu x c' hx
     exact hH.own x c b N h1 hθ
theorem bw{f:FuncId}{s s':ag}(h:Known P f s)(hs:∀ args H v' ups',ae (s' args H)=some (v',ups')->∃ v ups,ae (s args H)=some (v,ups)/\(pp P H v ups v' ups'\/Told P H v ups v' ups')):Known P f s':=by
 refine⟨h.fn,?_⟩
 intro args H v' ups' hr hc ω θ Im w us hl hH hfr
 obtain⟨v,ups,hr',hh⟩:=hs args H v' ups' hr
 refine(h.ok args H v ups hr' hc ω θ Im w us hl hH hfr).mono ?_
 rintro o w' ⟨u,θ',Im',rfl,hE,hvu,hH'⟩
 rcases hh with ⟨k,e,rs,hk,hv,hu⟩ | ⟨hv,hu⟩
 . obtain⟨h1,h2⟩:=uJ hk hu hE hH'
   exact⟨u,θ',_,rfl,h1,hv ω w' Im' θ' _ u hH' hk hvu,h2⟩
 . obtain⟨h1,h2⟩:=rJ hu hE hH'
   exact⟨u,θ',Im',rfl,h1,hv ω w' Im' θ' u hvu,h2⟩
structure From (P:Program) (args:List SV) (H:HpL) (args2:List SV) (H2:HpL):Prop where
 args:CoL P args args2
 canon:gL H2
 len:H2.length=H.length
 fwd:∀ x c,H.get x=some c->∃ c2,H2.get x=some c2/\CoC P x c c2
 bwd:∀ x c2,H2.get x=some c2->∃ c,H.get x=some c
theorem From.hrel{args args2:List SV}{H H2:HpL}(h:From P args H args2 H2){ω:Nat->Value}{w:World}{Im:Nat->Prop}{θ:Th}(hr:HRel P ω w Im θ H.get):HRel P ω w Im θ H2.get:=by
 refine⟨fun x c hx=> ?_,fun x y c c' b N N' hx hy h1 h2=> ?_,fun x c b N hx hb=> ?_,hr.im⟩
 . obtain⟨c0,h1⟩:=h.bwd x c hx
   obtain⟨c2,h2,h3⟩:=h.fwd x c0 h1
   rw[hx]at h2
   cases h2
   exact h3 ω w Im θ (hr.at_ x c0 h1)
 . obtain⟨c1,h3⟩:=h.bwd x c hx
   obtain⟨c2,h4⟩:=h.bwd y c' hy
   exact hr.inj x y c1 c2 b N N' h3 h4 h1 h2
 . obtain⟨c1,h3⟩:=h.bwd x c hx
   exact hr.own x c1 b N h3 hb
theorem From.ext{args args2:List SV}{H H2:HpL}(h:From P args H args2 H2){w w':World}{Im Im':Nat->Prop}{θ θ':Th}{h':HpF}(he:Ext (fun x=>H2.length<=x) H2.get w Im θ h' w' Im' θ'):Ext (fun x=>H.length<=x) H.get w Im θ h' w' Im' θ':=by
 rw[h.len]at he
 refine {thOld:=he.thOld,thUp:=he.thUp,imUp:=he.imUp,size:=he.size,os:=he.os,output:=he.output,tape:=he.tape,keep:=fun b hb hno=> ?_,imNew:=fun b hb=> ?_,ownNew:=fun x c b N hx hθ=> ?_}
 . refine he.keep b hb (fun x c N hx hθ=> ?_)
   obtain⟨c0,h1⟩:=h.bwd x c hx
   exact hno x c0 N h1 hθ
 . rcases he.imNew b hb with h1 | ⟨x,c,N,h1,h2⟩ | h1
   . exact .inl h1
   . obtain⟨c0,h3⟩:=h.bwd x c h1
     exact .inr (.inl ⟨x,c0,N,h3,h2⟩)
   . exact .inr (.inr h1)
 . rcases he.ownNew x c b N hx hθ with ⟨y,c',N',h1,h2⟩ | h1
   . obtain⟨c0,h3⟩:=h.bwd y c' h1
     exact .inl ⟨y,c0,N',h3,h2⟩
   . exact .inr h1
theorem Ae{e:LEnt}{s':ag}(h:aR P e)(hs:∀ args H v ups',ae (s' args H)=some (v,ups')->gL H->∃ args2 H2 ups,ae (e.s args2 H2)=some (v,ups)/\From P args H args2 H2/\∀ x,ad ups' H.get x=ad ups H2.get x):aR P {e with s:=s'}:=by
 intro args H kk c0 outs ups' hr hc ho ha
 obtain⟨args2,H2,ups,hr',hf,he⟩:=hs args H _ ups' hr hc
 have he':ad ups' H.get=ad ups H2.get:=funext he
 have hal:args2.length=e.ins.length:=by rw[hf.args.len];exact ha
 obtain⟨m,hm⟩:=h args2 H2 kk c0 outs ups hr' hf.canon ho hal
 refine⟨m,fun ω θ Im w a Q hsz hla hH hfr hmk hQ=>hm ω θ Im w a Q hsz (hf.args.rel hla) (hf.hrel hH) (fun x hx=>hfr x (by rw[<- hf.len];exact hx)) ?_ ?_⟩
 . obtain⟨rs,r1,r2,r3⟩:=hmk
   refine⟨rs,r1,r2,fun r hrr=>⟨(r3 r hrr).1,(r3 r hrr).2.1,fun x c N hx=> ?_⟩⟩
   obtain⟨c0,h1⟩:=hf.bwd x c hx
   exact(r3 r hrr).2.2 x c0 N h1
 . intro a' w' Im' θ' b1 b2 b3 b4 b5 b6 b7
   rw[<- he']at b2 b4 b6
   exact hQ a' w' Im' θ' b1 (hf.ext b2) b3 b4 b5 b6 b7
end Go.Am
namespace Go.Am
variable {P:Program}
def uA(P:Program)(H:HpL)(v:SV)(ups:List (Nat × Option Chunk))(v':SV)(ups':List (Nat × Option Chunk)):Prop:=
 ∃ (c:Int) (vs vs':List SV),v= .tup (.int .i64 c :: vs)/\v'= .tup (.int .i64 c :: vs')/\CoL P vs vs'/\∀ x c',ad ups' H.get x=some c'->∃ c,ad ups H.get x=some c/\CoC P x c c'
theorem rF{e:LEnt}{s':ag}(h:aR P e)(hs:∀ args H v' ups',ae (s' args H)=some (v',ups')->∃ v ups,ae (e.s args H)=some (v,ups)/\uA P H v ups v' ups'):aR P {e with s:=s'}:=by
 intro args H kk c0 outs' ups' hr hc ho ha
 obtain⟨v,ups,hr',c,vs,vs',rfl,hv,hl,hu⟩:=hs args H _ ups' hr
 simp only[SV.tup.injEq,List.cons.injEq,SV.int.injEq]at hv
 obtain⟨⟨rfl,rfl⟩,rfl⟩:=hv
 obtain⟨m,hm⟩:=h args H .i64 c0 vs ups hr' hc (by rw[<- hl.len];exact ho) ha
 refine⟨m,fun ω θ Im w a Q hsz hla hH hfr hmk hQ=>hm ω θ Im w a Q hsz hla hH hfr hmk ?_⟩
 intro a' w' Im' θ' b1 b2 b3 b4 b5 b6 b7
 obtain⟨h1,h2⟩:=rJ hu b2 b4
 refine hQ a' w' Im' θ' b1 h1 (hl.rel b3) h2 b5 ?_ b7
 obtain⟨rs',r1,r2,r3⟩:=b6
 refine⟨rs',r1,r2,fun r hrr=>⟨(r3 r hrr).1,(r3 r hrr).2.1,fun x c' N hx=> ?_⟩⟩
 obtain⟨c,g1,_⟩:=hu x c' hx
 exact(r3 r hrr).2.2 x c N g1
theorem eP{μ:List SV->HpL->Nat}{s:ag}{n:Nat}{args:List SV}{H:HpL}{v:SV}{ups:List (Nat × Option Chunk)}(h:ae (az μ s n args H)=some (v,ups)):Nat.blt (μ args H) n=true/\ae (s args H)=some (v,ups):=by
 unfold az at h
 cases hb:Nat.blt (μ args H) n with
 | false=>rw[hb]at h;cases h
 | true=>rw[hb]at h;exact⟨rfl,h⟩
theorem uB         {T:cQ  }{sp:Bool}{fuel:Nat}{e:LEnt}{c:Code}{μ:List SV->HpL->Nat}(hmix:P.follows .mixedOrders=true)(hT:LOk P T)(hfill:aM    T c=e.code)
  (hstep:∀ n args H v' ups',Nat.blt (μ args H) (n+1)=true->ae (e.s args H)=some (v',ups')->∃ (κ:Nat->Option ag) (ι:Nat->Bool),KOk P κ/\((∃ ups,ae (ay P κ ι T sp fuel e {e with s:=az μ e.s n} c args H)=some (v',ups)/\∀ x,ad ups' H.get x=ad ups H.get x)\/
   (∃ v ups,ae (ay P κ ι T sp fuel e {e with s:=az μ e.s n} c args H)=some (v,ups)/\cg H v ups v' ups')\/
   (∃ v ups,ae (ay P κ ι T sp fuel e {e with s:=az μ e.s n} c args H)=some (v,ups)/\uA P H v ups v' ups'))):aR P e:=by
 have key:∀ n,aR P {e with s:=az μ e.s n}:=by
  intro n
  induction n with
  | zero=>
   intro args H k c outs ups hrun
   obtain⟨h1,_⟩:=eP hrun
   rw[bL]at h1;omega
  | succ n ih=>
   intro args H k c0 outs ups hrun hc ho ha
   obtain⟨hb,hr⟩:=eP hrun
   obtain⟨κ,ι,hκ,hh⟩:=hstep n args H _ ups hb hr
   have hv:=ji (κ:=κ) (ι:=ι) (T:=T) (sp:=sp) (fuel:=fuel) (c:=c) hκ hmix hT hfill ih
   let one:ag:=fun a h=>by classical exact if a=args/\h=H then .ret (.tup (.int k c0 :: outs)) ups else .fail
   suffices hval:aR P {e with s:=one}from hval args H k c0 outs ups (by show ae (one args H)=_;simp[one,ae]) hc ho ha
   have at1:∀ {a h v' u'},ae (one a h)=some (v',u')->a=args/\h=H/\v'= .tup (.int k c0 :: outs)/\u'=ups:=by
    intro a h v' u' hx
    simp only[one]at hx
    split at hx
    . rename_i hq;cases hx;exact⟨hq.1,hq.2,rfl,rfl⟩
    . cases hx
   rcases hh with hh | hh | hh
   . refine(ia (e:={e with s:=fun args H=>ay P κ ι T sp fuel e {e with s:=az μ e.s n} c args H}) hv (fun a h v' u' hx=> ?_))
     obtain⟨rfl,rfl,rfl,rfl⟩:=at1 hx
     exact .inl hh
   . refine(ia (e:={e with s:=fun args H=>ay P κ ι T sp fuel e {e with s:=az μ e.s n} c args H}) hv (fun a h v' u' hx=> ?_))
     obtain⟨rfl,rfl,rfl,rfl⟩:=at1 hx
     exact .inr hh
   . refine(rF (e:={e with s:=fun args H=>ay P κ ι T sp fuel e {e with s:=az μ e.s n} c args H}) hv (fun a h v' u' hx=> ?_))
     obtain⟨rfl,rfl,rfl,rfl⟩:=at1 hx
     exact hh
 intro args H k c0 outs ups hrun
 exact key (μ args H+1) args H k c0 outs ups (by
  show ae (az μ e.s _ args H)=_
  unfold az
  rw[show Nat.blt (μ args H) (μ args H+1)=true by rw[bL];omega]
  exact hrun)
end Go.Am
namespace Go.Am
variable {P:Program}
theorem s9          {f:FuncId}{s s':ag   }(h:Known P f s) (hs:∀ args H v ups,ae   (s' args H)=some (v,ups)->ae   (s args H)=some (v,ups)\/
  ∃ a sz e,H=[]/\v= .tup [.qs 0 sz 0 0,a]/\ups=[(0,some (.seq e []))]/\ak a=[]/\bq id a=a/\ae (s args H)=some (.tup [.nils,a],[])):Known P f s':=by
 refine⟨h.fn,?_⟩
 intro args H v ups hr hc ω θ Im w us hl hH hfr
 rcases hs args H v ups hr with hr' | ⟨a,sz,e,rfl,rfl,rfl,hna,hra,hr'⟩
 . exact h.ok args H v ups hr' hc ω θ Im w us hl hH hfr
 . refine(h.ok args [] _ _ hr' hc ω θ Im w us hl hH hfr).mono ?_
   rintro o w' ⟨u,θ',Im',rfl,hE,hv,hH'⟩
   have hno:∀ x,θ x=none:=fun x=>hfr x (Nat.zero_le x)
   have hget:∀ x c,HpL.get [] x≠some c:=fun x c h=>by simp[HpL.get]at h
   have hup:∀ x c,ad [(0,some (.seq e []))] (HpL.get []) x=some c->x=0/\c= .seq e []:=by
    intro x c hx
    simp only[ad]at hx
    split at hx
    . rename_i h0;cases hx;exact⟨h0,rfl⟩
    . exact absurd hx (hget x c)
   refine⟨u,θ,Im',rfl,?_,?_,?_⟩
   · exact { thOld := fun _ _ => rfl, thUp := fun _ _ h => h, imUp := hE.imUp, size := hE.size, keep := hE.keep, os := hE.os, output := hE.output, tape := hE.tape
             imNew:=fun b hb=>hE.imNew b hb,ownNew:=fun x c b N _ hx=>by rw[hno x]at hx;cases hx}
   . cases hv with
     | tup h1 h2=>
      rename_i vs
      refine .tup (by simpa using h1) (fun i v u hvi hui=> ?_)
      match i,hvi with
      | 1,hvi=>
       simp at hvi;subst hvi
       have:=VRel.ren (h2 1 a u (by simp) hui) (θ2:=θ) id (fun x hx=>by rw[hna]at hx;cases hx)
       rwa [hra]at this
      | 0,hvi=>
       simp at hvi;subst hvi
       have:=h2 0 .nils u (by simp) hui
       cases this
       exact .qsnil rfl
   . refine⟨fun x c hx=> ?_,fun x y c c' b N N' _ _ hx=>(by rw[hno x]at hx;cases hx),fun x c b N _ hx=>(by rw[hno x]at hx;cases hx),hH'.im⟩
     obtain⟨rfl,rfl⟩:=hup x c hx
     exact .inl ⟨rfl,hno _⟩
end Go.Am
namespace Go.Am
variable {P:Program}
mutual
def qU:SV->Bool
 | .junk | .bool _ | .int _ _ | .str _ | .nils | .nilp | .nilm | .nilf | .nili=>true
 | .agg cs=>su cs
 | .tup vs=>su vs
 | _=>false
def su:List SV->Bool
 | []=>true
 | v :: vs=>qU v&&su vs
end
theorem mQ:∀ {vs:List SV},su vs=true->∀ {i:Nat} {v:SV},vs[i]? =some v->qU v=true
 | [],_,i,v,h=>by simp at h
 | w :: vs,hn,i,v,h=>by
  simp only[su,bA]at hn
  cases i with
  | zero=>simp at h;subst h;exact hn.1
  | succ i=>exact mQ hn.2 (by simpa using h)
theorem wv{ω ω':Nat->Value}{w w':World}{Im Im':Nat->Prop}{θ θ':Th}{v:SV}{u:Value}(h:VRel P ω w Im θ v u)(hn:qU v=true):VRel P ω' w' Im' θ' v u:=by
 induction h with
 | junk=>exact .junk
 | bool=>exact .bool
 | int=>exact .int
 | str h=>exact .str h
 | nilp=>exact .nilp
 | nils=>exact .nils
 | nilm=>exact .nilm
 | nilf=>exact .nilf
 | nili=>exact .nili
 | agg h1 _ ih=>exact .agg h1 (fun i v u a b=>ih i v u a b (mQ (by simpa [qU]using hn) a))
 | tup h1 _ ih=>exact .tup h1 (fun i v u a b=>ih i v u a b (mQ (by simpa [qU]using hn) a))
 | _=>simp[qU]at hn
theorem Er      {ω:Nat->Value}{w:World}{Im:Nat->Prop}{θ:Th}{h:HpF}(hr:HRel P ω w Im θ h){x e sz l n:Nat}{es:List SV}(hx:h x=some (.seq e es))(hsz:sz=P.cellsOf e)(hl:l+n<=es.length){u:Value}(hv:VRel P ω w Im θ (.qs x sz l n) u){ω':Nat->Value}{θ':Th}:
  VRel P ω' w (au Im θ h [x]) θ' (.psl e ((es.drop l).take n)) u:=by
 have hc:=hr.at_ x _ hx
 have hlen:((es.drop l).take n).length=n:=by rw[List.length_take,List.length_drop];omega
 cases hv with
 | qsnil h0=>
  subst h0
  rw[List.take_zero]
  exact .psl (fun _=>undef) rfl ⟨Nat.le_refl _,by simp⟩ (fun v hv=>by cases hv) (fun i v hv=>by simp at hv) (fun hn=>absurd rfl hn)
 | qs hθ h1 h2=>
  rename_i b N cap
  rcases hc with ⟨_,h3⟩ | ⟨b',N',cs,T,fr,us,h3,h4,h5,h6,h7,h8,h9⟩
  . rw[h3]at hθ;cases hθ
  . rw[hθ]at h3
    simp only[sJ,pJ]at h3
    obtain⟨rfl,rfl⟩:=h3
    have hat:∀ i v,((es.drop l).take n)[i]? =some v->es[l+i]? =some v:=fun i v hv=>by
     rw[List.getElem?_take]at hv
     by_cases hi:i < n
     . rw[if_pos hi,List.getElem?_drop]at hv;exact hv
     . rw[if_neg hi]at hv;cases hv
    refine .psl (fun i=>us (l+i)) hlen ⟨h2,by simp⟩ (fun v hv=>h8 v (List.mem_of_mem_drop (List.mem_of_mem_take hv))) (fun i v hv=> ?_) (fun hne=>⟨b,l * sz,rfl,.inr ⟨x,by simp,_,_,hx,hθ⟩,fun i hi=> ?_⟩)
    . exact((h9 (l+i) v (hat i v hv)).1.mono (bC w) (fun _ _ h=>h))
    . have hi':l+i < es.length:=by omega
      obtain⟨g1,g2,g3⟩:=h9 (l+i) es[l+i] (by simp[hi'])
      refine⟨g2,fun d c hd=> ?_⟩
      have:=g3 d c hd
      simp only[World.cell?,h4,hsz]
      rw[Nat.add_mul]at this
      simpa using this
theorem qV         {f : FuncId} {s s' : ag   } (h : Known P f s) (hs : ∀ args H v ups, ae   (s' args H) = some (v, ups) → ∃ (pre : List SV) (e : Nat) (es : List SV) (l n sz : Nat), args = pre ++ [.qs 0 sz l n] ∧ H = [(0, .seq e es)] ∧ sz = P.cellsOf e ∧ l + n ≤ es.length ∧
      su pre=true/\qU v=true/\(∀ x,ad ups H.get x=H.get x)/\ae (s (pre++[.psl e ((es.drop l).take n)]) [])=some (v,[])):Known P f s':=by
 refine⟨h.fn,?_⟩
 intro args H v ups hr hc ω θ Im w us hl hH hfr
 obtain⟨pre,e,es,l,n,sz,rfl,rfl,hsz,hle,hp,hv,hu,hrun⟩:=hs args H v ups hr
 have hx:HpL.get [(0,Chunk.seq e es)] 0=some (.seq e es):=rfl
 have hget:∀ x c,HpL.get [(0,Chunk.seq e es)] x=some c->x=0/\c= .seq e es:=fun x c hxc=>by
  simp only[HpL.get]at hxc
  cases hb:Nat.beq 0 x with
  | true=>rw[hb]at hxc;exact⟨(nE hb).symm,by cases hxc;rfl⟩
  | false=>rw[hb]at hxc;cases hxc
 let Im1:=au Im θ (HpL.get [(0,Chunk.seq e es)]) [0]
 have hIm1:∀ b,Im1 b->Im b\/∃ N,θ 0=some (b,N):=by
  rintro b (hb | ⟨y,hy,c,N,h1,h2⟩)
  . exact .inl hb
  . rw[List.mem_singleton]at hy;subst hy;exact .inr ⟨N,h2⟩
 have hsz1:∀ b,Im1 b->b < w.heap.size:=fun b hb=>by
  rcases hIm1 b hb with h1 | ⟨N,h1⟩
  . exact hH.im b h1
  . exact(hH.own 0 _ b N hx h1).2
 have hl2:LRel P ω w Im1 eG (pre++[.psl e ((es.drop l).take n)]) us:=by
  refine⟨by rw[<- hl.len];simp,fun i v' u hv' hu'=> ?_⟩
  by_cases hi:i < pre.length
  . rw[List.getElem?_append_left hi]at hv'
    exact wv (hl.at_ i v' u (by rw[List.getElem?_append_left hi];exact hv') hu') (mQ hp hv')
  . rw[List.getElem?_append_right (by omega)]at hv'
    have hi0:i - pre.length=0:=by
     cases hz:i - pre.length with
     | zero=>rfl
     | succ j=>rw[hz]at hv';simp at hv'
    rw[hi0]at hv'
    simp at hv'
    subst hv'
    exact Er hH hx hsz hle (hl.at_ i _ u (by rw[List.getElem?_append_right (by omega),hi0];rfl) hu')
 have hH2:HRel P ω w Im1 eG (HpL.get []):=⟨fun x c hx=>by simp[HpL.get]at hx,fun x y c c' b N N' hx=>by simp[HpL.get]at hx,fun x c b N hx=>by simp[HpL.get]at hx,hsz1⟩
 refine(h.ok _ [] v [] hrun (fun i p hp=>by simp at hp) ω eG Im1 w us hl2 hH2 (fun x _=>rfl)).mono ?_
 rintro o w' ⟨u,θ',Im',rfl,hE,hvu,hH'⟩
 let Im3:Nat->Prop:=fun b=>Im' b/\∀ N,θ 0≠some (b,N)
 have hold:∀ b,b < w.heap.size->w'.heap[b]? =w.heap[b]? :=fun b hb=>hE.keep b hb (fun x c N hx=>by simp[HpL.get]at hx)
 have hup:∀ b,Im b->Im3 b:=fun b hb=>⟨hE.imUp b (.inl hb),fun N hN=>(hH.own 0 _ b N hx hN).1 hb⟩
 have hmono:∀ b,Im b->Im3 b/\w'.heap[b]? =w.heap[b]? :=fun b hb=>⟨hup b hb,hold b (hH.im b hb)⟩
 have hu':ad ups (HpL.get [(0,Chunk.seq e es)])=HpL.get [(0,Chunk.seq e es)]:=funext hu
 refine⟨u,θ,Im3,rfl,?_,wv hvu hv,?_⟩
 . rw[hu']
   refine {thOld:=fun _ _=>rfl,thUp:=fun _ _ h=>h,imUp:=hup,size:=hE.size,keep:=fun b hb _=>hold b hb,imNew:=fun b hb=> ?_,ownNew:=fun x c b N h1 h2=>.inl ⟨x,c,N,h1,h2⟩,os:=hE.os,output:=hE.output,tape:=hE.tape}
   rcases hE.imNew b hb.1 with h1 | ⟨x,c,N,h1,_⟩ | h1
   . rcases hIm1 b h1 with h2 | ⟨N,h2⟩
     . exact .inl h2
     . exact absurd h2 (hb.2 N)
   . simp[HpL.get]at h1
   . exact .inr (.inr h1)
 . rw[hu']
   refine⟨fun x c hxc=> ?_,hH.inj,fun x c b N hxc hb=> ?_,fun b hb=> ?_⟩
   . obtain⟨rfl,rfl⟩:=hget x c hxc
     rcases hH.at_ 0 _ hx with h1 | ⟨b',N',cs,T,fr,us',h3,h4,h5,h6,h7,h8,h9⟩
     . exact .inl h1
     . refine .inr ⟨b',N',cs,T,fr,us',h3,by rw[hold b' (hH.own 0 _ b' N' hx h3).2];exact h4,h5,h6,h7,h8,fun i v' hv'=> ?_⟩
       obtain⟨g1,g2,g3⟩:=h9 i v' hv'
       exact⟨g1.mono hmono (fun _ _ h=>h),g2,g3⟩
   . obtain⟨rfl,rfl⟩:=hget x c hxc
     exact⟨fun hi=>hi.2 N hb,Nat.lt_of_lt_of_le (hH.own 0 _ b N hx hb).2 hE.size⟩
   . rcases hE.imNew b hb.1 with h1 | ⟨x,c,N,h1,_⟩ | h1
     . exact Nat.lt_of_lt_of_le (hsz1 b h1) hE.size
     . simp[HpL.get]at h1
     . exact hH'.im b hb.1
theorem sv{f:FuncId}{s:ag}{μ:List SV→HpL→Nat}(hf:∃ fn,P.funcs[f]? =some fn∧(fn.name== "runtime.NumGoroutine")=false∧fn.body.isNone=false)(hstep:∀ n,Known P f (az μ s n)→Known P f (az μ s (n+1))):Known P f s:=by
 have key:∀ n,Known P f (az μ s n):=by
  intro n
  induction n with
  | zero=>
   refine⟨hf,fun args H v ups h=> ?_⟩
   obtain⟨h1,_⟩:=eP h
   rw[bL]at h1;omega
  | succ n ih=>exact hstep n ih
 refine⟨hf,fun args H v ups h=>(key (μ args H+1)).ok args H v ups ?_⟩
 unfold az
 rw[show Nat.blt (μ args H) (μ args H+1)=true by rw[bL];omega]
 exact h
end Go.Am
namespace Go.Am
variable {P:Program}
inductive ChainL (P:Program) (H:HpL):SV->List (Nat × Option Chunk)->SV->List (Nat × Option Chunk)->Prop
 | same {v ups ups'}:(∀ x,ad ups' H.get x=ad ups H.get x)->ChainL P H v ups v ups'
 | ren {v ups v' ups'}:cg H v ups v' ups'->ChainL P H v ups v' ups'
 | told {v ups v' ups'}:uA P H v ups v' ups'->ChainL P H v ups v' ups'
 | trans {v ups v1 ups1 v' ups'}:ChainL P H v ups v1 ups1->ChainL P H v1 ups1 v' ups'->ChainL P H v ups v' ups'
noncomputable def kG(args:List SV)(H:HpL)(v:SV)(ups:List (Nat × Option Chunk)):ag:=fun a h=>by classical exact if a=args/\h=H then .ret v ups else .fail
theorem md{args:List SV}{H:HpL}{v:SV}{ups:List (Nat × Option Chunk)}{a:List SV}{h:HpL}{v':SV}{u':List (Nat × Option Chunk)}(hx:ae (kG args H v ups a h)=some (v',u')):a=args/\h=H/\v'=v/\u'=ups:=by
 simp only[kG]at hx
 split at hx
 . rename_i hq;cases hx;exact⟨hq.1,hq.2,rfl,rfl⟩
 . cases hx
theorem j8(args:List SV)(H:HpL)(v:SV)(ups:List (Nat × Option Chunk)):ae (kG args H v ups args H)=some (v,ups):=by simp[kG,ae]
theorem xz{e:LEnt}{args:List SV}{H:HpL}{v:SV}{ups:List (Nat × Option Chunk)}{v':SV}{ups':List (Nat × Option Chunk)}(hch:ChainL P H v ups v' ups'):aR P {e with s:=kG args H v ups}->aR P {e with s:=kG args H v' ups'}:=by
 induction hch with
 | same hs=>
  intro h
  refine ia (e:={e with s:=kG args H _ _}) h (fun a h2 v2 u2 hx=> ?_)
  obtain⟨rfl,rfl,rfl,rfl⟩:=md hx
  exact .inl ⟨_,j8 _ _ _ _,hs⟩
 | ren hs=>
  intro h
  refine ia (e:={e with s:=kG args H _ _}) h (fun a h2 v2 u2 hx=> ?_)
  obtain⟨rfl,rfl,rfl,rfl⟩:=md hx
  exact .inr ⟨_,_,j8 _ _ _ _,hs⟩
 | told hs=>
  intro h
  refine rF (e:={e with s:=kG args H _ _}) h (fun a h2 v2 u2 hx=> ?_)
  obtain⟨rfl,rfl,rfl,rfl⟩:=md hx
  exact⟨_,_,j8 _ _ _ _,hs⟩
 | trans _ _ ih1 ih2=>exact fun h=>ih2 (ih1 h)
theorem vN{T:cQ}{sp:Bool}{fuel:Nat}{e:LEnt}{c:Code}{μ:List SV->HpL->Nat}(hmix:P.follows .mixedOrders=true)(hT:LOk P T)(hfill:aM T c=e.code)
  (hstep:∀ n args H v' ups',Nat.blt (μ args H) (n+1)=true->ae (e.s args H)=some (v',ups')->∃ (κ:Nat->Option ag) (ι:Nat->Bool),KOk P κ/\
   ∃ v ups,ae (ay P κ ι T sp fuel e {e with s:=az μ e.s n} c args H)=some (v,ups)/\ChainL P H v ups v' ups'):aR P e:=by
 have key:∀ n,aR P {e with s:=az μ e.s n}:=by
  intro n
  induction n with
  | zero=>
   intro args H k c outs ups hrun
   obtain⟨h1,_⟩:=eP hrun
   rw[bL]at h1;omega
  | succ n ih=>
   intro args H k c0 outs ups hrun hc ho ha
   obtain⟨hb,hr⟩:=eP hrun
   obtain⟨κ,ι,hκ,v,u,hrn,hch⟩:=hstep n args H _ ups hb hr
   have hv:=ji (κ:=κ) (ι:=ι) (T:=T) (sp:=sp) (fuel:=fuel) (c:=c) hκ hmix hT hfill ih
   have h1:aR P {e with s:=kG args H v u}:=ia (e:={e with s:=fun args H=>ay P κ ι T sp fuel e {e with s:=az μ e.s n} c args H}) hv (fun a h v' u' hx=>by
    obtain⟨rfl,rfl,rfl,rfl⟩:=md hx
    exact .inl ⟨_,hrn,fun _=>rfl⟩)
   exact xz hch h1 args H k c0 outs ups (j8 _ _ _ _) hc ho ha
 intro args H k c0 outs ups hrun
 exact key (μ args H+1) args H k c0 outs ups (by
  show ae (az μ e.s _ args H)=_
  unfold az
  rw[show Nat.blt (μ args H) (μ args H+1)=true by rw[bL];omega]
  exact hrun)
end Go.Am
namespace Go.Am
variable {P:Program}
end Go.Am
