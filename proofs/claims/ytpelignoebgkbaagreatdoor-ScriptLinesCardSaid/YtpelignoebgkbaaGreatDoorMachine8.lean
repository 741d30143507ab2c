/- The abstract machine: calls that may raise: what is known of them, operations one after the other. -/
import Derived.Test.YtpelignoebgkbaaGreatDoorMachine7
import Derived.Test.YtpelignoebgkbaaGreatDoorMachine6
set_option linter.unusedVariables false
set_option linter.unusedSimpArgs false
namespace Go.Am
variable {P : Program} {ω : Nat → Value}
def panId : Nat := 1000000
def PQ (Kp : List Nat) (Q : Exit → Act → World → Prop) : Exit → Act → World → Prop
 | .exit j, a, w => if panId ≤ j then ∀ a', a'.defers = a.defers → a'.tmps.size = a.tmps.size → (∀ t ∈ Kp, a'.tmps.getD t undef = a.tmps.getD t undef) → Q (.panic [{ v := a.tmps.getD (j - panId) undef, recovered := false }]) a' w else Q (.exit j) a w
 | e, a, w => Q e a w
variable {Kp : List Nat}
theorem PQ_low {Q : Exit → Act → World → Prop} {j : Nat} (h : j < panId) (a : Act) (w : World) : PQ Kp Q (.exit j) a w = Q (.exit j) a w := by
 simp only [PQ, if_neg (Nat.not_le.2 h)]
theorem PQ_pan {Q : Exit → Act → World → Prop} {t : Nat} {a : Act} {w : World} (h : PQ Kp Q (.exit (panId + t)) a w) {a' : Act} (hd : a'.defers = a.defers) (hz : a'.tmps.size = a.tmps.size) (hk : ∀ t ∈ Kp, a'.tmps.getD t undef = a.tmps.getD t undef) : Q (.panic [{ v := a.tmps.getD t undef, recovered := false }]) a' w := by
 simp only [PQ, if_pos (Nat.le_add_right panId t), Nat.add_sub_cancel_left] at h
 exact h a' hd hz hk
theorem PQ_then {K : Act → World → Prop} {Q : Exit → Act → World → Prop} {e : Exit} (he : e ≠ .normal) {a : Act} {w : World} (h : PQ Kp Q e a w) : PQ Kp (Exit.then K Q) e a w := by
 cases e with
 | normal => exact absurd rfl he
 | exit j =>
  unfold PQ at h ⊢
  by_cases hj : panId ≤ j
  · simp only [if_pos hj] at h ⊢; exact h
  · simp only [if_neg hj] at h ⊢; exact h
 | _ => exact h
def endX (b : Bool) (u : Value) : Ending := if b then .returned u else .panicked [{ v := u, recovered := false }]
def ValidX (P : Program) (f : FuncId) (s : CSumm) : Prop :=
 ∀ (args : List SV) (H : HpL) b v ups, crun (s args H) = some (.tup [.bool b, v], ups) → Canon H → ∀ (ω : Nat → Value) (θ : Th) (Im : Nat → Prop) (w : World) (us : List Value),
  LRel P ω w Im θ args us → HRel P ω w Im θ H.get → (∀ x, H.length ≤ x → θ x = none) →
  Calls P f us.toArray w fun e w' => ∃ u θ' Im', e = endX b u ∧ Ext (fun x => H.length ≤ x) H.get w Im θ (updF ups H.get) w' Im' θ' ∧ VRel P ω w' Im' θ' v u ∧ HRel P ω w' Im' θ' (updF ups H.get)
structure KnownX (P : Program) (f : FuncId) (s : CSumm) : Prop where
 fn : ∃ fn, P.funcs[f]? = some fn ∧ (fn.name == "runtime.NumGoroutine") = false ∧ fn.body.isNone = false
 ok : ValidX P f s
structure XOk (P : Program) (π : Nat → Option CSumm) : Prop where
 fn : ∀ f s, π f = some s → ∃ fn, P.funcs[f]? = some fn ∧ (fn.name == "runtime.NumGoroutine") = false ∧ fn.body.isNone = false
 ok : ∀ f s, π f = some s → ValidX P f s
theorem xtbl_nil : XOk P (tbl []) := ⟨(fun _ _ h => by cases h), (fun _ _ h => by cases h)⟩
theorem xtbl_cons {g : Nat} {s : CSumm} {l : List (Nat × CSumm)} (h1 : KnownX P g s) (h2 : XOk P (tbl l)) : XOk P (tbl ((g, s) :: l)) := by
 have key : ∀ f s', tbl ((g, s) :: l) f = some s' → (f = g ∧ s' = s) ∨ tbl l f = some s' := by
  intro f s' h
  simp only [tbl] at h
  cases hb : Nat.beq g f with
  | true =>
   rw [hb] at h
   simp only [cond_true, Option.some.injEq] at h
   exact .inl ⟨(Nat.eq_of_beq_eq_true hb).symm, h.symm⟩
  | false => rw [hb] at h; exact .inr h
 constructor
 · intro f s' h
   rcases key f s' h with ⟨rfl, rfl⟩ | h
   · exact h1.fn
   · exact h2.fn f s' h
 · intro f s' h
   rcases key f s' h with ⟨rfl, rfl⟩ | h
   · exact h1.ok
   · exact h2.ok f s' h
def onlyRet : CTree → CTree
 | .ret (.tup [.bool true, v]) ups => .ret v ups
 | .ret _ _ => .fail
 | .ite b t e => .ite b (onlyRet t) (onlyRet e)
 | .fail => .fail
theorem onlyRet_run : ∀ {t : CTree} {v : SV} {ups : List (Nat × Option Chunk)}, crun (onlyRet t) = some (v, ups) → crun t = some (.tup [.bool true, v], ups)
 | .ret x u, v, ups, h => by
  unfold onlyRet at h
  split at h
  · rename_i h1
    cases h1
    simp only [crun, Option.some.injEq, Prod.mk.injEq] at h
    obtain ⟨rfl, rfl⟩ := h
    rfl
  · cases h
  · rename_i h1; cases h1
  · cases h
 | .ite b t e, v, ups, h => by
  simp only [onlyRet, crun] at h ⊢
  cases b
  · simp only [Bool.false_eq_true, if_false] at h ⊢; exact onlyRet_run h
  · simp only [if_true] at h ⊢; exact onlyRet_run h
 | .fail, v, ups, h => by cases h
def retS (s : CSumm) : CSumm := fun args H => onlyRet (s args H)
theorem ret_valid {f : FuncId} {s : CSumm} (h : ValidX P f s) : ValidC P f (retS s) := by
 intro args H v ups hr hc ω θ Im w us h1 h2 h3
 exact h args H true v ups (onlyRet_run hr) hc ω θ Im w us h1 h2 h3
theorem KnownX.ret {f : FuncId} {s : CSumm} (h : KnownX P f s) : Known P f (retS s) := ⟨h.fn, ret_valid h.ok⟩
/- Operations. -/
def callT (o : Oper) (ev : Operand → SV) : Option (Nat × List SV) :=
 match o.op with
 | .call c => match c.callee with
  | .value f => match ev f with
   | .fn (.func g) first caps => some (g, first ++ (c.args.toList.map ev ++ caps))
   | _ => none
  | _ => none
 | _ => none
section
variable {R : Type} (fl : R) (P : Program) (κ π : Nat → Option CSumm) (Kp : List Nat)
def xT (o : Oper) (ev : Operand → SV) : Option (CSumm × List SV) :=
 match callT o ev with
 | some (g, args) => match π g with
  | some sx => some (sx, args)
  | none => none
 | none => none
def panT (o : Oper) (ev : Operand → SV) : Option Nat :=
 match o.op with
 | .panic (.tmp t) => match ev (.tmp t) with
  | .iface _ _ => some t
  | _ => none
 | _ => none
def opsP (all : List Oper) (k : Ex → St → R) : List Oper → St → R
 | [], s => k .normal s
 | o :: os, s =>
  bif dstOk s o.dst then
   guardR fl all s (fun s go =>
    bif go then
     match panT o s.ev with
     | some t => bif Nat.blt t s.size then k (.exit (panId + t)) s else fl
     | none =>
     match xT π o s.ev with
     | some (sx, args) => interpR fl s.hp (fun r ups nx _ => bif Nat.blt nx 1000000 then
       (match r with
        | .tup [.bool b, v] => bif b then opsP all k os ((s.upd ups nx).put o.dst v)
           else match o.dst with
            | some d => bif memN d Kp then fl else k (.exit (panId + d)) ((s.upd ups nx).put (some d) v)
            | none => fl
        | _ => fl) else fl) (callS sx args s.nx) []
     | none => interpR fl s.hp (fun r ups nx _ => bif Nat.blt nx 1000000 then opsP all k os ((s.upd ups nx).put o.dst r) else fl) (opM P κ o s.ev s.nx) []
    else opsP all k os (s.put o.dst (.tup []))) o.guard
  else fl
end
def AfterP (P : Program) (ω : Nat → Value) (ρ : Option Nat) (s s2 : St) (a : Act) (w : World) (Im : Nat → Prop) (θ : Th) (K : Act → World → Prop) : Prop :=
 ∀ a' w' Im' θ', Sim P ω ρ s2 a' w' Im' θ' → Ext (fun x => s.nx ≤ x) s.hp.get w Im θ s2.hp.get w' Im' θ' → a'.defers = a.defers → K a' w'
theorem AfterP.trans {ρ : Option Nat} {s s1 s2 : St} {a a1 : Act} {w w1 : World} {Im Im1 : Nat → Prop} {θ θ1 : Th} {K : Act → World → Prop} (hl : Later s s1)
  (hE : Ext (fun x => s.nx ≤ x) s.hp.get w Im θ s1.hp.get w1 Im1 θ1) (hN : a1.defers = a.defers) (h : AfterP P ω ρ s s2 a w Im θ K) : AfterP P ω ρ s1 s2 a1 w1 Im1 θ1 K :=
 fun a' w' Im' θ' sim hE' hN' => h a' w' Im' θ' sim (hE.trans (hE'.mono (fun _ hx => Nat.le_trans hl.nx hx))) (hN'.trans hN)
theorem Sim.upd_put {ρ : Option Nat} {s : St} {a : Act} {w w' : World} {Im Im' : Nat → Prop} {θ θ' : Th} (sim : Sim P ω ρ s a w Im θ) {dst : Option Nat} (hd : dstN s.size dst) {ups : List (Nat × Option Chunk)} {nx : Nat} {rs : List Nat} (hle : s.nx ≤ nx) (hnx : nx < 1000000)
  (hkeys : ∀ p ∈ ups, p.1 ∈ rs ∨ (s.nx ≤ p.1 ∧ p.1 < nx)) (hrd : ∀ x ∈ rs, ∃ c, s.hp.get x = some c) {r : SV} {v : Value} (hE : Ext (fun x => s.nx ≤ x ∧ x < nx) s.hp.get w Im θ (updF ups s.hp.get) w' Im' θ') (hv : VRel P ω w' Im' θ' r v) (hH : HRel P ω w' Im' θ' (updF ups s.hp.get)) :
  Sim P ω ρ ((s.upd ups nx).put dst r) (a.put dst v) w' Im' θ' ∧ Ext (fun x => s.nx ≤ x) s.hp.get w Im θ ((s.upd ups nx).put dst r).hp.get w' Im' θ' := by
 have hs := sim.ok
 have hk : ∀ p ∈ ups, p.1 < nx := by
  intro p hp
  rcases hkeys p hp with h3 | h3
  · obtain ⟨c, hc⟩ := hrd p.1 h3
    have := hs.dom _ c hc; omega
  · exact h3.2
 have hk2 : ∀ p ∈ ups, p.1 < 1000000 := fun p hp => by have := hk p hp; omega
 have ou := upd_ok hs hle hnx hk
 have hhp : (s.upd ups nx).hp.get = updF ups s.hp.get := upsTr_get _ _ hk2
 refine ⟨⟨put_ok ou hd r, ?_, ?_, ?_⟩, ?_⟩
 · rw [put_sz, put_hp, hhp, tmp_put (s := s.upd ups nx) hd ou.size]
   exact sim.sf.step hd hE hv hH
 · rw [put_nx, put_hp, hhp]
   exact sim.fr.step hle hkeys hrd hE
 · rw [put_rd]
   rcases sim.rd with g | ⟨y, b, N, g1, g2, g3⟩
   · exact .inl g
   · exact .inr ⟨y, b, N, g1, hE.thUp _ _ g2, g3⟩
 · rw [put_hp, hhp]; exact hE.mono (fun x hx => hx.1)
theorem upd_put_ok {s : St} (hs : StOk s) {dst : Option Nat} (hd : dstN s.size dst) {ups : List (Nat × Option Chunk)} {nx : Nat} {rs : List Nat} (hle : s.nx ≤ nx) (hnx : nx < 1000000)
  (hkeys : ∀ p ∈ ups, p.1 ∈ rs ∨ (s.nx ≤ p.1 ∧ p.1 < nx)) (hrd : ∀ x ∈ rs, ∃ c, s.hp.get x = some c) (r : SV) : StOk ((s.upd ups nx).put dst r) ∧ Later s ((s.upd ups nx).put dst r) ∧ ((s.upd ups nx).put dst r).size = s.size ∧ ((s.upd ups nx).put dst r).rd = s.rd := by
 have hk : ∀ p ∈ ups, p.1 < nx := by
  intro p hp
  rcases hkeys p hp with h3 | h3
  · obtain ⟨c, hc⟩ := hrd p.1 h3
    have := hs.dom _ c hc; omega
  · exact h3.2
 have hk2 : ∀ p ∈ ups, p.1 < 1000000 := fun p hp => by have := hk p hp; omega
 have ou := upd_ok hs hle hnx hk
 exact ⟨put_ok ou hd r, (upd_later hle hk2).trans (put_later _ _ _), by rw [put_sz]; rfl, by rw [put_rd]; rfl⟩
theorem callT_some {o : Oper} {ev : Operand → SV} {g : Nat} {args : List SV} (h : callT o ev = some (g, args)) : ∃ c f first caps, o.op = .call c ∧ c.callee = .value f ∧ ev f = .fn (.func g) first caps ∧ args = first ++ (c.args.toList.map ev ++ caps) := by
 unfold callT at h
 split at h
 case h_2 => cases h
 rename_i c hc
 split at h
 case h_2 => cases h
 rename_i f hf
 split at h
 case h_2 => cases h
 rename_i g' first caps he
 simp only [Option.some.injEq, Prod.mk.injEq] at h
 obtain ⟨rfl, rfl⟩ := h
 exact ⟨c, f, first, caps, hc, hf, he, rfl⟩
theorem args_relT {n : Nat} {T : Nat → SV} {h : HpF} {a : Act} {w : World} {Im : Nat → Prop} {θ : Th} (hS : SimF P ω n T h a w Im θ) (l : Array Operand) : LRel P ω w Im θ (l.toList.map (evT T)) (l.map a.eval).toList := by
 refine ⟨by simp, fun i v u hv hu => ?_⟩
 simp only [List.getElem?_map, Array.getElem?_toList, Option.map_eq_some_iff] at hv
 obtain ⟨c, hc, rfl⟩ := hv
 simp only [Array.toList_map, List.getElem?_map, Array.getElem?_toList, hc, Option.map_some, Option.some.injEq] at hu
 subst hu
 exact hS.eval c
theorem call_enter {o : Oper} {n : Nat} {T : Nat → SV} {hp : HpF} {g : Nat} {args : List SV} (h : callT o (evT T) = some (g, args)) (hfn : ∃ fn, P.funcs[g]? = some fn ∧ (fn.name == "runtime.NumGoroutine") = false ∧ fn.body.isNone = false)
  {a : Act} {w : World} {Im : Nat → Prop} {θ : Th} (hS : SimF P ω n T hp a w Im θ) : ∃ us : List Value, LRel P ω w Im θ args us ∧ ∀ (ρ : Option Nat) (K : Act → World → Prop) (Q : Exit → Act → World → Prop),
   (CallsIn (FR ρ) (0 - 1) P g us.toArray w fun
    | .returned v, w'' => K (a.put o.dst v) w''
    | .panicked chain, w'' => Q (.panic chain) a w''
    | .outgrown, _ => LetsOut Q) → o.wpIn (FR ρ) 0 P a w K Q := by
 obtain ⟨c, fo, first, caps, hop, hcal, hev, rfl⟩ := callT_some h
 obtain ⟨fn, hfn, hn1, hn2⟩ := hfn
 obtain ⟨dst, op, type, pos, after, guard⟩ := o
 simp only at hop
 subst hop
 obtain ⟨callee, cargs, argTypes⟩ := c
 simp only at hcal
 subst hcal
 have hf := hS.eval fo
 rw [hev] at hf
 generalize hu : a.eval fo = u at hf
 cases hf with
 | fn h1 h2 h3 h4 =>
  rename_i us vs
  have hl : LRel P ω w Im θ (first ++ (cargs.toList.map (evT T) ++ caps)) (us.toList ++ ((cargs.map a.eval).toList ++ vs.toList)) :=
   LRel.append ⟨by simpa using h1, fun i v u hv hu => h3 i v u hv (by simpa using hu)⟩ (LRel.append (args_relT hS cargs) ⟨by simpa using h2, fun i v u hv hu => h4 i v u hv (by simpa using hu)⟩)
  refine ⟨_, hl, fun ρ K Q hw => ?_⟩
  have hrun : (execOp a.eval { dst := dst, op := .call { callee := .value fo, args := cargs, argTypes := argTypes }, type := type, pos := pos, after := after, guard := guard }).run P w = .ok (.enter g (us.toList ++ ((cargs.map a.eval).toList ++ vs.toList)).toArray) w := by
   have e : (us.toList ++ ((cargs.map a.eval).toList ++ vs.toList)).toArray = us ++ cargs.map a.eval ++ vs := by
    apply Array.ext'
    simp
   rw [e]
   have hn1' : ¬ fn.name = "runtime.NumGoroutine" := by simpa using hn1
   have hn2' : ¬ fn.body = none := by intro hh; simp [hh] at hn2
   simp [execOp, resolve, hu, Deferred.ofValue, invoke, callFunc, hfn, hn1', hn2']
  refine ⟨fun f _ => FR_fn ρ f, ?_⟩
  rw [Oper.semAt_eq _ _ _ (fun c hc => by cases hc), hrun, Oper.uponIn_enter]
  exact ⟨FR_depth1 ρ, hw⟩
theorem callX_run {sx : CSumm} {g : Nat} (hx : ValidX P g sx) {h : HpF} {args : List SV} {nx nx' : Nat} {b : Bool} {v : SV} {ups : List (Nat × Option Chunk)} {rs : List Nat} (hm : mrun h (callS sx args nx) = some (.tup [.bool b, v], ups, nx', rs))
  {w : World} {Im : Nat → Prop} {θ : Th} (hr : HRel P ω w Im θ h) {us : List Value} (hl : LRel P ω w Im θ args us) (hfr : ∀ x, nx ≤ x → x < nx' → θ x = none ∧ h x = none) {ρ : Option Nat} {n : Nat} {R : Ending → World → Prop}
  (hR : ∀ u w' Im' θ', Ext (fun x => nx ≤ x ∧ x < nx') h w Im θ (updF ups h) w' Im' θ' → VRel P ω w' Im' θ' v u → HRel P ω w' Im' θ' (updF ups h) → R (endX b u) w') : CallsIn (FR ρ) n P g us.toArray w R := by
 obtain ⟨args', H, v0, u0, back, q1, q2, q3, q4, hsem⟩ := enter_gen (P := P) hm
 have hv0 : ∃ v1, v0 = .tup [.bool b, v1] ∧ v = renS back v1 := by
  cases v0 <;> simp only [renS] at q4 <;> try (cases q4; done)
  rename_i vs
  match vs, q4 with
  | [x, y], q4 =>
   simp only [renL, SV.tup.injEq, List.cons.injEq, and_true] at q4
   obtain ⟨h3, h4⟩ := q4
   cases x <;> simp only [renS] at h3 <;> try (cases h3; done)
   cases h3
   exact ⟨y, rfl, h4⟩
  | [], q4 => simp [renL] at q4
  | [_], q4 => simp [renL] at q4
  | _ :: _ :: _ :: _, q4 => simp [renL] at q4
 obtain ⟨v1, rfl, rfl⟩ := hv0
 obtain ⟨θL, l1, l2, l3, -, l5⟩ := hsem hr hl hfr
 refine callsIn_FR ((hx args' H b v1 u0 q1 q2 ω θL Im w us l1 l2 l3).mono ?_)
 rintro e w' ⟨u, θL', Im', rfl, e1, e2, e3⟩
 have hz : VRel P ω w' Im' θL' (.tup [.bool b, v1]) (.tuple #[.bool b, u]) := by
  refine .tup (by simp) (fun i v u hv hu => ?_)
  match i with
  | 0 => simp at hv hu; subst hv; subst hu; exact .bool
  | 1 => simp at hv hu; subst hv; subst hu; exact e2
  | i + 2 => simp at hv
 obtain ⟨θ', f1, f2, f3, -, -⟩ := l5 _ w' θL' Im' e1 hz e3
 refine hR u w' Im' θ' f1 ?_ f3
 cases f2 with
 | tup p1 p2 => exact p2 1 _ _ rfl rfl
theorem xT_some {π : Nat → Option CSumm} {o : Oper} {ev : Operand → SV} {sx : CSumm} {args : List SV} (hx : xT π o ev = some (sx, args)) : ∃ g, callT o ev = some (g, args) ∧ π g = some sx := by
 unfold xT at hx
 split at hx
 case h_2 => cases hx
 rename_i g args' hc
 split at hx
 case h_2 => cases hx
 rename_i sx' hg
 simp only [Option.some.injEq, Prod.mk.injEq] at hx
 obtain ⟨rfl, rfl⟩ := hx
 exact ⟨g, hc, hg⟩
section
variable {R D : Type} {fl : R} {den : R → Option D} (hfl : den fl = none) {κ π : Nat → Option CSumm} (hκ : KOk P κ) (hπ : XOk P π)
include hfl hκ hπ
theorem opsP_run {all : List Oper} {k : Ex → St → R} {d : D} : ∀ (os : List Oper) (i : Nat) (s : St), all.drop i = os → StOk s → den (opsP fl P κ π Kp all k os s) = some d →
  ∃ e s', StOk s' ∧ Later s s' ∧ s'.size = s.size ∧ s'.rd = s.rd ∧ den (k e s') = some d ∧
   ∀ (ω : Nat → Value) (ρ : Option Nat) (Q : Exit → Act → World → Prop) (a : Act) (w : World) (Im : Nat → Prop) (θ : Th), Sim P ω ρ s a w Im θ → AfterP P ω ρ s s' a w Im θ (PQ Kp Q (exitOf e)) → wpOpsIn (FR ρ) 0 P all.toArray Q (List.range' i os.length) a w
 | [], i, s, _, hs, h => ⟨.normal, s, hs, Later.refl s, rfl, rfl, h, fun ω ρ Q a w Im θ sim hA => hA a w Im θ sim (Ext.refl _) rfl⟩
 | o :: os, i, s, hall, hs, h => by
  have ho : all[i]? = some o := by
   have := congrArg (·[0]?) hall
   simpa using this
  have htl : all.drop (i + 1) = os := by
   have := congrArg List.tail hall
   simpa using this
  simp only [opsP] at h
  cases hd : dstOk s o.dst with
  | false => rw [hd] at h; exact (fl_no hfl h).elim
  | true =>
   rw [hd] at h
   simp only [cond_true] at h
   have hdN := dstOk_N hd
   obtain ⟨s1, go, hal, hw, h1⟩ := guard_run hfl hs.size h
   have hs1 := hal.ok hs
   have hd1 : dstN s1.size o.dst := by rw [hal.size]; exact hdN
   have back : ∀ {ω : Nat → Value} {ρ : Option Nat} {s' : St} {a : Act} {w : World} {Im : Nat → Prop} {θ : Th} {K : Act → World → Prop}, AfterP P ω ρ s s' a w Im θ K → AfterP P ω ρ s1 s' a w Im θ K := by
    intro ω ρ s' a w Im θ K hA a' w' Im' θ' sim hE hN
    refine hA a' w' Im' θ' sim ?_ hN
    rw [← hal.hp, ← hal.nx]; exact hE
   cases go with
   | false =>
    simp only [cond_false] at h1
    obtain ⟨e, s', hs', hl, hz, hr, h2, hwp⟩ := opsP_run os (i + 1) _ htl (put_ok hs1 hd1 (.tup [])) h1
    refine ⟨e, s', hs', (hal.later.trans (put_later _ _ _)).trans hl, by rw [hz, put_sz, hal.size], by rw [hr, put_rd, hal.rd], h2, fun ω ρ Q a w Im θ sim hA => ?_⟩
    simp only [List.length_cons, List.range'_succ, wpOpsIn, List.getElem?_toArray, ho]
    rw [wanted_eq sim.sf hw]
    simp only [Bool.false_eq_true, if_false]
    refine ⟨fun f _ => FR_fn ρ f, hwp ω ρ Q _ w Im θ (put_sim (hal.sim sim) hd1 (.tup rfl (fun i v u hv _ => by simp at hv))) ?_⟩
    intro a' w' Im' θ' sim' hE hN
    refine back hA a' w' Im' θ' sim' ?_ (by rw [hN, put_defers])
    rw [put_hp, put_nx] at hE; exact hE
   | true =>
    simp only [cond_true] at h1
    cases hp : panT o s1.ev with
    | some t =>
     rw [hp] at h1
     simp only [] at h1
     cases hlt : Nat.blt t s1.size with
     | false => rw [hlt] at h1; exact (fl_no hfl h1).elim
     | true =>
      rw [hlt] at h1
      simp only [cond_true] at h1
      have htl : t < s1.size := by rwa [Nat.blt_eq] at hlt
      refine ⟨.exit (panId + t), s1, hs1, hal.later, hal.size, hal.rd, h1, fun ω ρ Q a w Im θ sim hA => ?_⟩
      simp only [List.length_cons, List.range'_succ, wpOpsIn, List.getElem?_toArray, ho]
      rw [wanted_eq sim.sf hw]
      simp only [if_true]
      have sim1 := hal.sim sim
      have hq := PQ_pan (back hA a w Im θ sim1 (Ext.refl _) rfl) (a' := a) rfl rfl (fun _ _ => rfl)
      have hv := sim1.sf.tm t htl
      obtain ⟨dst, op, type, pos, after, guard⟩ := o
      unfold panT at hp
      simp only at hp
      split at hp
      case h_2 => cases hp
      rename_i t'
      split at hp
      case h_2 => cases hp
      rename_i ty v0 hev
      simp only [Option.some.injEq] at hp
      subst hp
      have hev' : s1.tmp t' = .iface ty v0 := hev
      rw [hev'] at hv
      generalize hu : a.tmps.getD t' undef = u at hv hq
      cases hv
      rename_i u' _
      refine ⟨fun f _ => FR_fn ρ f, ?_⟩
      have hrun : (execOp a.eval { dst := dst, op := .panic (.tmp t'), type := type, pos := pos, after := after, guard := guard }).run P w = .halt (.panic (.iface ty u')) w := by
       have e : a.eval (.tmp t') = .iface ty u' := hu
       simp [execOp, e, Instr.panic, goPanic, Sem.halt, Sem.run]
       try rfl
      rw [Oper.semAt_eq _ _ _ (fun c hc => by cases hc), hrun, Oper.uponIn_panic]
      exact hq
    | none =>
    rw [hp] at h1
    simp only [] at h1
    cases hx : xT π o s1.ev with
    | none =>
     rw [hx] at h1
     simp only [] at h1
     obtain ⟨r, ups, nx, rs', hm, h2⟩ := interp_run hfl _ _ h1
     cases hb : Nat.blt nx 1000000 with
     | false => rw [hb] at h2; exact (fl_no hfl h2).elim
     | true =>
      rw [hb] at h2
      simp only [cond_true] at h2
      have hnx : nx < 1000000 := by rw [Nat.blt_eq] at hb; exact hb
      rw [evT_ev] at hm
      obtain ⟨hle, hkeys⟩ := opM_wf hm
      obtain ⟨ok2, lat2, sz2, rd2⟩ := upd_put_ok hs1 hd1 hle hnx hkeys (mrun_reads _ _ hm) r
      obtain ⟨e, s', hs', hl, hz, hr, h3, hwp⟩ := opsP_run os (i + 1) _ htl ok2 h2
      refine ⟨e, s', hs', (hal.later.trans lat2).trans hl, by rw [hz, sz2, hal.size], by rw [hr, rd2, hal.rd], h3, fun ω ρ Q a w Im θ sim hA => ?_⟩
      simp only [List.length_cons, List.range'_succ, wpOpsIn, List.getElem?_toArray, ho]
      rw [wanted_eq sim.sf hw]
      simp only [if_true]
      have sim1 := hal.sim sim
      refine op_good hκ sim1.sf.hp (fun x _ => sim1.sf.eval x) (fun x h1 _ => sim1.fr x h1) hm ρ _ Q (fun v w' Im' θ' hE hv hH => ?_)
      obtain ⟨sim2, hE2⟩ := sim1.upd_put hd1 hle hnx hkeys (mrun_reads _ _ hm) hE hv hH
      exact hwp ω ρ Q _ w' Im' θ' sim2 (AfterP.trans lat2 hE2 (put_defers _ _ _) (back hA))
    | some p =>
     obtain ⟨sx, args⟩ := p
     rw [hx] at h1
     simp only [] at h1
     obtain ⟨g, hcall, hg⟩ := xT_some hx
     rw [evT_ev] at hcall
     obtain ⟨r, ups, nx, rs', hm, h2⟩ := interp_run hfl _ _ h1
     cases hb : Nat.blt nx 1000000 with
     | false => rw [hb] at h2; exact (fl_no hfl h2).elim
     | true =>
      rw [hb] at h2
      simp only [cond_true] at h2
      have hnx : nx < 1000000 := by rw [Nat.blt_eq] at hb; exact hb
      obtain ⟨hle, hkeys⟩ := callS_wf hm
      split at h2
      case h_2 => exact (fl_no hfl h2).elim
      rename_i b v
      cases b with
      | true =>
       simp only [cond_true] at h2
       obtain ⟨ok2, lat2, sz2, rd2⟩ := upd_put_ok hs1 hd1 hle hnx hkeys (mrun_reads _ _ hm) v
       obtain ⟨e, s', hs', hl, hz, hr, h3, hwp⟩ := opsP_run os (i + 1) _ htl ok2 h2
       refine ⟨e, s', hs', (hal.later.trans lat2).trans hl, by rw [hz, sz2, hal.size], by rw [hr, rd2, hal.rd], h3, fun ω ρ Q a w Im θ sim hA => ?_⟩
       simp only [List.length_cons, List.range'_succ, wpOpsIn, List.getElem?_toArray, ho]
       rw [wanted_eq sim.sf hw]
       simp only [if_true]
       have sim1 := hal.sim sim
       obtain ⟨us, hus, hgo⟩ := call_enter (P := P) hcall (hπ.fn g sx hg) sim1.sf
       refine hgo ρ _ Q (callX_run (hπ.ok g sx hg) hm sim1.sf.hp hus (fun x h1 _ => sim1.fr x h1) (fun u w' Im' θ' hE hv hH => ?_))
       obtain ⟨sim2, hE2⟩ := sim1.upd_put hd1 hle hnx hkeys (mrun_reads _ _ hm) hE hv hH
       exact hwp ω ρ Q _ w' Im' θ' sim2 (AfterP.trans lat2 hE2 (put_defers _ _ _) (back hA))
      | false =>
       simp only [cond_false] at h2
       cases hdst : o.dst with
       | none => rw [hdst] at h2; exact (fl_no hfl h2).elim
       | some dd =>
        rw [hdst] at h2 hd1
        simp only [] at h2
        cases hmk : memN dd Kp with
        | true => rw [hmk] at h2; exact (fl_no hfl h2).elim
        | false =>
        rw [hmk] at h2
        simp only [cond_false] at h2
        obtain ⟨ok2, lat2, sz2, rd2⟩ := upd_put_ok hs1 hd1 hle hnx hkeys (mrun_reads _ _ hm) v
        refine ⟨.exit (panId + dd), _, ok2, hal.later.trans lat2, by rw [sz2, hal.size], by rw [rd2, hal.rd], h2, fun ω ρ Q a w Im θ sim hA => ?_⟩
        simp only [List.length_cons, List.range'_succ, wpOpsIn, List.getElem?_toArray, ho]
        rw [wanted_eq sim.sf hw]
        simp only [if_true]
        have sim1 := hal.sim sim
        obtain ⟨us, hus, hgo⟩ := call_enter (P := P) hcall (hπ.fn g sx hg) sim1.sf
        refine hgo ρ _ Q (callX_run (hπ.ok g sx hg) hm sim1.sf.hp hus (fun x h1 _ => sim1.fr x h1) (fun u w' Im' θ' hE hv hH => ?_))
        obtain ⟨sim2, hE2⟩ := sim1.upd_put hd1 hle hnx hkeys (mrun_reads _ _ hm) hE hv hH
        have := PQ_pan (back hA _ w' Im' θ' sim2 hE2 (put_defers _ _ _)) (a' := a) (put_defers _ _ _).symm (put_size _ _ _).symm (fun t ht => by
         have : ¬ dd = t := fun e => by subst e; rw [(memN_iff _ _).2 ht] at hmk; cases hmk
         simp [Act.put, Array.getD_eq_getD_getElem?, Array.getElem?_setIfInBounds, this])
        have hlt : dd < a.tmps.size := by rw [sim1.sf.size]; exact hd1
        have e : (a.put (some dd) u).tmps.getD dd undef = u := by simp [Act.put, Array.getD, hlt]
        rw [e] at this
        exact this
end
end Go.Am
/- The abstract machine: calls that may raise, in a region that draws its order. -/
namespace Go.Am
variable {P : Program} {ω : Nat → Value}
theorem any_sound2 {κ : Nat → Option CSumm} {all : List Oper} {n : Nat} {T0 T' : Nat → SV} {h0 h' : HpF} {nxs nx0 nx' : Nat} {recs : List Rec} {hs : HpF} {ws : World} {Ims : Nat → Prop} {θs : Th} {ro : Option Nat} {ds : List Deferred} {Q : Exit → Act → World → Prop}
  {J : Nat} (hJ : J < all.length) (ht : Txt P κ all n all T0 h0 nx0 recs T' h' nx') (hdom0 : ∀ x c, h0 x = some c → x < nx0) (hnx : nxs ≤ nx0) {bs : List Nat} (st : Static all bs) (hf : footsOk bs (feet 0 recs []) = true)
  (hgood : ∀ (i : Nat) (o : Oper) (ρ : Rec) (D : Nat → Bool) (a : Act) (w : World) (Im : Nat → Prop) (θ : Th), i ≠ J → (all.zip recs)[i]? = some (o, ρ) → ρ.ex = true → a.defers = ds →
   SimF P ω n (TD (all.zip recs) D 0 T0) (HD (all.zip recs) D 0 h0) a w Im θ → Ext (fun x => nxs ≤ x) hs ws Ims θs (HD (all.zip recs) D 0 h0) w Im θ →
   (∀ t ∈ looks all o, TD (all.zip recs) D 0 T0 t = TD (all.zip recs) (upTo i) 0 T0 t) →
   mrun (HD (all.zip recs) D 0 h0) (opM P κ o (evT (TD (all.zip recs) D 0 T0)) ρ.nx0) = some (ρ.r, ρ.ups, ρ.nx1, ρ.rs) →
   (∀ x, (θ x ≠ none ∨ HD (all.zip recs) D 0 h0 x ≠ none) → x < nx0 ∨ ∃ (j : Nat) (o : Oper) (ρ : Rec), D j = true ∧ (all.zip recs)[j]? = some (o, ρ) ∧ ρ.nx0 ≤ x ∧ x < ρ.nx1) →
   (∀ x, ρ.nx0 ≤ x → x < ρ.nx1 → θ x = none ∧ HD (all.zip recs) D 0 h0 x = none) → ∀ (K : Act → World → Prop),
   (∀ v w' Im' θ', Ext (fun x => ρ.nx0 ≤ x ∧ x < ρ.nx1) (HD (all.zip recs) D 0 h0) w Im θ (updF ρ.ups (HD (all.zip recs) D 0 h0)) w' Im' θ' → VRel P ω w' Im' θ' ρ.r v → HRel P ω w' Im' θ' (updF ρ.ups (HD (all.zip recs) D 0 h0)) → K (a.put o.dst v) w') → o.wpIn (FR ro) 0 P a w K Q)
  (hgoodJ : ∀ (o : Oper) (ρ : Rec) (D : Nat → Bool) (a : Act) (w : World) (Im : Nat → Prop) (θ : Th), (all.zip recs)[J]? = some (o, ρ) → a.defers = ds → D J = false → (∀ i, D i = true → ∀ k, (bs.getD i 0).testBit k = true → D k = true) →
   SimF P ω n (TD (all.zip recs) D 0 T0) (HD (all.zip recs) D 0 h0) a w Im θ → Ext (fun x => nxs ≤ x) hs ws Ims θs (HD (all.zip recs) D 0 h0) w Im θ →
   (∀ t ∈ looks all o, TD (all.zip recs) D 0 T0 t = TD (all.zip recs) (upTo J) 0 T0 t) →
   (∀ x, (θ x ≠ none ∨ HD (all.zip recs) D 0 h0 x ≠ none) → x < nx0 ∨ ∃ (j : Nat) (o : Oper) (ρ : Rec), D j = true ∧ (all.zip recs)[j]? = some (o, ρ) ∧ ρ.nx0 ≤ x ∧ x < ρ.nx1) →
   ∀ (K : Act → World → Prop), o.wpIn (FR ro) 0 P a w K Q)
  (hexJ : ∀ (o : Oper) (ρ : Rec), (all.zip recs)[J]? = some (o, ρ) → ρ.ex = true) :
  ∀ (fuel : Nat) (D : Nat → Bool) (listed : Array Bool) (a : Act) (w : World) (Im : Nat → Prop) (θ : Th), cnt D all.length ≤ fuel → listed.size = all.length → (∀ i, i < all.length → listed[i]? = some (D i)) → (∀ i, all.length ≤ i → D i = false) →
   (∀ i, D i = true → ∀ k, (bs.getD i 0).testBit k = true → D k = true) → a.defers = ds → D J = false → SimF P ω n (TD (all.zip recs) D 0 T0) (HD (all.zip recs) D 0 h0) a w Im θ →
   (∀ x, (θ x ≠ none ∨ HD (all.zip recs) D 0 h0 x ≠ none) → x < nx0 ∨ ∃ (j : Nat) (o : Oper) (ρ : Rec), D j = true ∧ (all.zip recs)[j]? = some (o, ρ) ∧ ρ.nx0 ≤ x ∧ x < ρ.nx1) →
   Ext (fun x => nxs ≤ x) hs ws Ims θs (HD (all.zip recs) D 0 h0) w Im θ → wpAnyIn (FR ro) 0 P .any all.toArray Q fuel listed a w := by
 obtain ⟨hlen, hnn, rfl, rfl, hfact, hord⟩ := txt_facts ht hdom0
 obtain ⟨-, -, hfeet⟩ := feet_spec recs 0 [] hf
 have hzip : ∀ i, i < all.length → ∃ o ρ, (all.zip recs)[i]? = some (o, ρ) ∧ all[i]? = some o ∧ recs[i]? = some ρ := by
  intro i hi
  refine ⟨all[i], recs[i], ?_, by simp [hi], by simp [hlen, hi]⟩
  simp [hi, hlen]
 have hzipr : ∀ (i : Nat) (o : Oper) (ρ : Rec), (all.zip recs)[i]? = some (o, ρ) → all[i]? = some o ∧ recs[i]? = some ρ ∧ i < all.length := by
  intro i o ρ h
  rw [List.getElem?_zip_eq_some] at h
  exact ⟨h.1, h.2, (List.getElem?_eq_some_iff.1 h.1).1⟩
 -- the end
 have hend : ∀ (D : Nat → Bool) (a : Act) (w : World), (∀ i, i < all.length → D i = true) → D J = false → Q .normal a w := by
  intro D a w hall hD
  rw [hall J hJ] at hD
  cases hD
 -- where nothing is ready all is done
 have hdone : ∀ (D : Nat → Bool) (listed : Array Bool), listed.size = all.length → (∀ i, i < all.length → listed[i]? = some (D i)) → Region.ready .any all.toArray listed = [] → ∀ i, i < all.length → D i = true := by
  intro D listed hsz hl hr i
  induction i using Nat.strongRecOn with
  | _ i ih =>
   intro hi
   cases hd : D i with
   | true => rfl
   | false =>
    have : i ∈ Region.ready .any all.toArray listed := by
     rw [ready_iff]
     obtain ⟨o, ρ, -, ho, -⟩ := hzip i hi
     refine ⟨by simpa using hi, by simp [Array.getD_eq_getD_getElem?, hl i hi, hd], o, by simpa using ho, fun e he hb => ?_⟩
     have hlt := st.back i o ho e (by simpa using he) hb
     simp [Array.getD_eq_getD_getElem?, hl e.on (by omega), ih e.on hlt (by omega)]
    rw [hr] at this
    cases this
 intro fuel
 induction fuel with
 | zero =>
  intro D listed a w Im θ hc hsz hl hout hcl hdf hJD hS hfr hE
  have hall := cnt_zero (Nat.le_zero.1 hc)
  refine ⟨?_, hend D a w hall hJD⟩
  cases hr : Region.ready .any all.toArray listed with
  | nil => rfl
  | cons i l =>
   have hm : i ∈ Region.ready .any all.toArray listed := by rw [hr]; simp
   rw [ready_iff] at hm
   obtain ⟨h1, h2, -⟩ := hm
   have h1' : i < all.length := by simpa using h1
   simp [Array.getD_eq_getD_getElem?, hl i h1', hall i h1'] at h2
 | succ fuel ih =>
  intro D listed a w Im θ hc hsz hl hout hcl hdf hJD hS hfr hE
  refine ⟨fun hr => hend D a w (hdone D listed hsz hl hr) hJD, fun i hi => ?_⟩
  rw [ready_iff] at hi
  obtain ⟨hi1, hi2, o, ho, hedges⟩ := hi
  have hin : i < all.length := by simpa using hi1
  have hDi : D i = false := by simpa [Array.getD_eq_getD_getElem?, hl i hin] using hi2
  obtain ⟨o', ρ, hz, ho', hρ⟩ := hzip i hin
  have : o' = o := by
   have h1 : all.toArray[i]? = some o' := by simpa using ho'
   rw [h1] at ho; exact Option.some.inj ho
  subst this
  have f := hfact i o' ρ hz
  -- what stands ahead is done
  have hpre : ∀ k, (bs.getD i 0).testBit k = true → D k = true := by
   intro k hk
   obtain ⟨e, he, hb, h1⟩ := st.bit i o' ho' k hk
   have hlt := st.back i o' ho' e he hb
   have hon := hedges e (by simpa using he) hb
   have hDe : D e.on = true := by simpa [Array.getD_eq_getD_getElem?, hl e.on (by omega)] using hon
   rcases h1 with rfl | h1
   · exact hDe
   · exact hcl e.on hDe k h1
  have hpost : ∀ j, D j = true → (bs.getD j 0).testBit i = true → False := by
   intro j hj hb
   rw [hcl j hj i hb] at hDi; cases hDi
  -- where a place is met by this one, the others agree with the order of the text
  have agree : ∀ (j : Nat) (o2 : Oper) (ρ2 : Rec), (all.zip recs)[j]? = some (o2, ρ2) → j ≠ i → (j < i → (bs.getD i 0).testBit j = true ∨ D j = upTo i j) → (i < j → (bs.getD j 0).testBit i = true ∨ D j = upTo i j) → D j = upTo i j := by
   intro j o2 ρ2 hj hne h1 h2
   rcases Nat.lt_or_gt_of_ne hne with hlt | hgt
   · rcases h1 hlt with h | h
     · rw [hpre j h, upTo_iff.2 hlt]
     · exact h
   · rcases h2 hgt with h | h
     · have : D j = false := by
         cases hd : D j with
         | false => rfl
         | true => exact (hpost j hd h).elim
       rw [this, upTo_false.2 (by omega)]
     · exact h
  have aT : ∀ t ∈ looks all o', TD (all.zip recs) D 0 T0 t = TD (all.zip recs) (upTo i) 0 T0 t := by
   intro t htl
   refine TD_congr _ _ _ 0 _ _ t rfl (fun j o2 ρ2 hj hd => ?_)
   simp only [Nat.zero_add]
   obtain ⟨g1, g2, g3⟩ := hzipr j o2 ρ2 hj
   by_cases hji : j = i
   · subst hji; rw [hDi, upTo_false.2 (by omega)]
   · refine agree j o2 ρ2 hj hji (fun hlt => ?_) (fun hgt => ?_)
     · rcases st.pair j i o2 o' hlt g1 ho' with h | h
       · exact .inl h
       · exact absurd htl ((apartT_spec h).1 t hd).1
     · rcases st.pair i j o' o2 hgt ho' g1 with h | h
       · exact .inl h
       · exact absurd htl ((apartT_spec h).2 t hd)
  have aH : ρ.ex = true → ∀ x, (x ∈ ρ.rs ∨ x ∈ ρ.ups.map (·.1)) → HD (all.zip recs) D 0 h0 x = HD (all.zip recs) (upTo i) 0 h0 x := by
   intro hex x hx
   refine HD_congr _ _ _ 0 _ _ x rfl (fun j o2 ρ2 hj hk => ?_)
   simp only [Nat.zero_add]
   obtain ⟨g1, g2, g3⟩ := hzipr j o2 ρ2 hj
   have hex2 : ρ2.ex = true := by
    cases he : ρ2.ex with
    | true => rfl
    | false => rw [((hfact j o2 ρ2 hj).idle he).2.1] at hk; cases hk
   by_cases hji : j = i
   · subst hji; rw [hDi, upTo_false.2 (by omega)]
   · refine agree j o2 ρ2 hj hji (fun hlt => ?_) (fun hgt => ?_)
     · have := hfeet j i ρ2 ρ hlt g2 hρ hex2 hex
       simp only [Nat.zero_add] at this
       rcases this with h | h
       · exact .inl h
       · obtain ⟨w1, w2, w3⟩ := apartF_spec h
         rcases hx with hx | hx
         · exact absurd hk (w3 x hx)
         · exact absurd hk (w1 x hx)
     · have := hfeet i j ρ ρ2 hgt hρ g2 hex hex2
       simp only [Nat.zero_add] at this
       rcases this with h | h
       · exact .inl h
       · obtain ⟨w1, w2, w3⟩ := apartF_spec h
         rcases hx with hx | hx
         · exact absurd hx (w2 x hk)
         · exact absurd hx (w1 x hk)
  have hcl' : ∀ j, (D j || j == i) = true → ∀ k, (bs.getD j 0).testBit k = true → (D k || k == i) = true := by
   intro j hj k hk
   simp only [Bool.or_eq_true, beq_iff_eq] at hj ⊢
   rcases hj with hj | rfl
   · exact .inl (hcl j hj k hk)
   · exact .inl (hpre k hk)
  have hcnt : cnt (fun j => D j || j == i) all.length ≤ fuel := by
   have := cnt_lt (D := D) (D' := fun j => D j || j == i) (n := all.length) (i := i) (fun j _ hj => by simp [hj]) hin hDi (by simp)
   omega
  have hl' : ∀ j, j < all.length → (listed.setIfInBounds i true)[j]? = some (D j || j == i) := by
   intro j hj
   rw [Array.getElem?_setIfInBounds]
   by_cases hij : i = j
   · subst hij; simp [hsz, hj]
   · have : (j == i) = false := by simpa using Ne.symm hij
     simp [hij, hl j hj, this]
  have hout' : ∀ j, all.length ≤ j → (D j || j == i) = false := by
   intro j hj
   simp [hout j hj]; omega
  have hTadd : TD (all.zip recs) (fun j => D j || j == i) 0 T0 = updT (TD (all.zip recs) D 0 T0) o'.dst ρ.r := by
   have := TD_add (all.zip recs) D 0 i T0 o' ρ hz (by simpa using hDi) (fun j o2 ρ2 hij hj hDj d hd => by
    simp only [Nat.zero_add] at hDj
    obtain ⟨g1, -, -⟩ := hzipr j o2 ρ2 hj
    rcases st.pair i j o' o2 hij ho' g1 with h | h
    · exact (hpost j hDj h).elim
    · exact ((apartT_spec h).1 d hd).2)
   simpa using this
  have hHadd : HD (all.zip recs) (fun j => D j || j == i) 0 h0 = updF ρ.ups (HD (all.zip recs) D 0 h0) := by
   have := HD_add (all.zip recs) D 0 i h0 o' ρ hz (by simpa using hDi) (fun j o2 ρ2 hij hj hDj x hx hx2 => by
    simp only [Nat.zero_add] at hDj
    obtain ⟨g1, g2, -⟩ := hzipr j o2 ρ2 hj
    have hex : ρ.ex = true := by
     cases he : ρ.ex with
     | true => rfl
     | false => rw [(f.idle he).2.1] at hx; cases hx
    have hex2 : ρ2.ex = true := by
     cases he : ρ2.ex with
     | true => rfl
     | false => rw [((hfact j o2 ρ2 hj).idle he).2.1] at hx2; cases hx2
    have := hfeet i j ρ ρ2 hij hρ g2 hex hex2
    simp only [Nat.zero_add] at this
    rcases this with h | h
    · exact hpost j hDj h
    · exact (apartF_spec h).1 x hx2 hx)
   simpa using this
  have hwT : wantedT all n (TD (all.zip recs) D 0 T0) o' = some ρ.ex := by
   rw [← f.want]
   unfold wantedT
   cases hg : o'.guard with
   | none => rfl
   | some p =>
    obtain ⟨g, b⟩ := p
    simp only []
    cases hag : all[g]? with
    | none => rfl
    | some og =>
     simp only []
     cases hod : og.dst with
     | none => rfl
     | some d =>
      simp only []
      rw [aT d (by simp [looks, hg, nth?_eq, hag, hod])]
  unfold wpOpIn
  simp only [List.getElem?_toArray, ho']
  rw [wanted_eq hS hwT]
  by_cases hiJ : i = J
  · subst hiJ
    rw [hexJ o' ρ hz]
    simp only [if_true]
    exact hgoodJ o' ρ D a w Im θ hz hdf hJD hcl hS hE aT hfr _
  have hJD' : (D J || J == i) = false := by
   have : (J == i) = false := by simpa using fun e => hiJ e.symm
   rw [hJD, this]; rfl
  cases hex : ρ.ex with
  | false =>
   simp only [Bool.false_eq_true, if_false]
   obtain ⟨e1, e2, -, -⟩ := f.idle hex
   rw [e1] at hTadd
   rw [e2] at hHadd
   simp only [updF] at hHadd
   refine ⟨fun f _ => FR_fn ro f, ih (fun j => D j || j == i) _ _ w Im θ hcnt (by simpa using hsz) hl' hout' hcl' (by rw [put_defers]; exact hdf) hJD' ?_ ?_ ?_⟩
   · rw [hTadd, hHadd]; exact hS.skip f.dst
   · rw [hHadd]
     intro x hx
     rcases hfr x hx with h1 | ⟨j, o2, ρ2, hj, h2⟩
     · exact .inl h1
     · exact .inr ⟨j, o2, ρ2, by simp [hj], h2⟩
   · rw [hHadd]; exact hE
  | true =>
   simp only [if_true]
   have hrun := f.run hex
   have hrun1 : mrun (HD (all.zip recs) D 0 h0) (opM P κ o' (evT (TD (all.zip recs) D 0 T0)) ρ.nx0) = some (ρ.r, ρ.ups, ρ.nx1, ρ.rs) := by
    have e : opM P κ o' (evT (TD (all.zip recs) D 0 T0)) ρ.nx0 = opM P κ o' (evT (TD (all.zip recs) (upTo i) 0 T0)) ρ.nx0 := by
     refine opM_congr (fun x hx => ?_) _
     cases x with
     | tmp t =>
      simp only [evT]
      exact aT t (by simp only [looks, List.mem_append]; exact .inr (tmpsOf_mem (by simpa using hx)))
     | _ => rfl
    rw [e]
    exact mrun_congr _ _ hrun (fun x hx => aH hex x (.inl hx))
   obtain ⟨hle, hkeys⟩ := opM_wf hrun
   have hfresh : ∀ x, ρ.nx0 ≤ x → x < ρ.nx1 → θ x = none ∧ HD (all.zip recs) D 0 h0 x = none := by
    intro x h1 h2
    have key : ¬ (θ x ≠ none ∨ HD (all.zip recs) D 0 h0 x ≠ none) := by
     intro hh
     rcases hfr x hh with h3 | ⟨j, o2, ρ2, hj, hj2, h3, h4⟩
     · have := f.lo; omega
     · rcases Nat.lt_trichotomy i j with h5 | h5 | h5
       · have := hord i j o' ρ o2 ρ2 h5 hz hj2; omega
       · subst h5; rw [hDi] at hj; cases hj
       · have := hord j i o2 ρ2 o' ρ h5 hj2 hz; omega
    constructor
    · cases hθ : θ x with
      | none => rfl
      | some p => exact (key (.inl (by simp [hθ]))).elim
    · cases hθ : HD (all.zip recs) D 0 h0 x with
      | none => rfl
      | some p => exact (key (.inr (by simp [hθ]))).elim
   refine hgood i o' ρ D a w Im θ hiJ hz hex hdf hS hE aT hrun1 hfr hfresh _ (fun v w' Im' θ' hE' hv hH => ?_)
   have hS' := hS.step f.dst hE' hv hH
   refine ih (fun j => D j || j == i) _ _ w' Im' θ' hcnt (by simpa using hsz) hl' hout' hcl' (by rw [put_defers]; exact hdf) hJD' ?_ ?_ ?_
   · rw [hTadd, hHadd]; exact hS'
   · rw [hHadd]
     intro x hx
     by_cases hnew : ρ.nx0 ≤ x ∧ x < ρ.nx1
     · exact .inr ⟨i, o', ρ, by simp, hz, hnew.1, hnew.2⟩
     · have hx' : θ x ≠ none ∨ HD (all.zip recs) D 0 h0 x ≠ none := by
         rcases hx with hx | hx
         · rw [hE'.thOld x hnew] at hx; exact .inl hx
         · right
           by_cases hxk : x ∈ ρ.ups.map (·.1)
           · obtain ⟨p, hp, rfl⟩ := List.mem_map.1 hxk
             rcases hkeys p hp with h1 | h1
             · obtain ⟨c, hc⟩ := mrun_reads _ _ hrun1 p.1 h1
               simp [hc]
             · exact absurd h1 hnew
           · rwa [updF_not hxk] at hx
       rcases hfr x hx' with h1 | ⟨j, o2, ρ2, hj, h2⟩
       · exact .inl h1
       · exact .inr ⟨j, o2, ρ2, by simp [hj], h2⟩
   · rw [hHadd]
     exact hE.trans (hE'.mono (fun x hx => by have := f.lo; omega))
section
variable (P : Program) (κ π : Nat → Option CSumm)
def fakeV (f : Nat) : SV := match P.funcs[f]? with
 | some fn => match fn.resultTypes.toList with
  | [] => .tup []
  | [t] => match zeroS P t with
   | some z => z
   | none => .junk
  | _ => .junk
 | none => .junk
def fakeK : Nat → Option CSumm := fun f => match π f with
 | some _ => some (fun _ _ => .ret (fakeV P f) [])
 | none => κ f
def retK : Nat → Option CSumm := fun f => match π f with
 | some s => some (retS s)
 | none => κ f
def noInv (o : Oper) : Bool := match o.op with
 | .call c => match c.callee with
  | .invoke _ _ => false
  | _ => true
 | _ => true
def noWr (bs : List Nat) (j : Nat) : List Foot → Bool
 | [] => true
 | f :: l => ((match f.writes with
  | [] => true
  | _ => false) || (bs.getD f.i 0).testBit j) && noWr bs j l
variable {R : Type} (fl : R)
def opsD1 (all : List Oper) (j : Nat) (s0 : St) (kE : R) : List Oper → Nat → St → List Foot → R
 | [], _, s, acc => bif footsOk (befAll all []) acc && noWr (befAll all []) j acc && Nat.beq s.nx s0.nx then kE else fl
 | o :: os, i, s, acc => bif dstOk s o.dst && noInv o then guardR fl all s (fun s go =>
   bif go then
    match xT π o s.ev with
    | some _ => fl
    | none => interpR fl s.hp (fun r ups nx rs => bif Nat.blt nx 1000000 then opsD1 all j s0 kE os (i + 1) ((s.upd ups nx).put o.dst r) (⟨i, rs, ups.map (·.1)⟩ :: acc) else fl) (opM P (fakeK P κ π) o s.ev s.nx) []
   else opsD1 all j s0 kE os (i + 1) (s.put o.dst (.tup [])) acc) o.guard
  else fl
def opsD0 (all : List Oper) (s0 : St) (k : Ex → St → R) (kRet : R) : List Oper → Nat → St → List Foot → R
 | [], _, _, _ => kRet
 | o :: os, i, s, acc => bif dstOk s o.dst && noInv o then guardR fl all s (fun s go =>
   bif go then
    match xT π o s.ev with
    | some (sx, args) => interpR fl s.hp (fun r ups nx _ => bif Nat.blt nx 1000000 then
      match r with
      | .tup [.bool b, v] => bif b then kRet
       else match o.dst with
        | some d => interpR fl s.hp (fun r' ups' nx' rs' => bif Nat.blt nx' 1000000 then
          opsD1 P κ π fl all i s0 (k (.exit (panId + d)) ((s0.upd ups nx).put (some d) v)) os (i + 1) ((s.upd ups' nx').put o.dst r') (⟨i, rs', ups'.map (·.1)⟩ :: acc) else fl) (opM P (fakeK P κ π) o s.ev s.nx) []
        | none => fl
      | _ => fl else fl) (callS sx args s.nx) []
    | none => interpR fl s.hp (fun r ups nx rs => bif Nat.blt nx 1000000 then opsD0 all s0 k kRet os (i + 1) ((s.upd ups nx).put o.dst r) (⟨i, rs, ups.map (·.1)⟩ :: acc) else fl) (opM P (fakeK P κ π) o s.ev s.nx) []
   else opsD0 all s0 k kRet os (i + 1) (s.put o.dst (.tup [])) acc) o.guard
  else fl
def regionD (ops : Array Oper) (k : Ex → St → R) (s : St) : R :=
 bif staticOk ops.toList (befAll ops.toList []) [] ops.toList 0 then
  opsD0 P κ π fl ops.toList s k
   (opsR fl P (retK κ π) ops.toList (fun s acc => bif footsOk (befAll ops.toList []) acc then k .normal s else fl) ops.toList 0 s []) ops.toList 0 s []
 else fl
end
end Go.Am
/- The abstract machine: calls that may raise: a region that draws its order tells the truth. -/
namespace Go.Am
variable {P : Program} {ω : Nat → Value}
theorem TD_up1 (o : Oper) (ρ : Rec) (l : OR) (m : Nat) (T : Nat → SV) : TD ((o, ρ) :: l) (upTo (m + 1)) 0 T = TD l (upTo m) 0 (updT T o.dst ρ.r) := by
 simp only [TD, upTo_iff.2 (Nat.succ_pos m), if_true]
 rw [TD_shift, upTo_succ]
theorem HD_up1 (o : Oper) (ρ : Rec) (l : OR) (m : Nat) (h : HpF) : HD ((o, ρ) :: l) (upTo (m + 1)) 0 h = HD l (upTo m) 0 (updF ρ.ups h) := by
 simp only [HD, upTo_iff.2 (Nat.succ_pos m), if_true]
 rw [HD_shift, upTo_succ]
theorem TD_up0 (l : OR) (T : Nat → SV) : TD l (upTo 0) 0 T = T := TD_none _ _ _ _ (fun j _ => upTo_false.2 (by omega))
theorem HD_up0 (l : OR) (h : HpF) : HD l (upTo 0) 0 h = h := HD_none _ _ _ _ (fun j _ => upTo_false.2 (by omega))
theorem HD_quiet : ∀ (l : OR) (D : Nat → Bool) (i : Nat) (h : HpF), (∀ (m : Nat) p, l[m]? = some p → D (i + m) = true → p.2.ups = []) → HD l D i h = h
 | [], _, _, _, _ => rfl
 | (o, ρ) :: l, D, i, h, hq => by
  simp only [HD]
  have : (if D i = true then updF ρ.ups h else h) = h := by
   split
   · rename_i hd
     rw [hq 0 (o, ρ) rfl (by simpa using hd)]; rfl
   · rfl
  rw [this]
  exact HD_quiet l D (i + 1) h (fun m p hp hd => hq (m + 1) p (by simpa using hp) (by rw [show i + (m + 1) = i + 1 + m by omega]; exact hd))
theorem callT_congr {o : Oper} {ev ev' : Operand → SV} (h : ∀ x ∈ o.op.operands, ev x = ev' x) : callT o ev = callT o ev' := by
 obtain ⟨dst, op, type, pos, after, guard⟩ := o
 cases op <;> try rfl
 rename_i c
 obtain ⟨callee, cargs, argTypes⟩ := c
 cases callee <;> try rfl
 rename_i f
 simp only [callT]
 have h1 : ev f = ev' f := h f (by simp [Op.operands, Call.operands])
 have h2 : cargs.toList.map ev = cargs.toList.map ev' := List.map_congr_left fun x hx => h x (by simp [Op.operands, Call.operands]; exact .inr (by simpa using hx))
 rw [h1, h2]
theorem xT_congr {π : Nat → Option CSumm} {o : Oper} {ev ev' : Operand → SV} (h : ∀ x ∈ o.op.operands, ev x = ev' x) : xT π o ev = xT π o ev' := by
 unfold xT; rw [callT_congr h]
theorem opM_fake {κ π : Nat → Option CSumm} {o : Oper} {ev : Operand → SV} {nx : Nat} (hi : noInv o = true) (hx : xT π o ev = none) : opM P (fakeK P κ π) o ev nx = opM P κ o ev nx := by
 have h0 : opM0 P (fakeK P κ π) o ev nx = opM0 P κ o ev nx := by
  obtain ⟨dst, op, type, pos, after, guard⟩ := o
  cases op <;> try rfl
  rename_i c
  obtain ⟨callee, cargs, argTypes⟩ := c
  cases callee with
  | invoke r m => simp [noInv] at hi
  | builtin b => rfl
  | value f =>
   simp only [opM0]
   split
   · rename_i g first caps he
     have : π g = none := by
      have hc : callT { dst := dst, op := .call { callee := .value f, args := cargs, argTypes := argTypes }, type := type, pos := pos, after := after, guard := guard } ev = some (g, first ++ (cargs.toList.map ev ++ caps)) := by
       simp only [callT, he]
      unfold xT at hx
      rw [hc] at hx
      simp only [] at hx
      cases hg : π g with
      | none => rfl
      | some s => rw [hg] at hx; cases hx
     unfold callM
     simp only [fakeK, this]
   · rfl
 unfold opM
 rw [h0]
theorem retK_ok {κ π : Nat → Option CSumm} (hκ : KOk P κ) (hπ : XOk P π) : KOk P (retK κ π) := by
 constructor
 · intro f s h
   unfold retK at h
   cases hp : π f with
   | none => rw [hp] at h; exact hκ.fn f s h
   | some sx => exact hπ.fn f sx hp
 · intro f s h
   unfold retK at h
   cases hp : π f with
   | none => rw [hp] at h; exact hκ.ok f s h
   | some sx =>
    rw [hp] at h
    simp only [Option.some.injEq] at h
    subst h
    exact ret_valid (hπ.ok f sx hp)
theorem noWr_at {bs : List Nat} {j : Nat} : ∀ {l : List Foot}, noWr bs j l = true → ∀ f ∈ l, f.writes = [] ∨ (bs.getD f.i 0).testBit j = true
 | [], _, _, h => by cases h
 | g :: l, h, f, hf => by
  simp only [noWr, Bool.and_eq_true, Bool.or_eq_true] at h
  rcases List.mem_cons.1 hf with rfl | hf
  · rcases h.1 with h1 | h1
    · left
      split at h1
      · assumption
      · cases h1
    · exact .inr h1
  · exact noWr_at h.2 f hf
theorem feet_mem : ∀ (l : List Rec) (i : Nat) (acc : List Foot), (∀ f ∈ acc, f ∈ feet i l acc) ∧ ∀ (m : Nat) (ρ : Rec), l[m]? = some ρ → ρ.ex = true → ∃ f ∈ feet i l acc, f.i = i + m ∧ f.writes = ρ.ups.map (·.1)
 | [], i, acc => ⟨fun f hf => hf, fun m ρ hρ => by simp at hρ⟩
 | σ :: l, i, acc => by
  obtain ⟨h1, h2⟩ := feet_mem l (i + 1) (if σ.ex then ⟨i, σ.rs, σ.ups.map (·.1)⟩ :: acc else acc)
  refine ⟨fun f hf => h1 f (by split <;> simp [hf]), fun m ρ hρ hex => ?_⟩
  cases m with
  | zero =>
   simp only [List.getElem?_cons_zero, Option.some.injEq] at hρ
   subst hρ
   exact ⟨_, h1 ⟨i, σ.rs, σ.ups.map (·.1)⟩ (by simp [hex]), rfl, rfl⟩
  | succ m =>
   obtain ⟨f, hf, e1, e2⟩ := h2 m ρ (by simpa using hρ) hex
   exact ⟨f, hf, by omega, e2⟩
section
variable {R D : Type} {fl : R} {den : R → Option D} (hfl : den fl = none) {κ π : Nat → Option CSumm}
include hfl
theorem opD_step {κ : Nat → Option CSumm} {all : List Oper} {s s1 : St} (hs : StOk s) {o : Oper} {go : Bool} (hal : Alike s s1) (hdN : dstN s.size o.dst) (hw : wantedT all s.size s.tmp o = some go) {k : SV → List (Nat × Option Chunk) → Nat → List Nat → R} {d : D}
  (h : den (interpR fl s1.hp (fun r ups nx rs => bif Nat.blt nx 1000000 then k r ups nx rs else fl) (opM P κ o s1.ev s1.nx) []) = some d) (hgo : go = true) :
  ∃ r ups nx rs, StOk ((s1.upd ups nx).put o.dst r) ∧ mrun s.hp.get (opM P κ o (evT s.tmp) s.nx) = some (r, ups, nx, rs) ∧ ((s1.upd ups nx).put o.dst r).tmp = updT s.tmp o.dst r ∧ ((s1.upd ups nx).put o.dst r).hp.get = updF ups s.hp.get ∧ ((s1.upd ups nx).put o.dst r).nx = nx ∧ ((s1.upd ups nx).put o.dst r).size = s.size ∧
   den (k r ups nx rs) = some d := by
 have hs1 := hal.ok hs
 have hd1 : dstN s1.size o.dst := by rw [hal.size]; exact hdN
 obtain ⟨r, ups, nx, rs', hm, h2⟩ := interp_run hfl _ _ h
 cases hb : Nat.blt nx 1000000 with
 | false => rw [hb] at h2; exact (fl_no hfl h2).elim
 | true =>
  rw [hb] at h2
  simp only [cond_true, List.nil_append] at h2
  have hnx : nx < 1000000 := by rw [Nat.blt_eq] at hb; exact hb
  rw [evT_ev] at hm
  obtain ⟨hle, hkeys⟩ := opM_wf hm
  have hk : ∀ p ∈ ups, p.1 < nx := by
   intro p hp
   rcases hkeys p hp with h3 | h3
   · obtain ⟨c, hc⟩ := mrun_reads _ _ hm p.1 h3
     have := hs1.dom _ c hc; omega
   · exact h3.2
  have hk2 : ∀ p ∈ ups, p.1 < 1000000 := fun p hp => by have := hk p hp; omega
  have ou := upd_ok hs1 hle hnx hk
  have hhp : (s1.upd ups nx).hp.get = updF ups s1.hp.get := upsTr_get _ _ hk2
  rw [hal.tmp, hal.hp, hal.nx] at hm
  refine ⟨r, ups, nx, rs', put_ok ou hd1 r, hm, ?_, ?_, ?_, ?_, h2⟩
  · rw [tmp_put (s := s1.upd ups nx) hd1 ou.size]
    show updT s1.tmp o.dst r = _
    rw [hal.tmp]
  · rw [put_hp, hhp, hal.hp]
  · rw [put_nx]; rfl
  · rw [put_sz]; exact hal.size
theorem opsD1_run {all : List Oper} {j : Nat} {s0 : St} {kE : R} {d : D} : ∀ (os : List Oper) (i : Nat) (s : St) (acc : List Foot), StOk s → den (opsD1 P κ π fl all j s0 kE os i s acc) = some d →
  ∃ recs T' h', Txt P (fakeK P κ π) all s.size os s.tmp s.hp.get s.nx recs T' h' s0.nx ∧ footsOk (befAll all []) (feet i recs acc) = true ∧ noWr (befAll all []) j (feet i recs acc) = true ∧ den kE = some d ∧
   ∀ (m : Nat) (o : Oper) (ρ : Rec), (os.zip recs)[m]? = some (o, ρ) → ρ.ex = true → noInv o = true ∧ xT π o (evT (TD (os.zip recs) (upTo m) 0 s.tmp)) = none
 | [], i, s, acc, hs, h => by
  simp only [opsD1] at h
  cases hc : footsOk (befAll all []) acc && noWr (befAll all []) j acc && Nat.beq s.nx s0.nx with
  | false => rw [hc] at h; exact (fl_no hfl h).elim
  | true =>
   rw [hc] at h
   simp only [cond_true] at h
   simp only [Bool.and_eq_true] at hc
   have := Nat.eq_of_beq_eq_true hc.2
   exact ⟨[], s.tmp, s.hp.get, by rw [← this]; exact .nil, hc.1.1, hc.1.2, h, fun m o ρ hm => by simp at hm⟩
 | o :: os, i, s, acc, hs, h => by
  simp only [opsD1] at h
  cases hd : dstOk s o.dst && noInv o with
  | false => rw [hd] at h; exact (fl_no hfl h).elim
  | true =>
   rw [hd] at h
   simp only [cond_true] at h
   simp only [Bool.and_eq_true] at hd
   have hdN := dstOk_N hd.1
   obtain ⟨s1, go, hal, hw, h1⟩ := guard_run hfl hs.size h
   have hs1 := hal.ok hs
   have hd1 : dstN s1.size o.dst := by rw [hal.size]; exact hdN
   cases go with
   | true =>
    simp only [cond_true] at h1
    cases hx : xT π o s1.ev with
    | some q => rw [hx] at h1; exact (fl_no hfl h1).elim
    | none =>
     rw [hx] at h1
     simp only [] at h1
     obtain ⟨r, ups, nx, rs, hok, hm, e1, e2, e3, e4, h2⟩ := opD_step hfl hs hal hdN hw h1 rfl
     obtain ⟨recs, T', h', ht, g1, g2, g3, g4⟩ := opsD1_run os (i + 1) _ _ hok h2
     rw [e1, e2, e3, e4] at ht
     refine ⟨_ :: recs, T', h', .run hdN hw hm ht, by simpa [feet] using g1, by simpa [feet] using g2, g3, fun m o' ρ' hm' hex => ?_⟩
     cases m with
     | zero =>
      simp only [List.zip_cons_cons, List.getElem?_cons_zero, Option.some.injEq, Prod.mk.injEq] at hm'
      obtain ⟨rfl, rfl⟩ := hm'
      refine ⟨hd.2, ?_⟩
      rw [TD_up0]
      rw [evT_ev, hal.tmp] at hx
      exact hx
     | succ m =>
      have := g4 m o' ρ' (by simpa using hm') hex
      rw [e1] at this
      simp only [List.zip_cons_cons]
      rw [TD_up1]
      exact this
   | false =>
    simp only [cond_false] at h1
    obtain ⟨recs, T', h', ht, g1, g2, g3, g4⟩ := opsD1_run os (i + 1) _ _ (put_ok hs1 hd1 (.tup [])) h1
    rw [put_sz, put_hp, put_nx, tmp_put hd1 hs1.size, hal.tmp, hal.hp, hal.nx, hal.size] at ht
    refine ⟨_ :: recs, T', h', .skip hdN hw ht, by simpa [feet] using g1, by simpa [feet] using g2, g3, fun m o' ρ' hm' hex => ?_⟩
    cases m with
    | zero =>
     simp only [List.zip_cons_cons, List.getElem?_cons_zero, Option.some.injEq, Prod.mk.injEq] at hm'
     obtain ⟨rfl, rfl⟩ := hm'
     cases hex
    | succ m =>
     have := g4 m o' ρ' (by simpa using hm') hex
     rw [tmp_put hd1 hs1.size, hal.tmp] at this
     simp only [List.zip_cons_cons]
     rw [TD_up1]
     exact this
theorem opsD0_run {all : List Oper} {s0 : St} {k : Ex → St → R} {kRet : R} {d : D} : ∀ (os : List Oper) (i : Nat) (s : St) (acc : List Foot), StOk s → den (opsD0 P κ π fl all s0 k kRet os i s acc) = some d → den kRet = some d ∨
  ∃ recs T' h', Txt P (fakeK P κ π) all s.size os s.tmp s.hp.get s.nx recs T' h' s0.nx ∧ footsOk (befAll all []) (feet i recs acc) = true ∧
   ∃ (j : Nat) (oj : Oper) (ρj : Rec) (dd : Nat) (v : SV) (ups : List (Nat × Option Chunk)) (nx : Nat) (sx : CSumm) (args : List SV) (rs : List Nat), noWr (befAll all []) (i + j) (feet i recs acc) = true ∧ (os.zip recs)[j]? = some (oj, ρj) ∧ ρj.ex = true ∧ oj.dst = some dd ∧ dd < s.size ∧
    xT π oj (evT (TD (os.zip recs) (upTo j) 0 s.tmp)) = some (sx, args) ∧ mrun (HD (os.zip recs) (upTo j) 0 s.hp.get) (callS sx args ρj.nx0) = some (.tup [.bool false, v], ups, nx, rs) ∧ nx < 1000000 ∧
    den (k (.exit (panId + dd)) ((s0.upd ups nx).put (some dd) v)) = some d ∧
    ∀ (m : Nat) (o : Oper) (ρ : Rec), m ≠ j → (os.zip recs)[m]? = some (o, ρ) → ρ.ex = true → noInv o = true ∧ xT π o (evT (TD (os.zip recs) (upTo m) 0 s.tmp)) = none
 | [], i, s, acc, hs, h => .inl h
 | o :: os, i, s, acc, hs, h => by
  simp only [opsD0] at h
  cases hd : dstOk s o.dst && noInv o with
  | false => rw [hd] at h; exact (fl_no hfl h).elim
  | true =>
   rw [hd] at h
   simp only [cond_true] at h
   simp only [Bool.and_eq_true] at hd
   have hdN := dstOk_N hd.1
   obtain ⟨s1, go, hal, hw, h1⟩ := guard_run hfl hs.size h
   have hs1 := hal.ok hs
   have hd1 : dstN s1.size o.dst := by rw [hal.size]; exact hdN
   cases go with
   | false =>
    simp only [cond_false] at h1
    rcases opsD0_run os (i + 1) _ _ (put_ok hs1 hd1 (.tup [])) h1 with h2 | ⟨recs, T', h', ht, g1, j, oj, ρj, dd, v, ups, nx, sx, args, rs, g2, q1, q2, q3, q4, q5, q6, q7, q8, q9⟩
    · exact .inl h2
    rw [put_sz, put_hp, put_nx, tmp_put hd1 hs1.size, hal.tmp, hal.hp, hal.nx, hal.size] at ht
    rw [tmp_put hd1 hs1.size, hal.tmp] at q5 q9
    rw [put_hp, hal.hp] at q6
    rw [put_sz, hal.size] at q4
    refine .inr ⟨_ :: recs, T', h', .skip hdN hw ht, by simpa [feet] using g1, j + 1, oj, ρj, dd, v, ups, nx, sx, args, rs, by rw [show i + (j + 1) = i + 1 + j by omega]; simpa [feet] using g2, by simpa using q1, q2, q3, q4, ?_, ?_, q7, q8, fun m o' ρ' hmj hm' hex => ?_⟩
    · simp only [List.zip_cons_cons]; rw [TD_up1]; exact q5
    · simp only [List.zip_cons_cons]; rw [HD_up1]; exact q6
    · cases m with
      | zero =>
       simp only [List.zip_cons_cons, List.getElem?_cons_zero, Option.some.injEq, Prod.mk.injEq] at hm'
       obtain ⟨rfl, rfl⟩ := hm'
       cases hex
      | succ m =>
       simp only [List.zip_cons_cons]
       rw [TD_up1]
       exact q9 m o' ρ' (by omega) (by simpa using hm') hex
   | true =>
    simp only [cond_true] at h1
    cases hx : xT π o s1.ev with
    | none =>
     rw [hx] at h1
     simp only [] at h1
     obtain ⟨r, ups0, nx0, rs0, hok, hm, e1, e2, e3, e4, h2⟩ := opD_step hfl hs hal hdN hw h1 rfl
     rcases opsD0_run os (i + 1) _ _ hok h2 with h3 | ⟨recs, T', h', ht, g1, j, oj, ρj, dd, v, ups, nx, sx, args, rs, g2, q1, q2, q3, q4, q5, q6, q7, q8, q9⟩
     · exact .inl h3
     rw [e1, e2, e3, e4] at ht
     rw [e1] at q5 q9
     rw [e2] at q6
     rw [e4] at q4
     refine .inr ⟨_ :: recs, T', h', .run hdN hw hm ht, by simpa [feet] using g1, j + 1, oj, ρj, dd, v, ups, nx, sx, args, rs, by rw [show i + (j + 1) = i + 1 + j by omega]; simpa [feet] using g2, by simpa using q1, q2, q3, q4, ?_, ?_, q7, q8, fun m o' ρ' hmj hm' hex => ?_⟩
     · simp only [List.zip_cons_cons]; rw [TD_up1]; exact q5
     · simp only [List.zip_cons_cons]; rw [HD_up1]; exact q6
     · cases m with
       | zero =>
        simp only [List.zip_cons_cons, List.getElem?_cons_zero, Option.some.injEq, Prod.mk.injEq] at hm'
        obtain ⟨rfl, rfl⟩ := hm'
        refine ⟨hd.2, ?_⟩
        rw [TD_up0]
        rw [evT_ev, hal.tmp] at hx
        exact hx
       | succ m =>
        simp only [List.zip_cons_cons]
        rw [TD_up1]
        exact q9 m o' ρ' (by omega) (by simpa using hm') hex
    | some q =>
     obtain ⟨sx, args⟩ := q
     rw [hx] at h1
     simp only [] at h1
     obtain ⟨r, ups, nx, rs', hm, h2⟩ := interp_run hfl _ _ h1
     cases hb : Nat.blt nx 1000000 with
     | false => rw [hb] at h2; exact (fl_no hfl h2).elim
     | true =>
      rw [hb] at h2
      simp only [cond_true] at h2
      have hnx : nx < 1000000 := by rw [Nat.blt_eq] at hb; exact hb
      split at h2
      case h_2 => exact (fl_no hfl h2).elim
      rename_i b v
      cases b with
      | true => exact .inl h2
      | false =>
       simp only [cond_false] at h2
       cases hdst : o.dst with
       | none => rw [hdst] at h2; exact (fl_no hfl h2).elim
       | some dd =>
        simp only [hdst] at h2
        have h2' : den (interpR fl s1.hp (fun r' ups' nx' rs' => bif Nat.blt nx' 1000000 then
          opsD1 P κ π fl all i s0 (k (.exit (panId + dd)) ((s0.upd ups nx).put (some dd) v)) os (i + 1) ((s1.upd ups' nx').put o.dst r') (⟨i, rs', ups'.map (·.1)⟩ :: acc) else fl) (opM P (fakeK P κ π) o s1.ev s1.nx) []) = some d := by
         rw [hdst]; exact h2
        obtain ⟨r0, ups0, nx0, rs0, hok, hm0, e1, e2, e3, e4, h3⟩ := opD_step hfl hs hal hdN hw h2' rfl
        obtain ⟨recs, T', h', ht, g1, g2, g3, g4⟩ := opsD1_run hfl os (i + 1) _ _ hok h3
        rw [e1, e2, e3, e4] at ht
        rw [e1] at g4
        refine .inr ⟨_ :: recs, T', h', .run hdN hw hm0 ht, by simpa [feet] using g1, 0, o, _, dd, v, ups, nx, sx, args, rs', by simpa [feet] using g2, rfl, rfl, hdst, by rw [hdst] at hdN; exact hdN, ?_, ?_, hnx, g3, fun m o' ρ' hmj hm' hex => ?_⟩
        · rw [TD_up0]
          rw [evT_ev, hal.tmp] at hx
          exact hx
        · rw [HD_up0]
          rw [hal.hp, hal.nx] at hm
          exact hm
        · cases m with
          | zero => exact absurd rfl hmj
          | succ m =>
           simp only [List.zip_cons_cons]
           rw [TD_up1]
           exact g4 m o' ρ' (by simpa using hm') hex
end
theorem txt_drawP {κ : Nat → Option CSumm} (hκ : KOk P κ) (hmix : P.follows .mixedOrders = true) {id : Nat} {ops : Array Oper} {s s' : St} {recs : List Rec} (hs : StOk s) (hs' : StOk s') (hz : s'.size = s.size) (hrd : s'.rd = s.rd)
  (ht : Txt P κ ops.toList s.size ops.toList s.tmp s.hp.get s.nx recs s'.tmp s'.hp.get s'.nx) (hst : staticOk ops.toList (befAll ops.toList []) [] ops.toList 0 = true) (hf : footsOk (befAll ops.toList []) (feet 0 recs []) = true)
  {ρ : Option Nat} {Q : Exit → Act → World → Prop} {a : Act} {w : World} {Im : Nat → Prop} {θ : Th} (sim : Sim P ω ρ s a w Im θ) (hA : AfterP P ω ρ s s' a w Im θ (Q .normal)) : (Code.region id ops true).wpIn (FR ρ) 0 P Q a w := by
 have fin : ∀ (a' : Act) (w' : World) (Im' : Nat → Prop) (θ' : Th), SimF P ω s.size s'.tmp s'.hp.get a' w' Im' θ' → Fr s'.nx θ' s'.hp.get → a'.defers = a.defers → Ext (fun x => s.nx ≤ x) s.hp.get w Im θ s'.hp.get w' Im' θ' → Q .normal a' w' := by
  intro a' w' Im' θ' hS hF hdf hE
  refine hA a' w' Im' θ' ⟨hs', by rw [hz]; exact hS, hF, ?_⟩ hE hdf
  rw [hrd]
  rcases sim.rd with g | ⟨y, b, N, g1, g2, g3⟩
  · exact .inl g
  · exact .inr ⟨y, b, N, g1, hE.thUp _ _ g2, g3⟩
 refine wpIn_region_any hmix ?_
 have hS := sim.sf.drew
 have hz' : ∀ j, 0 ≤ j → (fun _ : Nat => false) j = false := fun _ _ => rfl
 refine any_sound (P := P) (ω := ω) hκ (all := ops.toList) (nxs := s.nx) (ro := ρ) (ds := a.defers) ht hs.dom (Nat.le_refl _) (static_of hst) hf (Q := Q) (hs := s.hp.get) (ws := w) (Ims := Im) (θs := θ) ?_ ops.size (fun _ => false) (Array.replicate ops.size false) a { w with drawn := w.drawn + 1 } Im θ ?_ (by simp) ?_ (fun _ _ => rfl) (fun i hi => by cases hi) rfl ?_ ?_ ?_
 · intro a' w' Im' θ' hdf hS' hF hn hE'
   exact fin a' w' Im' θ' hS' hF hdf hE'
 · have := cnt_le_n (fun _ => false) ops.toList.length
   simpa using this
 · intro i hi
   simp at hi
   simp [hi]
 · rw [TD_none _ _ _ _ hz', HD_none _ _ _ _ hz']; exact hS
 · intro x hx
   left
   rw [HD_none _ _ _ _ hz'] at hx
   rcases Nat.lt_or_ge x s.nx with h1 | h1
   · exact h1
   · obtain ⟨f1, f2⟩ := sim.fr x h1
     rcases hx with hx | hx
     · exact absurd f1 hx
     · exact absurd f2 hx
 · rw [HD_none _ _ _ _ hz']; exact Ext.drew
section
variable {R D : Type} {fl : R} {den : R → Option D} (hfl : den fl = none) {κ π : Nat → Option CSumm} (hκ : KOk P κ) (hπ : XOk P π)
include hfl hκ hπ
theorem regionD_run (hmix : P.follows .mixedOrders = true) {id : Nat} {ops : Array Oper} {s : St} {k : Ex → St → R} {d : D} (hs : StOk s) (h : den (regionD P κ π fl ops k s) = some d) :
  ∃ e s', StOk s' ∧ Later s s' ∧ s'.size = s.size ∧ s'.rd = s.rd ∧ den (k e s') = some d ∧
   ∀ (ω : Nat → Value) (ρ : Option Nat) (Q : Exit → Act → World → Prop) (a : Act) (w : World) (Im : Nat → Prop) (θ : Th), Sim P ω ρ s a w Im θ → AfterP P ω ρ s s' a w Im θ (PQ [] Q (exitOf e)) → (Code.region id ops true).wpIn (FR ρ) 0 P Q a w := by
 unfold regionD at h
 cases hst : staticOk ops.toList (befAll ops.toList []) [] ops.toList 0 with
 | false => rw [hst] at h; exact (fl_no hfl h).elim
 | true =>
  rw [hst] at h
  simp only [cond_true] at h
  rcases opsD0_run hfl _ _ _ _ hs h with h1 | ⟨recs, T', h', ht, hf, j, oj, ρj, dd, v, ups, nx, sx, args, rs, hwr, q1, q2, q3, q4, q5, q6, q7, q8, q9⟩
  · -- all return
    obtain ⟨recs, s', ht, hs', hz, hr, hl, h2⟩ := opsR_run hfl _ _ _ _ hs h1
    cases hf : footsOk (befAll ops.toList []) (feet 0 recs []) with
    | false => rw [hf] at h2; exact (fl_no hfl h2).elim
    | true =>
     rw [hf] at h2
     simp only [cond_true] at h2
     exact ⟨.normal, s', hs', hl, hz, hr, h2, fun ω ρ Q a w Im θ sim hA => txt_drawP (retK_ok hκ hπ) hmix hs hs' hz hr ht hst hf sim hA⟩
  · -- one raises
    obtain ⟨hlen, hnn, hT', hh', hfact, hord⟩ := txt_facts ht hs.dom
    have hzr : ∀ p ∈ ops.toList.zip recs, p.2 ∈ recs ∧ ∃ i : Nat, (ops.toList.zip recs)[i]? = some p := by
     intro p hp
     obtain ⟨i, hi, e⟩ := List.getElem_of_mem hp
     exact ⟨(List.of_mem_zip hp).2, i, by rw [List.getElem?_eq_getElem hi, e]⟩
    have hst' := static_of hst
    have hquiet : ∀ (m : Nat) p, (ops.toList.zip recs)[m]? = some p → p.2.ups = [] ∨ ((befAll ops.toList []).getD m 0).testBit j = true := by
     intro m p hi
     have f := hfact m p.1 p.2 (by rw [hi])
     cases hex : p.2.ex with
     | false => exact .inl (f.idle hex).2.1
     | true =>
      have hm : recs[m]? = some p.2 := by
       rw [show p = (p.1, p.2) from rfl, List.getElem?_zip_eq_some] at hi
       exact hi.2
      obtain ⟨ft, hft, e1, hwr'⟩ := (feet_mem recs 0 []).2 m p.2 hm hex
      rcases noWr_at hwr ft hft with h1 | h1
      · rw [hwr'] at h1
        exact .inl (by simpa using h1)
      · rw [e1] at h1
        simp only [Nat.zero_add] at h1
        exact .inr h1
    have hqD : ∀ D : Nat → Bool, D j = false → (∀ i, D i = true → ∀ k, ((befAll ops.toList []).getD i 0).testBit k = true → D k = true) → ∀ h : HpF, HD (ops.toList.zip recs) D 0 h = h := by
     intro D hDj hcl h
     refine HD_quiet _ _ _ _ (fun m p hp hd => ?_)
     simp only [Nat.zero_add] at hd
     rcases hquiet m p hp with h1 | h1
     · exact h1
     · have := hcl m hd j h1
       rw [hDj] at this
       cases this
    have hnx0 : ∀ p ∈ ops.toList.zip recs, p.2.nx0 = s.nx ∧ p.2.nx1 = s.nx := by
     intro p hp
     obtain ⟨hm, i, hi⟩ := hzr p hp
     have f := hfact i p.1 p.2 (by rw [hi])
     have := f.lo; have := f.mid; have := f.hi
     omega
    have hj := hnx0 _ (List.mem_of_getElem? q1)
    have hup : HD (ops.toList.zip recs) (upTo j) 0 s.hp.get = s.hp.get := by
     refine HD_quiet _ _ _ _ (fun m p hp hd => ?_)
     simp only [Nat.zero_add] at hd
     have hmj := upTo_iff.1 hd
     rcases hquiet m p hp with h1 | h1
     · exact h1
     · have hlt := hst'.lt m p.1 (by
         rw [show p = (p.1, p.2) from rfl, List.getElem?_zip_eq_some] at hp
         exact hp.1) j h1
       omega
    rw [hup, hj.1] at q6
    obtain ⟨g, hcall, hg⟩ := xT_some q5
    obtain ⟨hle, hkeys⟩ := callS_wf q6
    have hdN : dstN s.size (some dd) := q4
    obtain ⟨ok2, lat2, sz2, rd2⟩ := upd_put_ok hs hdN hle q7 hkeys (mrun_reads _ _ q6) v
    refine ⟨.exit (panId + dd), _, ok2, lat2, sz2, rd2, q8, fun ω ρ Q a w Im θ sim hA => ?_⟩
    refine wpIn_region_any hmix ?_
    have hS := sim.sf.drew
    have hz' : ∀ j, 0 ≤ j → (fun _ : Nat => false) j = false := fun _ _ => rfl
    have cong : ∀ (o : Oper) {D : Nat → Bool} {i : Nat}, (∀ t ∈ looks ops.toList o, TD (ops.toList.zip recs) D 0 s.tmp t = TD (ops.toList.zip recs) (upTo i) 0 s.tmp t) → ∀ x ∈ o.op.operands, evT (TD (ops.toList.zip recs) D 0 s.tmp) x = evT (TD (ops.toList.zip recs) (upTo i) 0 s.tmp) x := by
     intro o D i haT x hx
     cases x with
     | tmp t =>
      simp only [evT]
      exact haT t (by simp only [looks, List.mem_append]; exact .inr (tmpsOf_mem (by simpa using hx)))
     | _ => rfl
    have hjlt : j < ops.toList.length := by
     have := (List.getElem?_eq_some_iff.1 q1).1
     rw [List.length_zip] at this
     omega
    refine any_sound2 (P := P) (ω := ω) (κ := fakeK P κ π) (J := j) hjlt (all := ops.toList) (nxs := s.nx) (ro := ρ) (ds := a.defers) ht hs.dom (Nat.le_refl _) (static_of hst) hf (Q := Q) (hs := s.hp.get) (ws := w) (Ims := Im) (θs := θ) ?_ ?_ ?_ ops.size (fun _ => false) (Array.replicate ops.size false) a { w with drawn := w.drawn + 1 } Im θ ?_ (by simp) ?_ (fun _ _ => rfl) (fun i hi => by cases hi) rfl rfl ?_ ?_ ?_
    · -- each operation
      intro i o ρ0 D a1 w1 Im1 θ1 hij hz hex hdf hS1 hE1 haT hrun hfr hfresh K hK
      obtain ⟨n1, n2⟩ := q9 i o ρ0 hij hz hex
      rw [← xT_congr (cong o haT)] at n2
      rw [opM_fake n1 n2] at hrun
      exact op_good hκ hS1.hp (fun x _ => hS1.eval x) hfresh hrun ρ K Q hK
    · -- the one that raises
      intro o ρ0 D a1 w1 Im1 θ1 hz hdf hDj hclD hS1 hE1 haT hfr K
      rw [q1] at hz
      simp only [Option.some.injEq, Prod.mk.injEq] at hz
      obtain ⟨rfl, rfl⟩ := hz
      rw [hqD D hDj hclD] at hS1 hE1
      rw [← callT_congr (cong oj haT)] at hcall
      obtain ⟨us, hus, hgo⟩ := call_enter (P := P) hcall (hπ.fn g sx hg) hS1
      have hf1 : ∀ x, s.nx ≤ x → θ1 x = none ∧ s.hp.get x = none := by
       intro x hx
       rw [hqD D hDj hclD] at hfr
       have key : ¬ (θ1 x ≠ none ∨ s.hp.get x ≠ none) := by
        intro hh
        rcases hfr x hh with h1 | ⟨m, o2, ρ2, -, h2, h3, h4⟩
        · omega
        · have := hnx0 _ (List.mem_of_getElem? h2)
          simp only at this
          omega
       constructor
       · cases h1 : θ1 x with
         | none => rfl
         | some p => exact (key (.inl (by simp [h1]))).elim
       · cases h1 : s.hp.get x with
         | none => rfl
         | some p => exact (key (.inr (by simp [h1]))).elim
      refine hgo ρ K Q (callX_run (hπ.ok g sx hg) q6 hS1.hp hus (fun x h1 _ => hf1 x h1) (fun u w' Im' θ' hE hv hH => ?_))
      have hEt : Ext (fun x => s.nx ≤ x) s.hp.get w Im θ (updF ups s.hp.get) w' Im' θ' := hE1.trans (hE.mono (fun x hx => hx.1))
      have hEn : Ext (fun x => s.nx ≤ x ∧ x < nx) s.hp.get w Im θ (updF ups s.hp.get) w' Im' θ' := by
       refine ⟨fun x hx => ?_, hEt.thUp, hEt.imUp, hEt.size, hEt.keep, hEt.imNew, hEt.ownNew, hEt.os, hEt.output, hEt.tape⟩
       rcases Nat.lt_or_ge x s.nx with h1 | h1
       · exact hEt.thOld x (by omega)
       · rw [hE.thOld x hx, (hf1 x h1).1, (sim.fr x h1).1]
      obtain ⟨sim2, hE2⟩ := sim.upd_put hdN hle q7 hkeys (mrun_reads _ _ q6) hEn hv hH
      have := PQ_pan (hA _ w' Im' θ' sim2 hE2 (put_defers _ _ _)) (a' := a1) (by rw [hdf, put_defers]) (by rw [put_size, hS1.size, sim.sf.size]) (fun t ht => by cases ht)
      have hlt : dd < a.tmps.size := by rw [sim.sf.size]; exact q4
      have e : (a.put (some dd) u).tmps.getD dd undef = u := by simp [Act.put, Array.getD, hlt]
      rw [e] at this
      exact this
    · intro o ρ0 hz
      rw [q1] at hz
      simp only [Option.some.injEq, Prod.mk.injEq] at hz
      obtain ⟨rfl, rfl⟩ := hz
      exact q2
    · have := cnt_le_n (fun _ => false) ops.toList.length
      simpa using this
    · intro i hi
      simp at hi
      simp [hi]
    · rw [TD_none _ _ _ _ hz', HD_none _ _ _ _ hz']; exact hS
    · intro x hx
      left
      rw [HD_none _ _ _ _ hz'] at hx
      rcases Nat.lt_or_ge x s.nx with h1 | h1
      · exact h1
      · obtain ⟨f1, f2⟩ := sim.fr x h1
        rcases hx with hx | hx
        · exact absurd f1 hx
        · exact absurd f2 hx
    · rw [HD_none _ _ _ _ hz']; exact Ext.drew
end
end Go.Am
/- The abstract machine: code that may raise: loops, bodies. -/
namespace Go.Am
variable {P : Program} {ω : Nat → Value} {Kp : List Nat}
section
variable {R : Type} (fl : R) (P : Program) (κ π : Nat → Option CSumm) (Kp : List Nat) (T : LTab)
def execPC (rec : Rcr R) : Rcr R
 | .skip, s, k => k .normal s
 | .region _ ops draw, s, k => bif draw then (match Kp with
   | [] => regionD P κ π fl ops k s
   | _ => fl) else opsP fl P κ π Kp ops.toList k ops.toList s
 | .seq a b, s, k => execPC rec a s (fun e s => match e with
  | .normal => execPC rec b s k
  | e => k e s)
 | .cond c t e, s, k =>
  match s.ev c with
  | .bool b => bif b then execPC rec t s k else execPC rec e s k
  | _ => fl
 | .block id c, s, k => bif Nat.blt id panId then execPC rec c s (fun e s => match e with
  | .exit j => bif Nat.beq j id then k .normal s else k (.exit j) s
  | e => k e s) else fl
 | .loop c, s, k => execPC rec c s (fun e s => match e with
  | .normal => rec (.loop c) s k
  | e => k e s)
 | .exit id, s, k => bif Nat.blt id panId then k (.exit id) s else fl
 | .ret, s, k => k .ret s
 | .refuse w, s, k => match T w with
  | some e => loopK fl e s k
  | none => fl
 | _, _, _ => fl
def execP : Nat → Rcr R
 | 0, _, _, _ => fl
 | n + 1, c, s, k => execPC fl P κ π Kp T (execP n) c s k
end
structure ComesP (P : Program) (Kp : List Nat) (c : Code) (s : St) (e : Ex) (s2 : St) : Prop where
 later : Later s s2
 size : s2.size = s.size
 rd : s2.rd = s.rd
 wps : ∃ m, ∀ (ω : Nat → Value) (ρ : Option Nat) (Q : Exit → Act → World → Prop) (a : Act) (w : World) (Im : Nat → Prop) (θ : Th), Sim P ω ρ s a w Im θ → AfterP P ω ρ s s2 a w Im θ (PQ Kp Q (exitOf e)) → W P ρ m c Q a w
theorem ComesP.wp {c : Code} {s s2 : St} {e : Ex} (h : ComesP P Kp c s e s2) (ρ : Option Nat) (Q : Exit → Act → World → Prop) (a : Act) (w : World) (Im : Nat → Prop) (θ : Th) (sim : Sim P ω ρ s a w Im θ) (hA : AfterP P ω ρ s s2 a w Im θ (PQ Kp Q (exitOf e))) : c.wpIn (FR ρ) 0 P Q a w := by
 obtain ⟨m, hm⟩ := h.wps
 exact (hm ω ρ Q a w Im θ sim hA).wp
theorem comesP_self {c : Code} {s : St} {e : Ex} (h : ∀ (ρ : Option Nat) (Q : Exit → Act → World → Prop) (a : Act) (w : World), PQ Kp Q (exitOf e) a w → W P ρ 0 c Q a w) : ComesP P Kp c s e s :=
 ⟨Later.refl s, rfl, rfl, 0, fun _ ρ Q a w Im θ sim hA => h ρ Q a w (hA a w Im θ sim (Ext.refl _) rfl)⟩
def ValidLP (P : Program) (Kp : List Nat) (e : LEnt) : Prop :=
 ∀ (args : List SV) (H : HpL) (k : IntKind) (c : Int) (outs : List SV) (ups : List (Nat × Option Chunk)), crun (e.s args H) = some (.tup (.int k c :: outs), ups) → Canon H → outs.length = e.outs.length → args.length = e.ins.length →
  ∃ m, ∀ (ω : Nat → Value) (θ : Th) (Im : Nat → Prop) (w : World) (a : Act) (Q : Exit → Act → World → Prop), a.tmps.size = e.size → LRel P ω w Im θ args (e.ins.map fun t => a.tmps.getD t undef) → HRel P ω w Im θ H.get →
   (∀ x, H.length ≤ x → θ x = none) → Mk w Im θ H.get a.defers →
   (∀ a' w' Im' θ', a'.tmps.size = e.size → Ext (fun x => H.length ≤ x) H.get w Im θ (updF ups H.get) w' Im' θ' → LRel P ω w' Im' θ' outs (e.outs.map fun t => a'.tmps.getD t undef) → HRel P ω w' Im' θ' (updF ups H.get) →
    (∀ t ∈ e.keep, a'.tmps.getD t undef = a.tmps.getD t undef) → a'.defers = a.defers → PQ Kp Q (exitOf (exOf c)) a' w') →
   Code.roundsIn (FR none) 0 P e.code Q m a w
def LOkP (P : Program) (Kp : List Nat) (T : LTab) : Prop := ∀ w e, T w = some e → ValidLP P Kp e
def RcrOkP {R D : Type} (P : Program) (Kp : List Nat) (T : LTab) (den : R → Option D) (rec : Rcr R) : Prop :=
 ∀ (c : Code) (s : St) (k : Ex → St → R) (d : D), StOk s → den (rec c s k) = some d → ∃ e s2, StOk s2 ∧ ComesP P Kp (fillC T c) s e s2 ∧ den (k e s2) = some d
section
variable {R D : Type} {fl : R} {den : R → Option D} (hfl : den fl = none)
include hfl
theorem loopP_run {e : LEnt} (hv : ValidLP P Kp e) {s : St} {k : Ex → St → R} {d : D} (hs : StOk s) (h : den (loopK fl e s k) = some d) : ∃ ex s2, StOk s2 ∧ ComesP P Kp (.loop e.code) s ex s2 ∧ den (k ex s2) = some d := by
 unfold loopK at h
 cases hrd : s.rd with
 | some y => rw [hrd] at h; exact (fl_no hfl h).elim
 | none =>
  rw [hrd] at h
  simp only [] at h
  cases hb : Nat.beq s.size e.size && lowB s.size e.ins && lowB s.size e.outs && lowB s.size e.keep with
  | false => rw [hb] at h; exact (fl_no hfl h).elim
  | true =>
   rw [hb] at h
   simp only [cond_true] at h
   simp only [Bool.and_eq_true] at hb
   obtain ⟨⟨⟨b1, b2⟩, b3⟩, b4⟩ := hb
   have hsz : s.size = e.size := Nat.eq_of_beq_eq_true b1
   have hins := lowB_spec _ b2
   have houts := lowB_spec _ b3
   have hkeep := lowB_spec _ b4
   have hsmall := hs.size
   obtain ⟨r, ups, nx, rs', hm, h2⟩ := interp_run hfl _ _ h
   cases hbn : Nat.blt nx 1000000 with
   | false => rw [hbn] at h2; exact (fl_no hfl h2).elim
   | true =>
    rw [hbn] at h2
    simp only [cond_true] at h2
    have hnx : nx < 1000000 := by rw [Nat.blt_eq] at hbn; exact hbn
    split at h2
    case h_2 => exact (fl_no hfl h2).elim
    rename_i kk c outs
    cases hbl : Nat.beq outs.length e.outs.length with
    | false => rw [hbl] at h2; exact (fl_no hfl h2).elim
    | true =>
     rw [hbl] at h2
     simp only [cond_true] at h2
     have hol : outs.length = e.outs.length := Nat.eq_of_beq_eq_true hbl
     obtain ⟨hle, hkeys⟩ := callS_wf hm
     have hk : ∀ p ∈ ups, p.1 < nx := by
      intro p hp
      rcases hkeys p hp with h3 | h3
      · obtain ⟨c, hc⟩ := mrun_reads _ _ hm p.1 h3
        have := hs.dom _ c hc; omega
      · exact h3.2
     have hk2 : ∀ p ∈ ups, p.1 < 1000000 := fun p hp => by have := hk p hp; omega
     have ou := upd_ok hs hle hnx hk
     have hhp : (s.upd ups nx).hp.get = updF ups s.hp.get := upsTr_get _ _ hk2
     -- the temporaries behind the loop
     have htm : ∀ j, ((afterL e outs ups nx s).tmp j = .junk) ∨ (j ∈ e.keep ∧ (afterL e outs ups nx s).tmp j = s.tmp j) ∨ ∃ i : Nat, e.outs[i]? = some j ∧ ∃ v, outs[i]? = some v ∧ (afterL e outs ups nx s).tmp j = v := by
      intro j
      have hk16 : ∀ x ∈ e.keep, x < 16000 := fun x hx => by have := hkeep x hx; omega
      have ho16 : ∀ x ∈ e.outs, x < 16000 := fun x hx => by have := houts x hx; omega
      have he : (afterL e outs ups nx s).tmp j = match (setPs e.outs outs (keepT e.keep s .lf)).get j with
       | some v => v
       | none => .junk := rfl
      rcases setPs_at e.outs outs (keepT e.keep s .lf) j ho16 with ⟨g1, -⟩ | ⟨i, g1, v, g2, g3⟩
      · rw [he, g1, keepT_get _ _ _ _ hk16]
        by_cases hj : j ∈ e.keep
        · simp [hj]
        · simp [hj, Tr.get_lf]
      · exact .inr (.inr ⟨i, g1, v, g2, by rw [he, g3]⟩)
     have hok : StOk (afterL e outs ups nx s) := by
      refine ⟨hs.size, ou.nx, fun t ht => ?_, ou.dom, ou.m⟩
      have ht' : s.size ≤ t := ht
      rcases htm t with g | ⟨g, _⟩ | ⟨i, g, _⟩
      · exact g
      · have := hkeep t g; omega
      · have := houts t (List.mem_of_getElem? g); omega
     obtain ⟨args', H, v, u, back, q1, q2, q3, q4, hsem⟩ := enter_gen (P := P) hm
     -- the loop's own names
     have hvf : ∃ outsL, v = .tup (.int kk c :: outsL) ∧ outs = renL back outsL := by
      cases v <;> simp only [renS] at q4 <;> try (cases q4; done)
      rename_i vs
      cases vs with
      | nil => simp [renL] at q4
      | cons x vs =>
       simp only [renL, SV.tup.injEq, List.cons.injEq] at q4
       obtain ⟨h3, h4⟩ := q4
       cases x <;> simp only [renS] at h3 <;> try (cases h3; done)
       cases h3
       exact ⟨vs, rfl, h4⟩
     obtain ⟨outsL, rfl, rfl⟩ := hvf
     have holL : outsL.length = e.outs.length := by rw [renL_eq] at hol; simpa using hol
     obtain ⟨m, hmv⟩ := hv args' H kk c outsL u q1 q2 holL (by rw [q3]; simp)
     refine ⟨exOf c, afterL e (renL back outsL) ups nx s, hok, ⟨⟨rfl, hle, (upd_later hle hk2).same, (upd_later hle hk2).up, (upd_later hle hk2).low⟩, rfl, rfl, m, ?_⟩, h2⟩
     intro ω ρ Q a w Im θ sim hA
     have hρ : ρ = none := by
      rcases sim.rd with ⟨_, g⟩ | ⟨y, b, N, g, _⟩
      · exact g
      · rw [hrd] at g; cases g
     subst hρ
     show Code.roundsIn (FR none) 0 P e.code Q m a w
     have hargs : LRel P ω w Im θ (e.ins.map s.tmp) (e.ins.map fun t => a.tmps.getD t undef) := lrel_map (fun t ht => sim.sf.tm t (hins t ht))
     obtain ⟨θL, l1, l2, l3, l4, l5⟩ := hsem sim.sf.hp hargs (fun x h1 _ => sim.fr x h1)
     obtain ⟨rs0, base0, d1, db, d2, d3⟩ := sim.sf.df
     have hMkL : Mk w Im θL H.get a.defers := ⟨rs0, base0, d1, db, d2, fun r hr => ⟨(d3 r hr).1, (d3 r hr).2.1, fun y c N hy hb => by
      obtain ⟨x, c0, hx, hxb⟩ := l4 y c r N hy hb
      exact (d3 r hr).2.2 x c0 N hx hxb⟩⟩
     refine hmv ω θL Im w a Q (by rw [sim.sf.size, hsz]) l1 l2 l3 hMkL (fun a' w' Im' θL' e1 e2 e3 e4 e5 e7 => ?_)
     -- back
     have hz : VRel P ω w' Im' θL' (.tup (.int kk c :: outsL)) (.tuple (.int kk c :: (e.outs.map fun t => a'.tmps.getD t undef)).toArray) := by
      refine .tup (by simpa using e3.len) (fun i v u hv hu => ?_)
      cases i with
      | zero => simp at hv hu; subst hv; subst hu; exact .int
      | succ i => exact e3.at_ i v u (by simpa using hv) (by simpa using hu)
     obtain ⟨θ', f1, f2, f3, f4, f5⟩ := l5 _ w' θL' Im' e2 hz e4
     have hE' : Ext (fun x => s.nx ≤ x) s.hp.get w Im θ (updF ups s.hp.get) w' Im' θ' := f1.mono (fun x hx => hx.1)
     have hval : ∀ t, VRel P ω w Im θ (s.tmp t) (a.tmps.getD t undef) → VRel P ω w' Im' θ' (s.tmp t) (a.tmps.getD t undef) := fun t ht => hE'.val sim.sf.hp ht
     refine hA a' w' Im' θ' ⟨hok, ⟨by rw [e1]; exact hsz.symm, fun t ht => ?_, hok.out, ?_, ?_⟩, ?_, .inl ⟨hrd, rfl⟩⟩ ?_ e7
     · have ht' : t < s.size := ht
       rcases htm t with g | ⟨g, g2⟩ | ⟨i, g, v, g2, g3⟩
       · rw [g]; exact .junk
       · rw [g2, e5 t g]; exact hval t (sim.sf.tm t ht')
       · rw [g3]
         have f2' : LRel P ω w' Im' θ' (.int kk c :: renL back outsL) (.int kk c :: (e.outs.map fun t => a'.tmps.getD t undef)) := by
          cases f2 with
          | tup p1 p2 => exact ⟨by simpa using p1, fun i v u hv hu => p2 i v u hv (by simpa using hu)⟩
         exact f2'.at_ (i + 1) v _ (by simpa using g2) (by simp [g])
     · show Mk w' Im' θ' ((s.upd ups nx).hp.get) a'.defers
       rw [hhp, e7]
       exact sim.sf.df.step hE'
     · show HRel P ω w' Im' θ' ((s.upd ups nx).hp.get)
       rw [hhp]; exact f3
     · show Fr nx θ' ((s.upd ups nx).hp.get)
       rw [hhp]
       exact sim.fr.step hle hkeys (mrun_reads _ _ hm) f1
     · show Ext (fun x => s.nx ≤ x) s.hp.get w Im θ ((s.upd ups nx).hp.get) w' Im' θ'
       rw [hhp]; exact hE'
end
section
variable {R D : Type} {fl : R} {den : R → Option D} (hfl : den fl = none) {T : LTab} {rec : Rcr R} (hrec : RcrOkP P Kp T den rec) {κ π : Nat → Option CSumm} (hκ : KOk P κ) (hπ : XOk P π)
include hfl hrec hκ hπ
theorem execPC_ok (hmix : P.follows .mixedOrders = true) (hT : LOkP P Kp T) : RcrOkP P Kp T den (execPC fl P κ π Kp T rec) := by
 intro c
 induction c with
 | skip => intro s k d hs h; exact ⟨.normal, s, hs, comesP_self (fun ρ Q a w hq => wpIn_skip hq), h⟩
 | region id ops draw =>
  intro s k d hs h
  simp only [execPC] at h
  cases draw with
  | true =>
   simp only [cond_true] at h
   cases Kp with
   | cons x l => exact (fl_no hfl h).elim
   | nil =>
    obtain ⟨e, s', hs', hl, hz, hr, h1, hw⟩ := regionD_run hfl hκ hπ hmix (id := id) hs h
    exact ⟨e, s', hs', ⟨hl, hz, hr, 0, fun ω ρ Q a w Im θ sim hA => hw ω ρ Q a w Im θ sim hA⟩, h1⟩
  | false =>
   simp only [cond_false] at h
   obtain ⟨e, s', hs', hl, hz, hr, h1, hw⟩ := opsP_run hfl hκ hπ ops.toList 0 s (by simp) hs h
   refine ⟨e, s', hs', ⟨hl, hz, hr, 0, fun ω ρ Q a w Im θ sim hA => ?_⟩, h1⟩
   show (Code.region id ops false).wpIn (FR ρ) 0 P Q a w
   refine wpIn_region ?_
   have := hw ω ρ Q a w Im θ sim hA
   simpa [List.range_eq_range'] using this
 | seq x y ihx ihy =>
  intro s k d hs h
  simp only [execPC] at h
  obtain ⟨e, s1, hs1, hc1, h1⟩ := ihx s _ d hs h
  cases e with
  | normal =>
   simp only [] at h1
   obtain ⟨e2, s2, hs2, hc2, h2⟩ := ihy s1 k d hs1 h1
   refine ⟨e2, s2, hs2, ⟨hc1.later.trans hc2.later, by rw [hc2.size, hc1.size], by rw [hc2.rd, hc1.rd], 0, fun ω ρ Q a w Im θ sim hA => ?_⟩, h2⟩
   refine wpIn_seq (hc1.wp ρ _ a w Im θ sim (fun a' w' Im' θ' sim' hE hN => ?_))
   exact hc2.wp ρ Q a' w' Im' θ' sim' (AfterP.trans hc1.later hE hN hA)
  | exit id =>
   exact ⟨.exit id, s1, hs1, ⟨hc1.later, hc1.size, hc1.rd, 0, fun ω ρ Q a w Im θ sim hA => wpIn_seq (hc1.wp ρ _ a w Im θ sim (fun a' w' Im' θ' sim' hE hN => PQ_then (by simp [exitOf]) (hA a' w' Im' θ' sim' hE hN)))⟩, h1⟩
  | ret =>
   exact ⟨.ret, s1, hs1, ⟨hc1.later, hc1.size, hc1.rd, 0, fun ω ρ Q a w Im θ sim hA => wpIn_seq (hc1.wp ρ _ a w Im θ sim (fun a' w' Im' θ' sim' hE hN => hA a' w' Im' θ' sim' hE hN))⟩, h1⟩
 | cond c x y ihx ihy =>
  intro s k d hs h
  simp only [execPC] at h
  split at h
  · rename_i b hb
    have hev : ∀ {ω : Nat → Value} {ρ : Option Nat} {a : Act} {w : World} {Im : Nat → Prop} {θ : Th}, Sim P ω ρ s a w Im θ → a.eval c = .bool b := by
     intro ω ρ a w Im θ sim
     have := sim.sf.eval c
     rw [← evT_ev, hb] at this
     generalize a.eval c = u at this
     cases this
     rfl
    cases b with
    | true =>
     obtain ⟨e, s1, hs1, hc1, h1⟩ := ihx s k d hs h
     exact ⟨e, s1, hs1, ⟨hc1.later, hc1.size, hc1.rd, 0, fun ω ρ Q a w Im θ sim hA => wpIn_cond_true (hev sim) (hc1.wp ρ Q a w Im θ sim hA)⟩, h1⟩
    | false =>
     obtain ⟨e, s1, hs1, hc1, h1⟩ := ihy s k d hs h
     exact ⟨e, s1, hs1, ⟨hc1.later, hc1.size, hc1.rd, 0, fun ω ρ Q a w Im θ sim hA => wpIn_cond_false (hev sim) (hc1.wp ρ Q a w Im θ sim hA)⟩, h1⟩
  · exact (fl_no hfl h).elim
 | block id c ih =>
  intro s k d hs h
  simp only [execPC] at h
  cases hid : Nat.blt id panId with
  | false => rw [hid] at h; exact (fl_no hfl h).elim
  | true =>
  rw [hid] at h
  simp only [cond_true] at h
  have hlt : id < panId := by rwa [Nat.blt_eq] at hid
  obtain ⟨e, s1, hs1, hc1, h1⟩ := ih s _ d hs h
  cases e with
  | normal => exact ⟨.normal, s1, hs1, ⟨hc1.later, hc1.size, hc1.rd, 0, fun ω ρ Q a w Im θ sim hA => wpIn_block (hc1.wp ρ _ a w Im θ sim hA)⟩, h1⟩
  | ret => exact ⟨.ret, s1, hs1, ⟨hc1.later, hc1.size, hc1.rd, 0, fun ω ρ Q a w Im θ sim hA => wpIn_block (hc1.wp ρ _ a w Im θ sim hA)⟩, h1⟩
  | exit j =>
   simp only [] at h1
   cases hj : Nat.beq j id with
   | true =>
    rw [hj] at h1
    have hji : j = id := Nat.eq_of_beq_eq_true hj
    subst hji
    refine ⟨.normal, s1, hs1, ⟨hc1.later, hc1.size, hc1.rd, 0, fun ω ρ Q a w Im θ sim hA => wpIn_block (hc1.wp ρ _ a w Im θ sim (fun a' w' Im' θ' sim' hE hN => ?_))⟩, h1⟩
    simp only [exitOf]
    rw [PQ_low hlt]
    simp only [Exit.inBlock, if_true]
    exact hA a' w' Im' θ' sim' hE hN
   | false =>
    rw [hj] at h1
    have hji : ¬ j = id := fun e => by rw [nb_t e] at hj; cases hj
    refine ⟨.exit j, s1, hs1, ⟨hc1.later, hc1.size, hc1.rd, 0, fun ω ρ Q a w Im θ sim hA => wpIn_block (hc1.wp ρ _ a w Im θ sim (fun a' w' Im' θ' sim' hE hN => ?_))⟩, h1⟩
    have hq := hA a' w' Im' θ' sim' hE hN
    simp only [exitOf, PQ] at hq ⊢
    split
    · rename_i hp; rw [if_pos hp] at hq; exact hq
    · rename_i hp
      rw [if_neg hp] at hq
      simp only [Exit.inBlock, if_neg hji]
      exact hq
 | loop c ih =>
  intro s k d hs h
  simp only [execPC] at h
  obtain ⟨e, s1, hs1, hc1, h1⟩ := ih s _ d hs h
  cases e with
  | normal =>
   simp only [] at h1
   obtain ⟨e2, s2, hs2, hc2, h2⟩ := hrec (.loop c) s1 k d hs1 h1
   obtain ⟨m, hm⟩ := hc2.wps
   refine ⟨e2, s2, hs2, ⟨hc1.later.trans hc2.later, by rw [hc2.size, hc1.size], by rw [hc2.rd, hc1.rd], m + 1, fun ω ρ Q a w Im θ sim hA => ?_⟩, h2⟩
   show Code.roundsIn (FR ρ) 0 P (fillC T c) Q (m + 1) a w
   rw [roundsIn_succ]
   refine hc1.wp ρ _ a w Im θ sim (fun a' w' Im' θ' sim' hE hN => ?_)
   exact hm ω ρ Q a' w' Im' θ' sim' (AfterP.trans hc1.later hE hN hA)
  | exit id =>
   refine ⟨.exit id, s1, hs1, ⟨hc1.later, hc1.size, hc1.rd, 1, fun ω ρ Q a w Im θ sim hA => ?_⟩, h1⟩
   show Code.roundsIn (FR ρ) 0 P (fillC T c) Q 1 a w
   rw [roundsIn_succ]
   exact hc1.wp ρ _ a w Im θ sim (fun a' w' Im' θ' sim' hE hN => PQ_then (by simp [exitOf]) (hA a' w' Im' θ' sim' hE hN))
  | ret =>
   refine ⟨.ret, s1, hs1, ⟨hc1.later, hc1.size, hc1.rd, 1, fun ω ρ Q a w Im θ sim hA => ?_⟩, h1⟩
   show Code.roundsIn (FR ρ) 0 P (fillC T c) Q 1 a w
   rw [roundsIn_succ]
   exact hc1.wp ρ _ a w Im θ sim (fun a' w' Im' θ' sim' hE hN => hA a' w' Im' θ' sim' hE hN)
 | exit id =>
  intro s k d hs h
  simp only [execPC] at h
  cases hid : Nat.blt id panId with
  | false => rw [hid] at h; exact (fl_no hfl h).elim
  | true =>
   rw [hid] at h
   have hlt : id < panId := by rwa [Nat.blt_eq] at hid
   exact ⟨.exit id, s, hs, comesP_self (fun ρ Q a w hq => wpIn_exit (by simp only [exitOf] at hq; rwa [PQ_low hlt] at hq)), h⟩
 | label l => intro s k d hs h; exact (fl_no hfl h).elim
 | ret => intro s k d hs h; exact ⟨.ret, s, hs, comesP_self (fun ρ Q a w hq => wpIn_ret hq), h⟩
 | rangeFunc f ps x y _ _ => intro s k d hs h; exact (fl_no hfl h).elim
 | scope c ih => intro s k d hs h; exact (fl_no hfl h).elim
 | goto l => intro s k d hs h; exact (fl_no hfl h).elim
 | refuse w =>
  intro s k d hs h
  simp only [execPC] at h
  cases hw : T w with
  | none => rw [hw] at h; exact (fl_no hfl h).elim
  | some e =>
   rw [hw] at h
   have hf : fillC T (.refuse w) = .loop e.code := by simp only [fillC, hw]
   rw [hf]
   exact loopP_run hfl (hT w e hw) hs h
end
theorem execP_ok {R D : Type} {fl : R} {den : R → Option D} (hfl : den fl = none) {T : LTab} {κ π : Nat → Option CSumm} (hκ : KOk P κ) (hπ : XOk P π) (hmix : P.follows .mixedOrders = true) (hT : LOkP P Kp T) : ∀ n, RcrOkP P Kp T den (execP fl P κ π Kp T n)
 | 0 => fun c s k d hs h => (fl_no hfl h).elim
 | n + 1 => execPC_ok hfl (execP_ok hfl hκ hπ hmix hT n) hκ hπ hmix hT
def loopOnceP (P : Program) (κ π : Nat → Option CSumm) (Kp : List Nat) (T : LTab) (fuel : Nat) (e e' : LEnt) (c : Code) (args : List SV) (H : HpL) : CTree :=
 bif canonB H 0 && closedB H.length H && Nat.beq args.length e.ins.length && Nat.blt e.size 16000 && Nat.blt H.length 1000000 && lowB e.size e.ins && lowB e.size e.keep && lowB e.size e.outs && noOpqL args && noOpqH H && lowB H.length (namesL args) then
  execP .fail P κ π Kp T fuel c (loopSt false e args H) (fun ex s => match ex with
   | .normal => loopK .fail e' s (finishL e)
   | ex => finishL e ex s)
 else .fail
theorem loopP_valid {κ π : Nat → Option CSumm} {T : LTab} {fuel : Nat} {e : LEnt} {c : Code} {μ : List SV → HpL → Nat} (hκ : KOk P κ) (hπ : XOk P π) (hmix : P.follows .mixedOrders = true) (hT : LOkP P Kp T) (hfill : fillC T c = e.code)
  (hstep : ∀ n args H r, Nat.blt (μ args H) (n + 1) = true → crun (e.s args H) = some r → crun (loopOnceP P κ π Kp T fuel e { e with s := boundT μ e.s n } c args H) = some r) : ValidLP P Kp e := by
 have key : ∀ n, ValidLP P Kp { e with s := boundT μ e.s n } := by
  intro n
  induction n with
  | zero =>
   intro args H k c outs ups hrun
   have : Nat.blt (μ args H) 0 = false := by
    cases h : Nat.blt (μ args H) 0 with
    | false => rfl
    | true => rw [Nat.blt_eq] at h; omega
   simp [boundT, this, crun] at hrun
  | succ n ih =>
   intro args H k c0 outs ups hrun hcanon hol hal
   have hb : Nat.blt (μ args H) (n + 1) = true := by
    cases h : Nat.blt (μ args H) (n + 1) with
    | true => rfl
    | false => simp [boundT, h, crun] at hrun
   have hrun' : crun (e.s args H) = some (.tup (.int k c0 :: outs), ups) := by simpa [boundT, hb, crun] using hrun
   have hl := hstep n args H _ hb hrun'
   unfold loopOnceP at hl
   cases hc : canonB H 0 && closedB H.length H && Nat.beq args.length e.ins.length && Nat.blt e.size 16000 && Nat.blt H.length 1000000 && lowB e.size e.ins && lowB e.size e.keep && lowB e.size e.outs && noOpqL args && noOpqH H && lowB H.length (namesL args) with
   | false => rw [hc] at hl; simp [crun] at hl
   | true =>
    rw [hc] at hl
    simp only [cond_true] at hl
    simp only [Bool.and_eq_true] at hc
    obtain ⟨⟨⟨⟨⟨⟨⟨⟨⟨⟨c1, c2⟩, c3⟩, c4⟩, c5⟩, c6⟩, c7⟩, c8⟩, c9⟩, c10⟩, c11⟩ := hc
    have hsz : e.size < 16000 := by rwa [Nat.blt_eq] at c4
    have hHl : H.length < 1000000 := by rwa [Nat.blt_eq] at c5
    have hins := lowB_spec _ c6
    have hkeep := lowB_spec _ c7
    have houts := lowB_spec _ c8
    have hhp : (loopSt false e args H).hp.get = H.get := heapTr_init c1 (by omega)
    have htm : ∀ j, ((loopSt false e args H).tmp j = .junk) ∨ (j ∈ e.keep ∧ (loopSt false e args H).tmp j = .opq j) ∨ ∃ i : Nat, e.ins[i]? = some j ∧ ∃ v, args[i]? = some v ∧ (loopSt false e args H).tmp j = v := by
     intro j
     have hk16 : ∀ x ∈ e.keep, x < 16000 := fun x hx => by have := hkeep x hx; omega
     have hi16 : ∀ x ∈ e.ins, x < 16000 := fun x hx => by have := hins x hx; omega
     have he : (loopSt false e args H).tmp j = match (setPs e.ins args (keepI e.keep .lf)).get j with
      | some v => v
      | none => .junk := rfl
     rcases setPs_at e.ins args (keepI e.keep .lf) j hi16 with ⟨g1, -⟩ | ⟨i, g1, v, g2, g3⟩
     · rw [he, g1, keepI_get _ _ _ hk16]
       by_cases hj : j ∈ e.keep
       · simp [hj]
       · simp [hj, Tr.get_lf]
     · exact .inr (.inr ⟨i, g1, v, g2, by rw [he, g3]⟩)
    have hs0 : StOk (loopSt false e args H) := by
     refine ⟨hsz, hHl, fun t ht => ?_, ?_, Nat.le_refl _⟩
     · have ht' : e.size ≤ t := ht
       rcases htm t with g | ⟨g, _⟩ | ⟨i, g, _⟩
       · exact g
       · have := hkeep t g; omega
       · have := hins t (List.mem_of_getElem? g); omega
     · intro x c hx
       rw [hhp] at hx
       exact canon_lt c1 hx
    obtain ⟨ex1, s1, hs1, hc1, hk1⟩ := execP_ok (den := crun) rfl hκ hπ hmix hT fuel c _ _ _ hs0 hl
    rw [hfill] at hc1
    have hall : ∃ ex sF, StOk sF ∧ ComesP P Kp (.loop e.code) (loopSt false e args H) ex sF ∧ crun (finishL e ex sF) = some (.tup (.int k c0 :: outs), ups) := by
     cases ex1 with
     | normal =>
      simp only [] at hk1
      obtain ⟨ex2, s2, hs2, hc2, hk2⟩ := loopP_run (den := crun) rfl ih hs1 hk1
      obtain ⟨m, hm⟩ := hc2.wps
      refine ⟨ex2, s2, hs2, ⟨hc1.later.trans hc2.later, by rw [hc2.size, hc1.size], by rw [hc2.rd, hc1.rd], m + 1, fun ω ρ Q a w Im θ sim hA => ?_⟩, hk2⟩
      show Code.roundsIn (FR ρ) 0 P e.code Q (m + 1) a w
      rw [roundsIn_succ]
      refine hc1.wp ρ _ a w Im θ sim (fun a' w' Im' θ' sim' hE hN => ?_)
      exact hm ω ρ Q a' w' Im' θ' sim' (AfterP.trans hc1.later hE hN hA)
     | exit id =>
      refine ⟨.exit id, s1, hs1, ⟨hc1.later, hc1.size, hc1.rd, 1, fun ω ρ Q a w Im θ sim hA => ?_⟩, hk1⟩
      show Code.roundsIn (FR ρ) 0 P e.code Q 1 a w
      rw [roundsIn_succ]
      exact hc1.wp ρ _ a w Im θ sim (fun a' w' Im' θ' sim' hE hN => PQ_then (by simp [exitOf]) (hA a' w' Im' θ' sim' hE hN))
     | ret =>
      refine ⟨.ret, s1, hs1, ⟨hc1.later, hc1.size, hc1.rd, 1, fun ω ρ Q a w Im θ sim hA => ?_⟩, hk1⟩
      show Code.roundsIn (FR ρ) 0 P e.code Q 1 a w
      rw [roundsIn_succ]
      exact hc1.wp ρ _ a w Im θ sim (fun a' w' Im' θ' sim' hE hN => PQ_then (by simp [exitOf]) (hA a' w' Im' θ' sim' hE hN))
    obtain ⟨ex, sF, hsF, hC, hfin⟩ := hall
    obtain ⟨f1, f2, f3, rfl, ns, hre, rfl, rfl⟩ := finishL_inv hfin
    obtain ⟨m, hm⟩ := hC.wps
    refine ⟨m, fun ω θ Im w a Q hsize hargs hH hfr hMk hpost => ?_⟩
    have hmF : sF.m = H.length := hC.later.m
    have hsF2 : sF.size = e.size := hC.size
    have sim0 : Sim P (fun t => a.tmps.getD t undef) none (loopSt false e args H) a w Im θ := by
     refine ⟨hs0, ⟨hsize, fun t ht => ?_, hs0.out, by rw [hhp]; exact hMk, by rw [hhp]; exact hH.om (fun x c hx => noOpqH_at c10 hx)⟩, ?_, .inl ⟨rfl, rfl⟩⟩
     · rcases htm t with g | ⟨g, g2⟩ | ⟨i, g, v, g2, g3⟩
       · rw [g]; exact .junk
       · rw [g2]; exact .opq
       · rw [g3]
         exact (hargs.at_ i v _ g2 (by simp [g])).om (noOpqL_at c9 g2)
     · intro x hx
       have hx' : H.length ≤ x := hx
       refine ⟨hfr x hx', ?_⟩
       rw [hhp]
       cases hg : H.get x with
       | none => rfl
       | some c => have := canon_lt c1 hg; omega
    refine hm (fun t => a.tmps.getD t undef) none Q a w Im θ sim0 (fun a' w' Im' θ' sim' hE hN => ?_)
    have hsame : ∀ x, x < H.length → sF.hp.get x = H.get x ∨ x ∈ sF.dirty := by
     intro x hx
     have := hC.later.same x hx
     rwa [hhp] at this
    have hdl : ∀ x ∈ sF.dirty, x < H.length := by
     intro x hx
     rcases hC.later.low x hx with h | h
     · cases h
     · exact h
    have hext : Ext (fun x => H.length ≤ x) H.get w Im θ sF.hp.get w' Im' θ' := by
     rw [← hhp]; exact hE
    have hz : VRel P (fun t => a.tmps.getD t undef) w' Im' θ' (.tup (.int .i64 (codeEx ex) :: e.outs.map sF.tmp)) (.tuple (.int .i64 (codeEx ex) :: (e.outs.map fun t => a'.tmps.getD t undef)).toArray) := by
     have hl := lrel_map (P := P) (ω := fun t => a.tmps.getD t undef) (w := w') (Im := Im') (θ := θ') (f := sF.tmp) (g := fun t => a'.tmps.getD t undef) (l := e.outs) (fun t ht => sim'.sf.tm t (by rw [hsF2]; exact houts t ht))
     refine .tup (by simp) (fun i v u hv hu => ?_)
     cases i with
     | zero => simp at hv hu; subst hv; subst hu; exact .int
     | succ i => exact hl.at_ i v u (by simpa using hv) (by simpa using hu)
    obtain ⟨θ3, g1, g2, g3, g4⟩ := finish_gen c1 c2 hfr hmF hsame hdl hre sim'.sf.hp hext hz
    rw [← hmF] at g1 g2 g3 g4
    have g2' : LRel P (fun t => a.tmps.getD t undef) w' Im' θ3 (renL (outName ns sF.m) (e.outs.map sF.tmp)) (e.outs.map fun t => a'.tmps.getD t undef) := by
     simp only [renS, renL] at g2
     cases g2 with
     | tup p1 p2 => exact ⟨by rw [renL_eq]; simp, fun i v u hv hu => p2 (i + 1) v u (by simpa using hv) (by simpa using hu)⟩
    rw [← hmF] at hpost
    have := hpost a' w' Im' θ3 (by rw [sim'.sf.size]; exact hsF2) g1 (g2'.om (by rw [noOpqL_ren]; exact f2)) (g3.om (noOpqU_at f3 (fun x c hx => noOpqH_at c10 hx))) (fun t ht => ?_) hN
    · rw [exOf_code] at this; exact this
    · have h1 := sim'.sf.tm t (by rw [hsF2]; exact hkeep t ht)
      rw [f1 t ht] at h1
      generalize a'.tmps.getD t undef = z at h1
      cases h1
      rfl
 intro args H k c0 outs ups hrun hcanon hol hal
 refine key (μ args H + 1) args H k c0 outs ups ?_ hcanon hol hal
 have : Nat.blt (μ args H) (μ args H + 1) = true := by rw [Nat.blt_eq]; omega
 simp only [boundT, crun, this, if_true]
 exact hrun
end Go.Am
/- The abstract machine: a body that may raise; a function that recovers what is raised. -/
namespace Go.Am
variable {P : Program} {ω : Nat → Value}
def finishP (P : Program) (f : Func) (ex : Ex) (s : St) : CTree :=
 match ex with
 | .exit j => bif Nat.ble panId j && Nat.blt (j - panId) s.size then finishV (.tup [.bool false, s.tmp (j - panId)]) s else .fail
 | _ => match resultsS P s f.results.toList with
  | some vs => finishV (.tup [.bool true, oneOrTup vs]) s
  | none => .fail
def bodyX (P : Program) (κ π : Nat → Option CSumm) (T : LTab) (fuel : Nat) (f : Func) (c : Code) (args : List SV) (H : HpL) : CTree :=
 bif canonB H 0 && closedB H.length H && Nat.ble args.length f.ntmps && Nat.blt f.ntmps 16000 && Nat.blt H.length 1000000 then
  execP .fail P κ π [] T fuel c (initSt false f args H) (finishP P f)
 else .fail
theorem finishV_inv {vv : SV} {s : St} {r : SV} {ups : List (Nat × Option Chunk)} (h : crun (finishV vv s) = some (r, ups)) :
  ∃ ns, reachNew s.hp s.m 2000 (namesS vv ++ dirtyNames s.hp s.dirty) [] = some ns ∧ r = renS (outName ns s.m) vv ∧ ups = outOld s.hp (outName ns s.m) s.dirty ++ outNew s.hp (outName ns s.m) ns := by
 unfold finishV at h
 cases hre : reachNew s.hp s.m 2000 (namesS vv ++ dirtyNames s.hp s.dirty) [] with
 | none => rw [hre] at h; simp [crun] at h
 | some ns =>
  rw [hre] at h
  simp only [crun, Option.some.injEq, Prod.mk.injEq] at h
  exact ⟨ns, rfl, h.1.symm, h.2.symm⟩
theorem bodyX_valid {κ π : Nat → Option CSumm} (hκ : KOk P κ) (hπ : XOk P π) (hmix : P.follows .mixedOrders = true) {T : LTab} (hT : LOkP P [] T) {f : FuncId} {fn : Func} (hf : P.funcs[f]? = some fn) {c : Code} (hb : fn.body = some (fillC T c)) {fuel : Nat} : ValidX P f (bodyX P κ π T fuel fn c) := by
 intro args H b v ups hrun _ ω θ Im w us hargs hH hfr
 unfold bodyX at hrun
 cases hc : canonB H 0 && closedB H.length H && Nat.ble args.length fn.ntmps && Nat.blt fn.ntmps 16000 && Nat.blt H.length 1000000 with
 | false => rw [hc] at hrun; simp [crun] at hrun
 | true =>
  rw [hc] at hrun
  simp only [cond_true] at hrun
  simp only [Bool.and_eq_true] at hc
  obtain ⟨⟨⟨⟨c1, c2⟩, c3⟩, c4⟩, c5⟩ := hc
  have hal : args.length ≤ fn.ntmps := by rwa [Nat.ble_eq] at c3
  have hnt : fn.ntmps < 16000 := by rwa [Nat.blt_eq] at c4
  have hHl : H.length < 1000000 := by rwa [Nat.blt_eq] at c5
  have hhp : (initSt false fn args H).hp.get = H.get := heapTr_init c1 (by omega)
  have hs0 : StOk { initSt false fn args H with tm := .lf, size := 0 } := by
   refine ⟨by show 0 < 16000; omega, hHl, fun t _ => rfl, ?_, Nat.le_refl _⟩
   intro x c hx
   have hx' : (initSt false fn args H).hp.get x = some c := hx
   rw [hhp] at hx'
   exact canon_lt c1 hx'
  have hst : StOk (initSt false fn args H) := enter_ok hs0 hal hnt
  obtain ⟨e, s2, hs2, hcomes, hfin⟩ := execP_ok (den := crun) rfl hκ hπ hmix hT fuel c _ _ _ hst hrun
  have hm2 : s2.m = H.length := hcomes.later.m
  have hfr0 : Fr (initSt false fn args H).nx θ (initSt false fn args H).hp.get := by
   intro x hx
   have hx' : H.length ≤ x := hx
   refine ⟨hfr x hx', ?_⟩
   rw [hhp]
   cases hg : H.get x with
   | none => rfl
   | some c => have := canon_lt c1 hg; omega
  have sim0 := enter_sim (P := P) hs0 (args := args) (us := us) hal hnt (w := w) (Im := Im) (θ := θ) (by show HRel P ω w Im θ (initSt false fn args H).hp.get; rw [hhp]; exact hH) hfr0 hargs
  have hsame : ∀ x, x < H.length → s2.hp.get x = H.get x ∨ x ∈ s2.dirty := by
   intro x hx
   have := hcomes.later.same x hx
   rwa [hhp] at this
  have hdl : ∀ x ∈ s2.dirty, x < H.length := by
   intro x hx
   rcases hcomes.later.low x hx with h | h
   · cases h
   · exact h
  -- what is told at the end
  have tell : ∀ (v0 : SV), crun (finishV (.tup [.bool b, v0]) s2) = some (.tup [.bool b, v], ups) → ∀ u w' Im' θ', HRel P ω w' Im' θ' s2.hp.get → Ext (fun x => (initSt false fn args H).nx ≤ x) (initSt false fn args H).hp.get w Im θ s2.hp.get w' Im' θ' → VRel P ω w' Im' θ' v0 u →
    ∃ u' θ3 Im3, endX b u = endX b u' ∧ Ext (fun x => H.length ≤ x) H.get w Im θ (updF ups H.get) w' Im3 θ3 ∧ VRel P ω w' Im3 θ3 v u' ∧ HRel P ω w' Im3 θ3 (updF ups H.get) := by
   intro v0 hv0 u w' Im' θ' hH2 hE hvu
   obtain ⟨ns, hre, hr, hu⟩ := finishV_inv hv0
   have hext : Ext (fun x => H.length ≤ x) H.get w Im θ s2.hp.get w' Im' θ' := by
    rw [← hhp]; exact hE
   have hz : VRel P ω w' Im' θ' (.tup [.bool b, v0]) (.tuple #[.bool b, u]) := by
    refine .tup (by simp) (fun i v u hv hu => ?_)
    match i with
    | 0 => simp at hv hu; subst hv; subst hu; exact .bool
    | 1 => simp at hv hu; subst hv; subst hu; exact hvu
    | i + 2 => simp at hv
   obtain ⟨θ3, g1, g2, g3, -⟩ := finish_gen c1 c2 hfr hm2 hsame hdl hre hH2 hext hz
   rw [← hm2] at g1 g2 g3
   rw [← hr] at g2
   rw [hm2] at hu
   rw [hm2, ← hu] at g1 g3
   refine ⟨u, θ3, Im', rfl, g1, ?_, g3⟩
   cases g2 with
   | tup p1 p2 => exact p2 1 _ _ rfl rfl
  refine (callsIn_wide (n := 0)).1 ?_
  show CallsIn (FR none) 0 P f us.toArray w _
  refine callsIn_of_wp hf hb trivial ?_ rfl
  refine hcomes.wp none _ _ w Im θ sim0 (fun a' w' Im' θ' sim' hE hN => ?_)
  have hfinish : ∀ (bb : Bool) (v0 : SV), crun (finishV (.tup [.bool bb, v0]) s2) = some (.tup [.bool b, v], ups) → bb = b := by
   intro bb v0 h
   obtain ⟨ns, -, hr, -⟩ := finishV_inv h
   simp only [renS, renL, SV.tup.injEq, List.cons.injEq, SV.bool.injEq] at hr
   exact hr.1.symm
  cases e with
  | exit j =>
   simp only [finishP] at hfin
   cases hj : Nat.ble panId j && Nat.blt (j - panId) s2.size with
   | false => rw [hj] at hfin; simp [crun] at hfin
   | true =>
    rw [hj] at hfin
    simp only [cond_true] at hfin
    simp only [Bool.and_eq_true] at hj
    have h1 : panId ≤ j := by have := hj.1; rwa [Nat.ble_eq] at this
    have h2 : j - panId < s2.size := by have := hj.2; rwa [Nat.blt_eq] at this
    obtain rfl := hfinish false _ hfin
    simp only [exitOf, PQ, if_pos h1]
    intro a2 hd2 _ _
    refine ⟨by rw [hd2, hN], ?_⟩
    exact tell _ hfin _ w' Im' θ' sim'.sf.hp hE (sim'.sf.tm _ h2)
  | normal =>
   simp only [finishP] at hfin
   cases hrs : resultsS P s2 fn.results.toList with
   | none => rw [hrs] at hfin; simp [crun] at hfin
   | some vs =>
    rw [hrs] at hfin
    simp only [] at hfin
    obtain rfl := hfinish true _ hfin
    obtain ⟨u, hu1, hu2⟩ := run_results (f := fn) sim'.sf hrs
    exact ⟨hN, u, hu1, tell _ hfin u w' Im' θ' sim'.sf.hp hE hu2⟩
  | ret =>
   simp only [finishP] at hfin
   cases hrs : resultsS P s2 fn.results.toList with
   | none => rw [hrs] at hfin; simp [crun] at hfin
   | some vs =>
    rw [hrs] at hfin
    simp only [] at hfin
    obtain rfl := hfinish true _ hfin
    obtain ⟨u, hu1, hu2⟩ := run_results (f := fn) sim'.sf hrs
    exact ⟨hN, u, hu1, tell _ hfin u w' Im' θ' sim'.sf.hp hE hu2⟩
theorem knownX_of_body (hn : noNum P) (hmix : P.follows .mixedOrders = true) {κ π : Nat → Option CSumm} (hκ : KOk P κ) (hπ : XOk P π) {T : LTab} (hT : LOkP P [] T) {f : FuncId} {fn : Func} (hf : P.funcs[f]? = some fn) {c : Code} (hb : fn.body = some (fillC T c)) {fuel : Nat} {s : CSumm}
  (hs : ∀ args H v ups, crun (s args H) = some (v, ups) → crun (bodyX P κ π T fuel fn c args H) = some (v, ups)) : KnownX P f s :=
 ⟨⟨fn, hf, noNum_at hn hf, by rw [hb]; rfl⟩, fun args H b v ups hr => bodyX_valid hκ hπ hmix hT hf hb args H b v ups (hs args H _ ups hr)⟩
where go : CTree → CTree
 | .ret v ups => .ret (.tup [.bool true, v]) ups
 | .ite b t e => .ite b (go t) (go e)
 | .fail => .fail
theorem fill_none : ∀ (c : Code), fillC (ltab []) c = c
 | .seq a b => by simp only [fillC, fill_none a, fill_none b]
 | .cond _ a b => by simp only [fillC, fill_none a, fill_none b]
 | .block _ c => by simp only [fillC, fill_none c]
 | .loop c => by simp only [fillC, fill_none c]
 | .scope c => by simp only [fillC, fill_none c]
 | .refuse w => by simp only [fillC, ltab]
 | .skip => rfl
 | .region _ _ _ => rfl
 | .exit _ => rfl
 | .label _ => rfl
 | .goto _ => rfl
 | .ret => rfl
 | .rangeFunc _ _ _ _ => rfl
theorem lokp_nil {Kp : List Nat} : LOkP P Kp (ltab []) := fun w e h => by cases h
theorem lokp_cons {Kp : List Nat} {w : String} {e : LEnt} {l : List (String × LEnt)} (h : ValidLP P Kp e) (hl : LOkP P Kp (ltab l)) : LOkP P Kp (ltab ((w, e) :: l)) := by
 intro x e' hx
 simp only [ltab] at hx
 split at hx
 · cases hx; exact h
 · exact hl x e' hx
variable {Kp : List Nat}
inductive EndB (Kp : List Nat) (sB : St) : Ex → SV → St → Prop
 | norm : EndB Kp sB .normal .nili sB
 | ret : EndB Kp sB .ret .nili sB
 | pan {t : Nat} (ht : t < sB.size) (hk : lowB sB.size Kp = true) : EndB Kp sB (.exit (panId + t)) (sB.tmp t) { sB with tm := keepT Kp sB .lf }
theorem defer_callsX {f g : FuncId} {fn fg : Func} {c0 rest crest : Code} {d v1 v2 : Nat} {caps : List Operand} (hf : P.funcs[f]? = some fn) (hD : Dfr P fn c0 rest d g caps) (hC : Clo P g fg crest v1 v2)
  {s0 sA sB sD : St} {eB eD : Ex} {x : SV} {sK : St} (hend : EndB Kp sB eB x sK) (heD : ∀ id, eD ≠ .exit id) (hsB : StOk sB) (hsD : StOk sD)
  (hcA : Comes0 P c0 s0 .normal sA) (hdA : d < sA.size) (hcl : caps.length ≤ fg.ntmps) (hcB : ComesP P Kp rest (sA.put (some d) (.fn (.func g) [] (caps.map sA.ev))) eB sB)
  (hcD : Comes0 P crest (cloSt sB fg.ntmps v1 v2 (caps.map sA.ev) x) eD sD) {vsg : List SV} (hres : resultsS P sD fg.results.toList = some vsg)
  {us : List Value} {w : World} {Im : Nat → Prop} {θ : Th} (sim : Sim P ω none s0 { tmps := us.toArray ++ Array.replicate (fn.ntmps - us.toArray.size) undef, defers := [] } w Im θ)
  {vs : List SV} (hvs : resultsS P { sD with tm := sK.tm, size := sK.size, rd := sK.rd } fn.results.toList = some vs) {R : Ending → World → Prop}
  (hR : ∀ u w' Im' θ', HRel P ω w' Im' θ' sD.hp.get → Fr sD.nx θ' sD.hp.get → Ext (fun x => s0.nx ≤ x) s0.hp.get w Im θ sD.hp.get w' Im' θ' → VRel P ω w' Im' θ' (oneOrTup vs) u → R (.returned u) w') : CallsIn (FR none) 0 P f us.toArray w R := by
 obtain ⟨id, o0, o1, c, hb, h1, h2, h3, h4, h4a, h4b, h5, h6⟩ := hD.body
 refine callsIn_of_wp_defers hf hb trivial ?_ rfl
 refine wpIn_seq (hcA.wp ω none _ _ w Im θ sim (fun a1 w1 Im1 θ1 sim1 hE1 hN1 => ?_))
 show (Code.seq (.region id #[o0, o1] false) rest).wpIn (FR none) 0 P _ a1 w1
 refine wpIn_seq ?_
 refine wpIn_region ?_
 show wpOpsIn (FR none) 0 P #[o0, o1] _ [0, 1] a1 w1
 have r0 : ∀ ρ : Operand → Value, (o0.semAt none ρ).run P w1 = .ok (.value (.func (.func g) #[] (caps.toArray.map ρ))) w1 := by
  intro ρ
  refine semAt_value ?_
  obtain ⟨dst, op, type, pos, after, guard⟩ := o0
  simp only at h1
  subst h1
  simp [execOp, Instr.makeFunc]
 have hdA1 : d < a1.tmps.size := by rw [sim1.sf.size]; exact hdA
 have hev : ∀ v, (a1.put (some d) v).eval (.tmp d) = v := by
  intro v
  simp [Act.put, Act.eval, Array.getD, hdA1]
 have r1 : ∀ ρ : Operand → Value, ρ (.tmp d) = .func (.func g) #[] (caps.toArray.map a1.eval) → (o1.semAt none ρ).run P w1 = .ok (.defer { target := .fn (.func g) (caps.toArray.map a1.eval), args := #[] }) w1 := by
  intro ρ hρ
  rw [Oper.semAt_none]
  obtain ⟨dst, op, type, pos, after, guard⟩ := o1
  obtain ⟨callee, cargs, at'⟩ := c
  simp only at h4 h4a h4b
  subst h4; subst h4a; subst h4b
  simp [execOp, resolve, hρ, Deferred.ofValue]
 have simA := put_sim (P := P) sim1 (dst := some d) hdA (r := .fn (.func g) [] (caps.map sA.ev)) (v := .func (.func g) #[] (caps.toArray.map a1.eval))
  (.fn rfl (by simp) (fun i v u hv hu => by simp at hv) (fun i v u hv hu => (caps_rel sim1 caps).at_ i v u hv (by rw [← hu]; simp)))
 generalize hcv : caps.toArray.map a1.eval = cv at r0 r1 simA
 have hcl1 : LRel P ω w1 Im1 θ1 (caps.map sA.ev) cv.toList := by rw [← hcv]; simpa using caps_rel sim1 caps
 have hd1 : a1.defers = [] := hN1
 -- the frame behind the region
 have simA2 : Sim P ω none (sA.put (some d) (.fn (.func g) [] (caps.map sA.ev))) { a1.put (some d) (.func (.func g) #[] cv) with defers := [{ target := .fn (.func g) cv, args := #[] }] } w1 Im1 θ1 :=
  ⟨simA.ok, ⟨simA.sf.size, simA.sf.tm, simA.sf.out, ⟨[], [{ target := .fn (.func g) cv, args := #[] }], rfl, fun e he r => by
   rw [List.mem_singleton] at he
   subst he
   intro hh
   simp at hh, List.nodup_nil, fun r hr => by cases hr⟩, simA.sf.hp⟩, simA.fr, simA.rd⟩
 have goal2 : rest.wpIn (FR none) 0 P (bodyPostDIn (FR none) 0 P fn R) { a1.put (some d) (.func (.func g) #[] cv) with defers := [{ target := .fn (.func g) cv, args := #[] }] } w1 := by
  refine hcB.wp none _ _ w1 Im1 θ1 simA2 (fun aB wB ImB θB simB hEB hNB => ?_)
  have hEB' : Ext (fun x => sA.nx ≤ x) sA.hp.get w1 Im1 θ1 sB.hp.get wB ImB θB := by simp only [put_nx, put_hp] at hEB; exact hEB
  have hlB : Later sA sB := (put_later _ _ _).trans hcB.later
  -- the closure, from whatever mode
  have key : ∀ (a2 : Act) (rv : Value) (u u2 : FrameMode), u ≠ .run → settle u2 = .returning → a2.defers = aB.defers → Sim P ω none sK a2 wB ImB θB → VRel P ω wB ImB θB x rv → (∀ (c₀ : Frame) (cs : List Frame), c₀.mode = u → recoverD (c₀ :: cs) = some (rv, { c₀ with mode := u2 } :: cs) ∨ (recoverD (c₀ :: cs) = none ∧ rv = .nilIface ∧ u2 = u)) →
    sK.hp = sB.hp → sK.nx = sB.nx → sK.m = sB.m → sK.dirty = sB.dirty → LeavesIn (FR none) 0 P fn a2.tmps R a2.defers u wB := by
   intro a2 rv u u2 hu hset hda simK hx hrc k1 k2 k3 k4
   rw [hda, show aB.defers = [{ target := .fn (.func g) cv, args := #[] }] from hNB]
   refine leavesIn_cons hu (FR_depth1 none) (f := g) (args := cv) ?_ (fun g _ => FR_fn none g) ?_
   · have hn1 : ¬ fg.name = "runtime.NumGoroutine" := by simpa using hC.nm
     have hn2 : ¬ fg.body = none := by
      obtain ⟨i, p0, p1, c', hbb, -⟩ := hC.body
      rw [hbb]; simp
     simp [invoke, callFunc, hC.fn, hn1, hn2]
   · have hcalls := clo_calls (P := P) (ω := ω) hC (s := sB) (sD := sD) (caps := caps.map sA.ev) (by simpa using hcl) (x := x) heD hsB hcD hres simB.sf.hp simB.fr (us := cv.toList) (hcl1.step sim1.sf.hp hEB') (rv := rv) hx
       (u := u) (u2 := u2) hrc
       (R := fun e u' w' => match e with
        | .returned _ => LeavesIn (FR none) 0 P fn a2.tmps R [] (settle u') w'
        | .panicked chain => LeavesIn (FR none) 0 P fn a2.tmps R [] (raised u' chain) w'
        | .outgrown => R .outgrown w') (fun w' Im' θ' hH hF hE v => by
         have hlD : Later sK sD := by
          have h0 : Later sB sD := ⟨hcD.later.m, hcD.later.nx, hcD.later.same, hcD.later.up, hcD.later.low⟩
          exact ⟨by rw [k3]; exact h0.m, by rw [k2]; exact h0.nx, fun x hx => by rw [k1]; exact h0.same x (by rw [← k3]; exact hx), fun x hx => h0.up x (by rw [← k4]; exact hx), fun x hx => by rw [k3, k4]; exact h0.low x hx⟩
         have hE' : Ext (fun x => sB.nx ≤ x) sK.hp.get wB ImB θB sD.hp.get w' Im' θ' := by rw [k1]; exact hE
         have hS := frame_sim simK hsD hlD hH hF hE'
         obtain ⟨u, hu1, hu2⟩ := run_results (f := fn) hS.sf hvs
         show LeavesIn (FR none) 0 P fn a2.tmps R [] (settle u2) w'
         rw [hset]
         refine ⟨u, hu1, hR u w' Im' θ' hH hF ?_ hu2⟩
         exact (hE1.trans (hEB'.mono (fun x hx => Nat.le_trans hcA.later.nx hx))).trans (hE.mono (fun x hx => Nat.le_trans hcA.later.nx (Nat.le_trans hlB.nx hx))))
     have e : cv.toList.toArray = cv := by simp
     rw [e] at hcalls
     exact hcalls.mono (fun e u' w' h => by cases e <;> exact h)
  cases hend with
  | norm => exact key aB .nilIface .returning .returning (by simp) rfl rfl simB .nili (fun c₀ cs hm => .inr ⟨by simp [recoverD, hm], rfl, rfl⟩) rfl rfl rfl rfl
  | ret => exact key aB .nilIface .returning .returning (by simp) rfl rfl simB .nili (fun c₀ cs hm => .inr ⟨by simp [recoverD, hm], rfl, rfl⟩) rfl rfl rfl rfl
  | pan ht hkl =>
   rename_i t
   simp only [exitOf, PQ, if_pos (Nat.le_add_right panId t), Nat.add_sub_cancel_left]
   intro a2 hd2 hz2 hk2
   have hkl' := lowB_spec _ hkl
   have hk16 : ∀ x ∈ Kp, x < 16000 := fun x hx => by have := hkl' x hx; have := hsB.size; omega
   have htm : ∀ j, ({ sB with tm := keepT Kp sB .lf } : St).tmp j = if j ∈ Kp then sB.tmp j else .junk := by
    intro j
    show (match (keepT Kp sB .lf).get j with | some v => v | none => .junk) = _
    rw [keepT_get _ _ _ _ hk16]
    by_cases hj : j ∈ Kp
    · simp [hj]
    · simp [hj, Tr.get_lf]
   have simK : Sim P ω none { sB with tm := keepT Kp sB .lf } a2 wB ImB θB := by
    refine ⟨⟨hsB.size, hsB.nx, fun t ht => ?_, hsB.dom, hsB.m⟩, ⟨by rw [hz2]; exact simB.sf.size, fun t ht => ?_, fun t ht => ?_, by rw [hd2]; exact simB.sf.df, simB.sf.hp⟩, simB.fr, simB.rd⟩
    · rw [htm]; split
      · exact hsB.out t ht
      · rfl
    · rw [htm]; split
      · rename_i hj; rw [hk2 t hj]; exact simB.sf.tm t ht
      · exact .junk
    · rw [htm]; split
      · exact hsB.out t ht
      · rfl
   exact key a2 _ (.panicking [{ v := aB.tmps.getD t undef, recovered := false }]) (.panicking [{ v := aB.tmps.getD t undef, recovered := true }]) (by simp) rfl hd2 simK (simB.sf.tm t ht) (fun c₀ cs hm => .inl (by simp [recoverD, hm])) rfl rfl rfl rfl
 -- the region
 have e0 : (#[o0, o1] : Array Oper)[0]? = some o0 := rfl
 have e1 : (#[o0, o1] : Array Oper)[1]? = some o1 := rfl
 simp only [wpOpsIn, e0, e1, wanted_none h2, wanted_none h5, if_true]
 refine ⟨fun f _ => FR_fn none f, ?_⟩
 show Oper.uponIn (FR none) 0 P o0 a1 _ _ ((o0.semAt none a1.eval).run P w1)
 rw [r0, hcv, Oper.uponIn_value, h3]
 refine ⟨fun f _ => FR_fn none f, ?_⟩
 show Oper.uponIn (FR none) 0 P o1 _ _ _ ((o1.semAt none (a1.put (some d) (.func (.func g) #[] cv)).eval).run P w1)
 rw [r1 _ (by rw [hev]), Oper.uponIn_defer, h6]
 show rest.wpIn (FR none) 0 P _ _ w1
 have ed : ({ a1.put (some d) (.func (.func g) #[] cv) with defers := { target := .fn (.func g) cv, args := #[] } :: (a1.put (some d) (.func (.func g) #[] cv)).defers } : Act).put none undef = { a1.put (some d) (.func (.func g) #[] cv) with defers := [{ target := .fn (.func g) cv, args := #[] }] } := by
  rw [put_defers, hd1]; rfl
 rw [ed]
 exact goal2
def cloX (P : Program) (κ : Nat → Option CSumm) (fn fg : Func) (crest : Code) (v1 v2 : Nat) (caps : List SV) (x : SV) (sB sK : St) : CTree :=
 lineR .fail P κ crest (cloSt sB fg.ntmps v1 v2 caps x) fun e sD => match e with
  | .exit _ => .fail
  | _ => match resultsS P sD fg.results.toList with
   | some _ => finishC P fn { sD with tm := sK.tm, size := sK.size, rd := sK.rd }
   | none => .fail
def deferX (P : Program) (κ π : Nat → Option CSumm) (Kp : List Nat) (fuel : Nat) (fn fg : Func) (c0 rest crest : Code) (d g v1 v2 : Nat) (caps : List Operand) : CSumm := fun args H =>
 bif canonB H 0 && closedB H.length H && Nat.ble args.length fn.ntmps && Nat.blt fn.ntmps 16000 && Nat.blt H.length 1000000 then
  lineR .fail P κ c0 (initSt false fn args H) fun e sA => match e with
   | .normal => bif Nat.blt d sA.size && Nat.ble caps.length fg.ntmps then
     execP .fail P κ π Kp (ltab []) fuel rest (sA.put (some d) (.fn (.func g) [] (caps.map sA.ev))) fun e sB => match e with
      | .exit j => bif Nat.ble panId j && Nat.blt (j - panId) sB.size && lowB sB.size Kp then cloX P κ fn fg crest v1 v2 (caps.map sA.ev) (sB.tmp (j - panId)) sB { sB with tm := keepT Kp sB .lf } else .fail
      | _ => cloX P κ fn fg crest v1 v2 (caps.map sA.ev) .nili sB sB
    else .fail
   | _ => .fail
 else .fail
theorem deferX_valid {κ π : Nat → Option CSumm} (hκ : KOk P κ) (hπ : XOk P π) (hmix : P.follows .mixedOrders = true) {fuel : Nat} {f g : FuncId} {fn fg : Func} {c0 rest crest : Code} {d v1 v2 : Nat} {caps : List Operand} (hf : P.funcs[f]? = some fn) (hD : Dfr P fn c0 rest d g caps) (hC : Clo P g fg crest v1 v2) :
  ValidC P f (deferX P κ π Kp fuel fn fg c0 rest crest d g v1 v2 caps) := by
 intro args H v ups hrun _ ω θ Im w us hargs hH hfr
 unfold deferX at hrun
 cases hc : canonB H 0 && closedB H.length H && Nat.ble args.length fn.ntmps && Nat.blt fn.ntmps 16000 && Nat.blt H.length 1000000 with
 | false => rw [hc] at hrun; simp [crun] at hrun
 | true =>
  rw [hc] at hrun
  simp only [cond_true] at hrun
  simp only [Bool.and_eq_true] at hc
  obtain ⟨⟨⟨⟨c1, c2⟩, c3⟩, c4⟩, c5⟩ := hc
  have hal : args.length ≤ fn.ntmps := by rwa [Nat.ble_eq] at c3
  have hnt : fn.ntmps < 16000 := by rwa [Nat.blt_eq] at c4
  have hHl : H.length < 1000000 := by rwa [Nat.blt_eq] at c5
  have hhp : (initSt false fn args H).hp.get = H.get := heapTr_init c1 (by omega)
  have hs0 : StOk { initSt false fn args H with tm := .lf, size := 0 } := by
   refine ⟨by show 0 < 16000; omega, hHl, fun t _ => rfl, ?_, Nat.le_refl _⟩
   intro x c hx
   have hx' : (initSt false fn args H).hp.get x = some c := hx
   rw [hhp] at hx'
   exact canon_lt c1 hx'
  have hst : StOk (initSt false fn args H) := enter_ok hs0 hal hnt
  obtain ⟨eA, sA, hsA, hcA, hrA⟩ := lineR_ok (den := crun) rfl hκ c0 _ _ _ hst hrun
  cases eA with
  | exit id => simp [crun] at hrA
  | ret => simp [crun] at hrA
  | normal =>
   simp only [] at hrA
   cases hd : Nat.blt d sA.size && Nat.ble caps.length fg.ntmps with
   | false => rw [hd] at hrA; simp [crun] at hrA
   | true =>
    rw [hd] at hrA
    simp only [cond_true] at hrA
    simp only [Bool.and_eq_true] at hd
    have hdA : d < sA.size := by have := hd.1; rwa [Nat.blt_eq] at this
    have hcl : caps.length ≤ fg.ntmps := by have := hd.2; rwa [Nat.ble_eq] at this
    obtain ⟨eB, sB, hsB, hcB, hrB⟩ := execP_ok (den := crun) rfl hκ hπ hmix (show LOkP P Kp (ltab []) from fun w e h => by cases h) fuel rest _ _ _ (put_ok hsA (d := some d) hdA _) hrA
    have hfl : fillC (ltab []) rest = rest := fill_none rest
    rw [hfl] at hcB
    obtain ⟨x, sK, hend, hrB'⟩ : ∃ x sK, EndB Kp sB eB x sK ∧ crun (cloX P κ fn fg crest v1 v2 (caps.map sA.ev) x sB sK) = some (v, ups) := by
     cases eB with
     | normal => exact ⟨_, _, .norm, hrB⟩
     | ret => exact ⟨_, _, .ret, hrB⟩
     | exit j =>
      simp only [] at hrB
      cases hj : Nat.ble panId j && Nat.blt (j - panId) sB.size && lowB sB.size Kp with
      | false => rw [hj] at hrB; simp [crun] at hrB
      | true =>
       rw [hj] at hrB
       simp only [cond_true] at hrB
       simp only [Bool.and_eq_true] at hj
       have h1 : panId ≤ j := by have := hj.1.1; rwa [Nat.ble_eq] at this
       have h2 : j - panId < sB.size := by have := hj.1.2; rwa [Nat.blt_eq] at this
       refine ⟨_, _, ?_, hrB⟩
       have e : j = panId + (j - panId) := by omega
       generalize j - panId = t at h2 e
       subst e
       exact .pan h2 hj.2
    unfold cloX at hrB'
    obtain ⟨eD, sD, hsD, hcD, hrD⟩ := lineR_ok (den := crun) rfl hκ crest _ _ _ (cloSt_ok hsB (by simpa using hcl) hC.nt hC.lt1 hC.lt2) hrB'
    have heD : ∀ id, eD ≠ .exit id := by rintro id rfl; simp [crun] at hrD
    have hrD' : crun (match resultsS P sD fg.results.toList with
            | some _ => finishC P fn { sD with tm := sK.tm, size := sK.size, rd := sK.rd }
            | none => .fail) = some (v, ups) := by
     cases eD with
     | exit id => exact absurd rfl (heD id)
     | normal => exact hrD
     | ret => exact hrD
    cases hres : resultsS P sD fg.results.toList with
    | none => rw [hres] at hrD'; simp [crun] at hrD'
    | some vsg =>
     rw [hres] at hrD'
     simp only [] at hrD'
     have hlater : Later (initSt false fn args H) { sD with tm := sK.tm, size := sK.size, rd := sK.rd } :=
      frame_later _ _ _ _ _ (hcA.later.trans ((put_later _ _ _).trans (hcB.later.trans ((cloSt_later _ _ _ _ _ _).trans hcD.later))))
     generalize hsF : ({ sD with tm := sK.tm, size := sK.size, rd := sK.rd } : St) = sF at *
     have hFhp : sF.hp = sD.hp := by rw [← hsF]
     have hFnx : sF.nx = sD.nx := by rw [← hsF]
     have hm2 : sF.m = H.length := hlater.m
     unfold finishC at hrD'
     cases hrs : resultsS P sF fn.results.toList with
     | none => rw [hrs] at hrD'; simp [crun] at hrD'
     | some vs =>
      rw [hrs] at hrD'
      simp only [] at hrD'
      cases hre : reachNew sF.hp sF.m 2000 (namesS (oneOrTup vs) ++ dirtyNames sF.hp sF.dirty) [] with
      | none => rw [hre] at hrD'; simp [crun] at hrD'
      | some ns =>
       rw [hre] at hrD'
       simp only [crun, Option.some.injEq, Prod.mk.injEq] at hrD'
       rw [hm2] at hrD'
       obtain ⟨rfl, rfl⟩ := hrD'
       have hfr0 : Fr (initSt false fn args H).nx θ (initSt false fn args H).hp.get := by
        intro x hx
        have hx' : H.length ≤ x := hx
        refine ⟨hfr x hx', ?_⟩
        rw [hhp]
        cases hg : H.get x with
        | none => rfl
        | some c => have := canon_lt c1 hg; omega
       have sim0 := enter_sim (P := P) hs0 (args := args) (us := us) hal hnt (w := w) (Im := Im) (θ := θ) (by show HRel P ω w Im θ (initSt false fn args H).hp.get; rw [hhp]; exact hH) hfr0 hargs
       refine (callsIn_wide (n := 0)).1 (defer_callsX (ω := ω) hf hD hC hend heD hsB hsD hcA hdA hcl hcB hcD hres sim0 (vs := vs) (by rw [hsF]; exact hrs) (fun u w' Im' θ' hH2 _ hE hvu => ?_))
       have hsame : ∀ x, x < H.length → sF.hp.get x = H.get x ∨ x ∈ sF.dirty := by
        intro x hx
        have := hlater.same x hx
        rwa [hhp] at this
       have hdl : ∀ x ∈ sF.dirty, x < H.length := by
        intro x hx
        rcases hlater.low x hx with h | h
        · cases h
        · exact h
       have hext : Ext (fun x => H.length ≤ x) H.get w Im θ sF.hp.get w' Im' θ' := by
        rw [← hhp, hFhp]; exact hE
       obtain ⟨θ3, g1, g2, g3, -⟩ := finish_gen c1 c2 hfr hm2 hsame hdl hre (by rw [hFhp]; exact hH2) hext hvu
       exact ⟨u, θ3, Im', rfl, g1, g2, g3⟩
end Go.Am
