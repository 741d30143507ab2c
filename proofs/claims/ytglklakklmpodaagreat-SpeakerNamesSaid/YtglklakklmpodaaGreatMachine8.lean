/- The abstract machine: a function that puts off one call of a function to its end: its summary. -/
import Derived.Test.YtglklakklmpodaaGreatMachine7
set_option linter.unusedVariables false
set_option linter.unusedSimpArgs false
namespace Go.Am
variable {P : Program} {ω : Nat → Value}
section
variable {R D : Type} {fl : R} {den : R → Option D} (hfl : den fl = none) {rec : Rcr R} (hrec : RcrOk P den rec)
include hfl hrec
theorem callInD_run {f : Nat} {args : List SV} {s : St} {k : SV → St → R} {d : D} (hs : StOk s) (h : den (callIn fl P rec f args s k) = some d) :
  ∃ r s', StOk s' ∧ Later s s' ∧ s'.tm = s.tm ∧ s'.size = s.size ∧ s'.rd = s.rd ∧ den (k r s') = some d ∧ (∃ fn, P.funcs[f]? = some fn ∧ (fn.name == "runtime.NumGoroutine") = false ∧ fn.body.isNone = false) ∧
   ∀ (ω : Nat → Value) (ρ : Option Nat) (a : Act) (w : World) (Im : Nat → Prop) (θ : Th) (us : List Value) (um : FrameMode) (R' : Ending → World → Prop), Sim P ω ρ s a w Im θ → LRel P ω w Im θ args us →
    (∀ u w' Im' θ', Sim P ω ρ s' a w' Im' θ' → Ext (fun x => s.nx ≤ x) s.hp.get w Im θ s'.hp.get w' Im' θ' → R' (.returned u) w') → CallsDIn (FR none) 0 P f us.toArray um w fun e u' w' => u' = um ∧ R' e w' := by
 unfold callIn at h
 cases hf : P.funcs[f]? with
 | none => rw [hf] at h; exact (fl_no hfl h).elim
 | some fn =>
  rw [hf] at h
  simp only [] at h
  cases hb : fn.body with
  | none => rw [hb] at h; exact (fl_no hfl h).elim
  | some c =>
   rw [hb] at h
   simp only [] at h
   cases hc : Nat.ble args.length fn.ntmps && Nat.blt fn.ntmps 16000 && !(fn.name == "runtime.NumGoroutine") with
   | false => rw [hc] at h; exact (fl_no hfl h).elim
   | true =>
    rw [hc] at h
    simp only [cond_true] at h
    simp only [Bool.and_eq_true, Bool.not_eq_true'] at hc
    obtain ⟨⟨c1, c2⟩, c3⟩ := hc
    have h1 : args.length ≤ fn.ntmps := by rwa [Nat.ble_eq] at c1
    have h2 : fn.ntmps < 16000 := by rwa [Nat.blt_eq] at c2
    obtain ⟨e, s2, hs2, hcm, h3⟩ := hrec _ _ _ _ (enter_ok hs h1 h2) h
    have he : ∀ id, e ≠ .exit id := by
     rintro id rfl
     exact fl_no hfl h3
    have h4 : den (match resultsS P s2 fn.results.toList with
     | some vs => k (oneOrTup vs) { s2 with tm := s.tm, size := s.size, rd := s.rd }
     | none => fl) = some d := by
     cases e with
     | exit id => exact absurd rfl (he id)
     | normal => exact h3
     | ret => exact h3
    cases hvs : resultsS P s2 fn.results.toList with
    | none => rw [hvs] at h4; exact (fl_no hfl h4).elim
    | some vs =>
     rw [hvs] at h4
     simp only [] at h4
     have hl : Later s s2 := ⟨hcm.later.m, hcm.later.nx, hcm.later.same, hcm.later.up, hcm.later.low⟩
     refine ⟨oneOrTup vs, { s2 with tm := s.tm, size := s.size, rd := s.rd }, ⟨hs.size, hs2.nx, hs.out, hs2.dom, hs2.m⟩, frame_later s s2 _ _ _ hl, rfl, rfl, rfl, h4, ⟨fn, rfl, c3, by rw [hb]; rfl⟩, ?_⟩
     intro ω ρ a w Im θ us um R' sim hl' hR
     refine body_callsD hf hb he hcm (enter_sim hs h1 h2 sim.sf.hp sim.fr hl') hvs (fun u w' Im' θ' hH hF hE hv => ?_)
     exact hR u w' Im' θ' (frame_sim sim hs2 hl hH hF hE) hE
end
structure DfrQ (P : Program) (fn : Func) (l : List Code) (rest : Code) (d src g : Nat) : Prop where
 body : ∃ id o0 o1 c, fn.body = some (chain l (.seq (.region id #[o0, o1] false) rest)) ∧ o0.op = .move (.tmp src) ∧ o0.guard = none ∧ o0.dst = some d ∧ o1.op = .defer c ∧ c.callee = .value (.func g) ∧ c.args = #[.tmp d] ∧ o1.guard = none ∧ o1.dst = none
def deferQ (P : Program) (κ : Nat → Option CSumm) (ι : Nat → Bool) (fuel : Nat) (fn : Func) (l : List Code) (rest : Code) (d src g : Nat) : CSumm := fun args H =>
 bif canonB H 0 && closedB H.length H && Nat.ble args.length fn.ntmps && Nat.blt fn.ntmps 16000 && Nat.blt H.length 1000000 then
  chainF .fail P κ fuel l (initSt false fn args H) fun e sA => match e with
   | .exit _ => .fail
   | .ret => finishC P fn sA
   | .normal => bif Nat.blt d sA.size then
     exec .fail P κ ι fuel rest (sA.put (some d) (sA.ev (.tmp src))) fun e sB => match e with
      | .exit _ => .fail
      | _ => callIn .fail P (exec .fail P κ ι fuel) g [sA.ev (.tmp src)] sB fun _ sD => finishC P fn sD
    else .fail
 else .fail
theorem deferQ_calls {f g : FuncId} {fn fg : Func} {l : List Code} {rest : Code} {d src : Nat} (hf : P.funcs[f]? = some fn) (hD : DfrQ P fn l rest d src g) (hg : P.funcs[g]? = some fg) (hgn : (fg.name == "runtime.NumGoroutine") = false) (hgb : fg.body.isNone = false)
  {s0 sA sB sD : St} {eB : Ex} (heB : ∀ id, eB ≠ .exit id) (hcA : ComesCh P l s0 .normal sA) (hdA : d < sA.size) (hcB : Comes P rest (sA.put (some d) (sA.ev (.tmp src))) eB sB)
  (hcall : ∀ (ρ : Option Nat) (a : Act) (w : World) (Im : Nat → Prop) (θ : Th) (us : List Value) (um : FrameMode) (R' : Ending → World → Prop), Sim P ω ρ sB a w Im θ → LRel P ω w Im θ [sA.ev (.tmp src)] us →
    (∀ u w' Im' θ', Sim P ω ρ sD a w' Im' θ' → Ext (fun x => sB.nx ≤ x) sB.hp.get w Im θ sD.hp.get w' Im' θ' → R' (.returned u) w') → CallsDIn (FR none) 0 P g us.toArray um w fun e u' w' => u' = um ∧ R' e w')
  {us : List Value} {w : World} {Im : Nat → Prop} {θ : Th} (sim : Sim P ω none s0 { tmps := us.toArray ++ Array.replicate (fn.ntmps - us.toArray.size) undef, defers := [] } w Im θ)
  {vs : List SV} (hvs : resultsS P sD fn.results.toList = some vs) {R : Ending → World → Prop}
  (hR : ∀ u w' Im' θ', HRel P ω w' Im' θ' sD.hp.get → Fr sD.nx θ' sD.hp.get → Ext (fun x => s0.nx ≤ x) s0.hp.get w Im θ sD.hp.get w' Im' θ' → VRel P ω w' Im' θ' (oneOrTup vs) u → R (.returned u) w') : CallsIn (FR none) 0 P f us.toArray w R := by
 obtain ⟨id, o0, o1, c, hb, h1, h2, h3, h4, h4a, h4b, h5, h6⟩ := hD.body
 refine callsIn_of_wp_marks hf hb trivial ?_ rfl
 refine hcA.wp ω none _ _ _ w Im θ sim (fun a1 w1 Im1 θ1 sim1 hE1 hN1 => ?_)
 show (Code.seq (.region id #[o0, o1] false) rest).wpIn (FR none) 0 P _ a1 w1
 refine wpIn_seq ?_
 refine wpIn_region ?_
 show wpOpsIn (FR none) 0 P #[o0, o1] _ [0, 1] a1 w1
 have hx1 : VRel P ω w1 Im1 θ1 (sA.ev (.tmp src)) (a1.eval (.tmp src)) := by
  have := sim1.sf.eval (.tmp src)
  rwa [← evT_ev] at this
 generalize hxv : a1.eval (.tmp src) = x at hx1
 have r0 : (o0.semAt none a1.eval).run P w1 = .ok (.value x) w1 := by
  rw [← hxv]
  refine semAt_value ?_
  obtain ⟨dst, op, type, pos, after, guard⟩ := o0
  simp only at h1
  subst h1
  simp [execOp]
 have hdA1 : d < a1.tmps.size := by rw [sim1.sf.size]; exact hdA
 have hev : ∀ v, (a1.put (some d) v).eval (.tmp d) = v := by
  intro v
  simp [Act.put, Act.eval, Array.getD, hdA1]
 have hevf : ∀ b : Act, b.eval (.func g) = .func (.func g) #[] #[] := fun b => rfl
 have r1 : ∀ b : Act, b.eval (.tmp d) = x → (o1.semAt none b.eval).run P w1 = .ok (.defer { target := .fn (.func g) #[], args := #[x] }) w1 := by
  intro b hρ
  rw [Oper.semAt_none]
  obtain ⟨dst, op, type, pos, after, guard⟩ := o1
  obtain ⟨callee, cargs, at'⟩ := c
  simp only at h4 h4a h4b
  subst h4; subst h4a; subst h4b
  simp [execOp, resolve, hρ, hevf, Deferred.ofValue]
 have simA := put_sim (P := P) sim1 (dst := some d) hdA (r := sA.ev (.tmp src)) (v := x) hx1
 have hd1 : a1.defers = [] := hN1
 have hbD : ∀ (e : Deferred), e ∈ [({ target := .fn (.func g) #[], args := #[x] } : Deferred)] → ∀ r, e ≠ mark r := by
  intro e he r
  rw [List.mem_singleton] at he
  subst he
  intro hh
  simp [mark] at hh
 have simA2 : Sim P ω none (sA.put (some d) (sA.ev (.tmp src))) { a1.put (some d) x with defers := [{ target := .fn (.func g) #[], args := #[x] }] } w1 Im1 θ1 :=
  ⟨simA.ok, ⟨simA.sf.size, simA.sf.tm, simA.sf.out, ⟨[], [{ target := .fn (.func g) #[], args := #[x] }], rfl, fun e he r => hbD e he r, List.nodup_nil, fun r hr => by cases hr⟩, simA.sf.hp⟩, simA.fr, simA.rd⟩
 have goal2 : rest.wpIn (FR none) 0 P (bodyPostM (FR none) 0 P fn R) { a1.put (some d) x with defers := [{ target := .fn (.func g) #[], args := #[x] }] } w1 := by
  refine hcB.wp none _ _ w1 Im1 θ1 simA2 (fun aB wB ImB θB simB hEB hNB => ?_)
  have hEB' : Ext (fun x => sA.nx ≤ x) sA.hp.get w1 Im1 θ1 sB.hp.get wB ImB θB := by simp only [put_nx, put_hp] at hEB; exact hEB
  have hlB : Later sA sB := (put_later _ _ _).trans hcB.later
  have key : LeavesInM (FR none) 0 P fn aB.tmps R aB.defers .returning wB := by
   obtain ⟨rs, base, k1, kb, k2, k3⟩ := simB.sf.df
   obtain ⟨rs', k4, k5⟩ := hNB
   have hrs : rs = rs' := mark_inj2 (fun e he r => kb e he r) hbD (k1.symm.trans k4)
   subst hrs
   have hbase : base = [{ target := .fn (.func g) #[], args := #[x] }] := List.append_cancel_left (k1.symm.trans k4)
   subst hbase
   rw [k1]
   refine leaves_marksT rs wB k2 (fun r hr => (k3 r hr).1) (fun w3 g1 g2 g3 g4 g5 => ?_)
   obtain ⟨hH3, hE3, hV3⟩ := marks_gone (P := P) (ω := ω) (a' := aB) k3 k5 simB.sf.hp hEB g1 g2 g3 g4 g5
   have hE3' : Ext (fun x => sA.nx ≤ x) sA.hp.get w1 Im1 θ1 sB.hp.get w3 ImB θB := by simp only [put_nx, put_hp] at hE3; exact hE3
   have simB3 : Sim P ω none sB { aB with defers := [{ target := .fn (.func g) #[], args := #[x] }] } w3 ImB θB :=
    ⟨simB.ok, ⟨simB.sf.size, fun t ht => hV3 _ _ (simB.sf.tm t ht), simB.sf.out, ⟨[], [{ target := .fn (.func g) #[], args := #[x] }], rfl, fun e he r => hbD e he r, List.nodup_nil, fun r hr => by cases hr⟩, hH3⟩, simB.fr, simB.rd⟩
   have hxB : VRel P ω w3 ImB θB (sA.ev (.tmp src)) x := hV3 _ _ (hEB'.val sim1.sf.hp hx1)
   have hL : LRel P ω w3 ImB θB [sA.ev (.tmp src)] [x] := ⟨rfl, fun i v u hv hu => by
    cases i with
    | zero => simp at hv hu; subst hv; subst hu; exact hxB
    | succ i => simp at hv⟩
   refine ⟨by simp, .inr ⟨fun h => by simp [FR_depth] at h, .func g, #[], g, #[x], rfl, ?_, fun g' _ => FR_fn none g', ?_⟩⟩
   · have hn1 : ¬ fg.name = "runtime.NumGoroutine" := by simpa using hgn
     have hn2 : ¬ fg.body = none := by intro hh; rw [hh] at hgb; cases hgb
     simp [invoke, callFunc, hg, hn1, hn2]
   · have hcalls := hcall none { aB with defers := [{ target := .fn (.func g) #[], args := #[x] }] } w3 ImB θB [x] .returning
       (fun e w' => match e with
        | .returned _ => LeavesInM (FR none) 0 P fn aB.tmps R [] .returning w'
        | _ => False) simB3 hL (fun u w' Im' θ' simD hED => by
         obtain ⟨v, hv1, hv2⟩ := run_results (f := fn) simD.sf hvs
         refine ⟨v, hv1, hR v w' Im' θ' simD.sf.hp simD.fr ?_ hv2⟩
         exact (hE1.trans (hE3'.mono (fun x hx => Nat.le_trans hcA.later.nx hx))).trans (hED.mono (fun x hx => Nat.le_trans hcA.later.nx (Nat.le_trans hlB.nx hx))))
     refine hcalls.mono (fun e u' w' h => ?_)
     obtain ⟨rfl, h⟩ := h
     cases e with
     | returned v => exact h
     | panicked ch => exact h.elim
     | outgrown => exact h.elim
  cases eB with
  | normal => exact key
  | ret => exact key
  | exit id => exact absurd rfl (heB id)
 have e0 : (#[o0, o1] : Array Oper)[0]? = some o0 := rfl
 have e1 : (#[o0, o1] : Array Oper)[1]? = some o1 := rfl
 have wanted_none' : ∀ {o : Oper}, o.guard = none → ∀ y, Region.wanted o y = true := fun h y => by unfold Region.wanted; rw [h]
 simp only [wpOpsIn, e0, e1, wanted_none' h2, wanted_none' h5, if_true]
 refine ⟨fun f _ => FR_fn none f, ?_⟩
 show Oper.uponIn (FR none) 0 P o0 a1 _ _ ((o0.semAt none a1.eval).run P w1)
 rw [r0, Oper.uponIn_value, h3]
 refine ⟨fun f _ => FR_fn none f, ?_⟩
 show Oper.uponIn (FR none) 0 P o1 _ _ _ ((o1.semAt none (a1.put (some d) x).eval).run P w1)
 rw [r1 _ (hev x), Oper.uponIn_defer, h6]
 show rest.wpIn (FR none) 0 P _ _ w1
 have ed : ({ a1.put (some d) x with defers := { target := .fn (.func g) #[], args := #[x] } :: (a1.put (some d) x).defers } : Act).put none undef = { a1.put (some d) x with defers := [{ target := .fn (.func g) #[], args := #[x] }] } := by
  rw [put_defers, hd1]; rfl
 rw [ed]
 exact goal2
end Go.Am
/- The abstract machine: a function that puts off one call of a function to its end: its summary tells of its calls. -/
namespace Go.Am
variable {P : Program} {ω : Nat → Value}
theorem finishC_tells {fn : Func} {H : HpL} {args : List SV} {v : SV} {ups : List (Nat × Option Chunk)} (c1 : canonB H 0 = true) (c2 : closedB H.length H = true) (hHl : H.length < 1000000) {sF : St} (hlater : Later (initSt false fn args H) sF) (h : crun (finishC P fn sF) = some (v, ups)) :
  ∃ vs, resultsS P sF fn.results.toList = some vs ∧ ∀ {θ : Th} {Im : Nat → Prop} {w : World}, (∀ x, H.length ≤ x → θ x = none) → ∀ u w' Im' θ', HRel P ω w' Im' θ' sF.hp.get → Ext (fun x => (initSt false fn args H).nx ≤ x) (initSt false fn args H).hp.get w Im θ sF.hp.get w' Im' θ' → VRel P ω w' Im' θ' (oneOrTup vs) u →
   ∃ u' θ3 Im3, (Ending.returned u = .returned u') ∧ Ext (fun x => H.length ≤ x) H.get w Im θ (updF ups H.get) w' Im3 θ3 ∧ VRel P ω w' Im3 θ3 v u' ∧ HRel P ω w' Im3 θ3 (updF ups H.get) := by
 have hhp : (initSt false fn args H).hp.get = H.get := heapTr_init c1 (by omega)
 have hm2 : sF.m = H.length := hlater.m
 unfold finishC at h
 cases hrs : resultsS P sF fn.results.toList with
 | none => rw [hrs] at h; simp [crun] at h
 | some vs =>
  rw [hrs] at h
  simp only [] at h
  cases hre : reachNew sF.hp sF.m 2000 (namesS (oneOrTup vs) ++ dirtyNames sF.hp sF.dirty) [] with
  | none => rw [hre] at h; simp [crun] at h
  | some ns =>
   rw [hre] at h
   simp only [crun, Option.some.injEq, Prod.mk.injEq] at h
   rw [hm2] at h
   obtain ⟨rfl, rfl⟩ := h
   refine ⟨vs, rfl, fun {θ Im w} hfr u w' Im' θ' hH2 hE hvu => ?_⟩
   have hsame : ∀ x, x < H.length → sF.hp.get x = H.get x ∨ x ∈ sF.dirty := by
    intro x hx
    have := hlater.same x hx
    rwa [hhp] at this
   have hdl : ∀ x ∈ sF.dirty, x < H.length := by
    intro x hx
    rcases hlater.low x hx with h | h
    · cases h
    · exact h
   have hext : Ext (fun x => H.length ≤ x) H.get w Im θ sF.hp.get w' Im' θ' := by
    rw [← hhp]; exact hE
   obtain ⟨θ3, g1, g2, g3, -⟩ := finish_gen c1 c2 hfr hm2 hsame hdl hre hH2 hext hvu
   exact ⟨u, θ3, Im', rfl, g1, g2, g3⟩
theorem deferQ_valid {κ : Nat → Option CSumm} (hκ : KOk P κ) (hmix : P.follows .mixedOrders = true) {ι : Nat → Bool} {fuel : Nat} {f g : FuncId} {fn : Func} {l : List Code} {rest : Code} {d src : Nat} (hf : P.funcs[f]? = some fn) (hD : DfrQ P fn l rest d src g) :
  ValidC P f (deferQ P κ ι fuel fn l rest d src g) := by
 intro args H v ups hrun _ ω θ Im w us hargs hH hfr
 unfold deferQ at hrun
 cases hc : canonB H 0 && closedB H.length H && Nat.ble args.length fn.ntmps && Nat.blt fn.ntmps 16000 && Nat.blt H.length 1000000 with
 | false => rw [hc] at hrun; simp [crun] at hrun
 | true =>
  rw [hc] at hrun
  simp only [cond_true] at hrun
  simp only [Bool.and_eq_true] at hc
  obtain ⟨⟨⟨⟨c1, c2⟩, c3⟩, c4⟩, c5⟩ := hc
  have hal : args.length ≤ fn.ntmps := by rwa [Nat.ble_eq] at c3
  have hnt : fn.ntmps < 16000 := by rwa [Nat.blt_eq] at c4
  have hHl : H.length < 1000000 := by rwa [Nat.blt_eq] at c5
  have hhp : (initSt false fn args H).hp.get = H.get := heapTr_init c1 (by omega)
  have hs0 : StOk { initSt false fn args H with tm := .lf, size := 0 } := by
   refine ⟨by show 0 < 16000; omega, hHl, fun t _ => rfl, ?_, Nat.le_refl _⟩
   intro x c hx
   have hx' : (initSt false fn args H).hp.get x = some c := hx
   rw [hhp] at hx'
   exact canon_lt c1 hx'
  have hst : StOk (initSt false fn args H) := enter_ok hs0 hal hnt
  have hfr0 : Fr (initSt false fn args H).nx θ (initSt false fn args H).hp.get := by
   intro x hx
   have hx' : H.length ≤ x := hx
   refine ⟨hfr x hx', ?_⟩
   rw [hhp]
   cases hg : H.get x with
   | none => rfl
   | some c => have := canon_lt c1 hg; omega
  have sim0 := enter_sim (P := P) hs0 (args := args) (us := us) hal hnt (w := w) (Im := Im) (θ := θ) (by show HRel P ω w Im θ (initSt false fn args H).hp.get; rw [hhp]; exact hH) hfr0 hargs
  obtain ⟨eA, sA, hsA, hcA, hrA⟩ := chainF_ok (den := crun) rfl hκ l _ _ _ hst hrun
  cases eA with
  | exit id => simp [crun] at hrA
  | ret =>
   simp only [] at hrA
   obtain ⟨vs, hvs, hfin⟩ := finishC_tells (ω := ω) c1 c2 hHl hcA.later hrA
   obtain ⟨id, o0, o1, c, hb, -⟩ := hD.body
   refine (callsIn_wide (n := 0)).1 (callsIn_of_wp_defers hf hb trivial ?_ rfl)
   refine hcA.wp ω none _ _ _ w Im θ sim0 (fun a1 w1 Im1 θ1 sim1 hE1 hN1 => ?_)
   have hd1 : a1.defers = [] := hN1
   show LeavesIn (FR none) 0 P fn a1.tmps _ a1.defers .returning w1
   rw [hd1]
   obtain ⟨u, hu1, hu2⟩ := run_results (f := fn) sim1.sf hvs
   exact ⟨u, hu1, hfin hfr u w1 Im1 θ1 sim1.sf.hp hE1 hu2⟩
  | normal =>
   simp only [] at hrA
   cases hd : Nat.blt d sA.size with
   | false => rw [hd] at hrA; simp [crun] at hrA
   | true =>
    rw [hd] at hrA
    simp only [cond_true] at hrA
    have hdA : d < sA.size := by rwa [Nat.blt_eq] at hd
    obtain ⟨eB, sB, hsB, hcB, hrB⟩ := exec_ok (den := crun) rfl hκ hmix fuel rest _ _ _ (put_ok hsA (d := some d) hdA _) hrA
    have heB : ∀ id, eB ≠ .exit id := by rintro id rfl; simp [crun] at hrB
    have hrB' : crun (callIn .fail P (exec .fail P κ ι fuel) g [sA.ev (.tmp src)] sB fun _ sD => finishC P fn sD) = some (v, ups) := by
     cases eB with
     | exit id => exact absurd rfl (heB id)
     | normal => exact hrB
     | ret => exact hrB
    obtain ⟨r, sD, hsD, hlD, -, -, -, hrD, ⟨fg, hg1, hg2, hg3⟩, hcall⟩ := callInD_run (den := crun) rfl (exec_ok (den := crun) rfl hκ hmix fuel) hsB hrB'
    have hlater : Later (initSt false fn args H) sD := hcA.later.trans ((put_later _ _ _).trans (hcB.later.trans hlD))
    obtain ⟨vs, hvs, hfin⟩ := finishC_tells (ω := ω) c1 c2 hHl hlater hrD
    refine (callsIn_wide (n := 0)).1 (deferQ_calls (ω := ω) hf hD hg1 hg2 hg3 heB hcA hdA hcB (fun ρ a w Im θ us um R' h1 h2 h3 => hcall ω ρ a w Im θ us um R' h1 h2 h3) sim0 hvs (fun u w' Im' θ' hH2 _ hE hvu => ?_))
    exact hfin hfr u w' Im' θ' hH2 hE hvu
theorem known_deferQ {κ : Nat → Option CSumm} (hκ : KOk P κ) (hn : noNum P) (hmix : P.follows .mixedOrders = true) {ι : Nat → Bool} {fuel : Nat} {f g : FuncId} {fn : Func} {l : List Code} {rest : Code} {d src : Nat} (hf : P.funcs[f]? = some fn) (hb : fn.body.isNone = false) (hD : DfrQ P fn l rest d src g) :
  Known P f (deferQ P κ ι fuel fn l rest d src g) := ⟨⟨fn, hf, noNum_at hn hf, hb⟩, deferQ_valid hκ hmix hf hD⟩
end Go.Am
