/- The abstract machine: a range over a function whose own loops are known. -/
import Derived.Test.YtkbbiaobohlogaaMachine8
import Derived.Test.YtkbbiaobohlogaaMachine7
import Derived.Below
import Derived.Sort.Grow
import Derived.Deep.Draws
import Derived.Lib.LaidTab
import Derived.Lib.AppendIntMem
set_option linter.unusedVariables false
set_option linter.unusedSimpArgs false
namespace Go.Am
variable {P : Program} {ω : Nat → Value}
section
variable {R : Type} (fl : R) (P : Program) (κ : Nat → Option CSumm) (ι : Nat → Bool) (T : LTab) (M : Nat → Option Code)
def execM (recL rec : Rcr R) : Rcr R
 | .skip, s, k => k .normal s
 | .region _ ops draw, s, k => regionC fl P κ ι rec ops draw (k .normal) s
 | .seq a b, s, k => execM recL rec a s (fun e s => match e with
  | .normal => execM recL rec b s k
  | e => k e s)
 | .cond c t e, s, k =>
  match s.ev c with
  | .bool b => bif b then execM recL rec t s k else execM recL rec e s k
  | _ => fl
 | .block id c, s, k => execM recL rec c s (fun e s => match e with
  | .exit j => bif Nat.beq j id then k .normal s else k (.exit j) s
  | e => k e s)
 | .loop c, s, k => execM recL rec c s (fun e s => match e with
  | .normal => recL (.loop c) s k
  | e => k e s)
 | .scope c, s, k => execM recL rec c s k
 | .exit id, s, k => k (.exit id) s
 | .label _, s, k => k .normal s
 | .ret, s, k => k .ret s
 | .rangeFunc g ps asg bdy, s, k =>
  match s.ev g with
  | .fn (.func f) _ _ =>
   (match M f with
    | some c' => execC fl P κ ι (fun _ s k => recL c' s k) (.rangeFunc g ps asg bdy) s k
    | none => execC fl P κ ι rec (.rangeFunc g ps asg bdy) s k)
  | _ => fl
 | .refuse w, s, k => match T w with
  | some e => loopK fl e s k
  | none => fl
 | _, _, _ => fl
def execLM : Nat → Rcr R
 | 0, _, _, _ => fl
 | n + 1, c, s, k => execM fl P κ ι T M (execLM n) (exec fl P κ ι n) c s k
end
def bodyCM (P : Program) (κ : Nat → Option CSumm) (ι : Nat → Bool) (T : LTab) (M : Nat → Option Code) (sp : Bool) (fuel : Nat) (f : Func) (c : Code) (args : List SV) (H : HpL) : CTree :=
 bif canonB H 0 && closedB H.length H && Nat.ble args.length f.ntmps && Nat.blt f.ntmps 16000 && Nat.blt H.length 1000000 then
  execLM .fail P κ ι T M fuel c (initSt sp f args H) (fun e s => match e with
   | .exit _ => .fail
   | _ => finishC P f s)
 else .fail
def MOk (P : Program) (T : LTab) (M : Nat → Option Code) : Prop := ∀ f c', M f = some c' → ∀ fn c, P.funcs[f]? = some fn → fn.body = some c → c = fillC T c'
def BOk {R D : Type} (P : Program) (den : R → Option D) (rec : Rcr R) (f : Nat) : Prop :=
 ∀ fn c, P.funcs[f]? = some fn → fn.body = some c → ∀ (s : St) (k : Ex → St → R) (d : D), StOk s → den (rec c s k) = some d → ∃ e s2, StOk s2 ∧ Comes P c s e s2 ∧ den (k e s2) = some d
section
variable {R D : Type} {fl : R} {den : R → Option D} (hfl : den fl = none) {rec : Rcr R} {κ : Nat → Option CSumm} {ι : Nat → Bool}
include hfl
theorem callIn_runB {f : Nat} (hrec : BOk P den rec f) {args : List SV} {s : St} {k : SV → St → R} {d : D} (hs : StOk s) (h : den (callIn fl P rec f args s k) = some d) :
  ∃ r s', StOk s' ∧ Later s s' ∧ s'.tm = s.tm ∧ s'.size = s.size ∧ s'.rd = s.rd ∧ den (k r s') = some d ∧ (∃ fn, P.funcs[f]? = some fn ∧ (fn.name == "runtime.NumGoroutine") = false ∧ fn.body.isNone = false) ∧
   ∀ (ω : Nat → Value) (ρ : Option Nat) (a : Act) (w : World) (Im : Nat → Prop) (θ : Th) (us : List Value) (R' : Ending → World → Prop), Sim P ω ρ s a w Im θ → LRel P ω w Im θ args us →
    (∀ u w' Im' θ', Sim P ω ρ s' a w' Im' θ' → Ext (fun x => s.nx ≤ x) s.hp.get w Im θ s'.hp.get w' Im' θ' → VRel P ω w' Im' θ' r u → R' (.returned u) w') → CallsIn (FR ρ) 0 P f us.toArray w R' := by
 unfold callIn at h
 cases hf : P.funcs[f]? with
 | none => rw [hf] at h; exact (fl_no hfl h).elim
 | some fn =>
  rw [hf] at h
  simp only [] at h
  cases hb : fn.body with
  | none => rw [hb] at h; exact (fl_no hfl h).elim
  | some c =>
   rw [hb] at h
   simp only [] at h
   cases hc : Nat.ble args.length fn.ntmps && Nat.blt fn.ntmps 16000 && !(fn.name == "runtime.NumGoroutine") with
   | false => rw [hc] at h; exact (fl_no hfl h).elim
   | true =>
    rw [hc] at h
    simp only [cond_true] at h
    simp only [Bool.and_eq_true, Bool.not_eq_true'] at hc
    obtain ⟨⟨c1, c2⟩, c3⟩ := hc
    have h1 : args.length ≤ fn.ntmps := by rwa [Nat.ble_eq] at c1
    have h2 : fn.ntmps < 16000 := by rwa [Nat.blt_eq] at c2
    obtain ⟨e, s2, hs2, hcm, h3⟩ := hrec fn c hf hb _ _ _ (enter_ok hs h1 h2) h
    have he : ∀ id, e ≠ .exit id := by
     rintro id rfl
     exact fl_no hfl h3
    have h4 : den (match resultsS P s2 fn.results.toList with
     | some vs => k (oneOrTup vs) { s2 with tm := s.tm, size := s.size, rd := s.rd }
     | none => fl) = some d := by
     cases e with
     | exit id => exact absurd rfl (he id)
     | normal => exact h3
     | ret => exact h3
    cases hvs : resultsS P s2 fn.results.toList with
    | none => rw [hvs] at h4; exact (fl_no hfl h4).elim
    | some vs =>
     rw [hvs] at h4
     simp only [] at h4
     have hl : Later s s2 := ⟨hcm.later.m, hcm.later.nx, hcm.later.same, hcm.later.up, hcm.later.low⟩
     refine ⟨oneOrTup vs, { s2 with tm := s.tm, size := s.size, rd := s.rd }, ⟨hs.size, hs2.nx, hs.out, hs2.dom, hs2.m⟩, frame_later s s2 _ _ _ hl, rfl, rfl, rfl, h4, ⟨fn, rfl, c3, by rw [hb]; rfl⟩, ?_⟩
     intro ω ρ a w Im θ us R' sim hl' hR
     refine body_calls hf hb he hcm (enter_sim hs h1 h2 sim.sf.hp sim.fr hl') hvs (fun u w' Im' θ' hH hF hE hv => ?_)
     exact hR u w' Im' θ' (frame_sim sim hs2 hl hH hF hE) hE hv
theorem range_runB {g : Operand} {ps : Array Tmp} {asg bdy : Code} {s : St} {k : Ex → St → R} {d : D} (hrec : ∀ f first caps, s.ev g = .fn (.func f) first caps → BOk P den rec f) (hs : StOk s) (h : den (execC fl P κ ι rec (.rangeFunc g ps asg bdy) s k) = some d) :
  ∃ e s2, StOk s2 ∧ Comes P (.rangeFunc g ps asg bdy) s e s2 ∧ den (k e s2) = some d := by
 simp only [execC] at h
 split at h
 case h_2 => exact (fl_no hfl h).elim
 rename_i f first caps hg
 cases hc : rdOk s && Nat.blt (s.nx + 1) 1000000 with
 | false => rw [hc] at h; exact (fl_no hfl h).elim
 | true =>
  rw [hc] at h
  simp only [cond_true] at h
  simp only [Bool.and_eq_true] at hc
  have hnx : s.nx + 1 < 1000000 := by have := hc.2; rwa [Nat.blt_eq] at this
  have hk : ∀ p ∈ [(s.nx, some (Chunk.loopr .ready (listOfTr s s.size 0) ps asg bdy))], p.1 < s.nx + 1 := by
   intro p hp
   simp only [List.mem_singleton] at hp
   subst hp; exact Nat.lt_succ_self _
  have ou := upd_ok hs (Nat.le_succ _) hnx hk
  have ol : Later s (s.upd [(s.nx, some (Chunk.loopr .ready (listOfTr s s.size 0) ps asg bdy))] (s.nx + 1)) := upd_later (Nat.le_succ _) (fun p hp => by have := hk p hp; omega)
  obtain ⟨r, s1, hs1, hl1, e1, e2, e3, h2, ⟨fnc, hfn, hn1, hn2⟩, hw⟩ := callIn_runB hfl (hrec f first caps hg) ou h
  -- the end of it
  have fin : ∀ (st : LS) (e : Ex) (vs1 : List SV) (ps1 : Array Nat) (asg1 bdy1 : Code), s1.hp.get s.nx = some (.loopr st vs1 ps1 asg1 bdy1) → ((st = .ready ∧ e = .normal) ∨ st = .done e) →
    StOk (s1.upd [(s.nx, none)] s1.nx) ∧ Comes P (.rangeFunc g ps asg bdy) s e (s1.upd [(s.nx, none)] s1.nx) := by
   intro st e vs1 ps1 asg1 bdy1 hx1 hst
   obtain ⟨o2, l2, g2⟩ := turn_ok none hx1 hs1
   refine ⟨o2, (ol.trans hl1).trans l2, e2, e3, 0, fun ω ρ Q a w Im θ sim hA => ?_⟩
   show (Code.rangeFunc g ps asg bdy).wpIn (FR ρ) 0 P Q a w
   refine wpIn_rangeFunc (fun fn _ => ?_)
   obtain ⟨l, mk, w1, θ1, hen, sim0, hE0, hθ1, hmk⟩ := enter_range sim hc.1 hnx ps asg bdy fn
   have hf := sim.sf.eval g
   rw [← evT_ev, hg] at hf
   generalize hu : a.eval g = u at hf
   cases hf with
   | fn h1 h3 h4 h5 =>
    rename_i us vs
    have lift : ∀ {v : SV} {u : Value}, VRel P ω w Im θ v u → VRel P ω w1 Im θ1 v u := fun hv => hE0.val sim.sf.hp hv
    have hl : LRel P ω w1 Im θ1 (first ++ ([.yl s.nx] ++ caps)) (us.toList ++ ([.func (.yield l) #[] #[]] ++ vs.toList)) := by
     refine LRel.append ⟨by simpa using h1, fun i v u hv hu => lift (h4 i v u hv (by simpa using hu))⟩ (LRel.append ⟨rfl, fun i v u hv hu => ?_⟩ ⟨by simpa using h3, fun i v u hv hu => lift (h5 i v u hv (by simpa using hu))⟩)
     match i, hv, hu with
     | 0, hv, hu => cases hv; cases hu; exact .yl hθ1
    have ee : (us.toList ++ ([Value.func (.yield l) #[] #[]] ++ vs.toList)).toArray = us ++ #[Value.func (.yield l) #[] #[]] ++ vs := by
     apply Array.ext'
     simp
    have hn1' : ¬ fnc.name = "runtime.NumGoroutine" := by simpa using hn1
    have hn2' : ¬ fnc.body = none := by intro hh; simp [hh] at hn2
    refine ⟨l, mk.map mark, w1, { target := .fn (.func f) vs, args := us ++ #[.func (.yield l) #[] #[]] }, w1, f, (us.toList ++ ([Value.func (.yield l) #[] #[]] ++ vs.toList)).toArray, w1, hen, ?_, fun f' _ => FR_fn ρ f', ?_, FR_depth1 ρ, ?_⟩
    · have hcst : a.eval (.const (.func (.yield l) #[] #[])) = .func (.yield l) #[] #[] := rfl
      simp [resolve, hu, Deferred.ofValue, hcst]
    · rw [ee]
      simp [invoke, callFunc, hfn, hn1', hn2']
    · refine hw _ ρ { a with defers := mk.map mark ++ a.defers } w1 Im θ1 _ _ sim0 hl (fun v w' Im' θ' sim' hE hv => ?_)
      have hθ' : θ' s.nx = some (l, 0) := hE.thUp _ _ hθ1
      obtain ⟨b', N', lp', j1, j2, -, -, -, j3, -⟩ := sim'.sf.hp.at_ _ _ hx1
      rw [hθ'] at j1
      simp only [Option.some.injEq, Prod.mk.injEq] at j1
      obtain ⟨rfl, rfl⟩ := j1
      have hnb : lp'.state ≠ .busy := by
       rcases hst with ⟨rfl, -⟩ | rfl
       · rw [j3.1]; simp
       · rw [j3.1]; simp
      obtain ⟨hEd, hHd⟩ := put_block sim'.sf.hp hx1 hθ' (.loop { lp' with state := .exhausted }) none (fun _ d hd => by cases hd)
      obtain ⟨sim2, hE2⟩ := sim'.turn hx1 hEd hHd
      have hEall : Ext (fun x => s.nx ≤ x) s.hp.get w Im θ (s1.upd [(s.nx, none)] s1.nx).hp.get (w'.putObj l (.loop { lp' with state := .exhausted })) Im' θ' :=
       (hE0.trans (hE.mono (fun x hx => Nat.le_trans ol.nx hx))).trans (hE2.mono (fun x hx => Nat.le_trans (ol.trans hl1).nx hx))
      have hQ : Q (exitOf e) { a with defers := mk.map mark ++ a.defers } (w'.putObj l (.loop { lp' with state := .exhausted })) := hA _ _ Im' θ' sim2 hEall ⟨mk, rfl, hmk⟩
      refine ⟨lp'.pending, _, run_endLoop j2 hnb, ?_⟩
      rcases hst with ⟨rfl, rfl⟩ | rfl
      · rw [j3.2] at hQ ⊢; exact hQ
      · rw [j3.2.1] at hQ ⊢
        cases e with
        | normal => exact absurd j3.2.1 j3.2.2
        | ret => exact wpIn_ret hQ
        | exit id => exact wpIn_exit hQ
  split at h2
  · rename_i vs1 ps1 asg1 bdy1 hx1
    obtain ⟨o2, hcm⟩ := fin .ready .normal _ _ _ _ hx1 (.inl ⟨rfl, rfl⟩)
    exact ⟨.normal, _, o2, hcm, h2⟩
  · rename_i e vs1 ps1 asg1 bdy1 hx1
    obtain ⟨o2, hcm⟩ := fin (.done e) e _ _ _ _ hx1 (.inr rfl)
    exact ⟨e, _, o2, hcm, h2⟩
  · exact (fl_no hfl h2).elim
end
section
variable {R D : Type} {fl : R} {den : R → Option D} (hfl : den fl = none) {T : LTab} {M : Nat → Option Code} {recL rec : Rcr R} (hrecL : RcrOkL P T den recL) (hrec : RcrOk P den rec) {κ : Nat → Option CSumm} {ι : Nat → Bool} (hκ : KOk P κ)
include hfl hrecL hrec hκ
theorem execM_ok (hmix : P.follows .mixedOrders = true) (hT : LOk P T) (hM : MOk P T M) : RcrOkL P T den (execM fl P κ ι T M recL rec) := by
 intro c
 induction c with
 | skip => intro s k d hs h; exact ⟨.normal, s, hs, comes_self (fun ρ Q a w hq => wpIn_skip hq), h⟩
 | region id ops draw =>
  intro s k d hs h
  obtain ⟨s', hs', hc, h1⟩ := region_run hfl hrec hκ (id := id) hmix hs h
  exact ⟨.normal, s', hs', hc, h1⟩
 | seq x y ihx ihy =>
  intro s k d hs h
  simp only [execM] at h
  obtain ⟨e, s1, hs1, hc1, h1⟩ := ihx s _ d hs h
  cases e with
  | normal =>
   simp only [] at h1
   obtain ⟨e2, s2, hs2, hc2, h2⟩ := ihy s1 k d hs1 h1
   refine ⟨e2, s2, hs2, ⟨hc1.later.trans hc2.later, by rw [hc2.size, hc1.size], by rw [hc2.rd, hc1.rd], 0, fun ω ρ Q a w Im θ sim hA => ?_⟩, h2⟩
   refine wpIn_seq (hc1.wp ρ _ a w Im θ sim (fun a' w' Im' θ' sim' hE hN => ?_))
   exact hc2.wp ρ Q a' w' Im' θ' sim' (After.trans hc1.later hE hN hA)
  | exit id =>
   exact ⟨.exit id, s1, hs1, ⟨hc1.later, hc1.size, hc1.rd, 0, fun ω ρ Q a w Im θ sim hA => wpIn_seq (hc1.wp ρ _ a w Im θ sim (fun a' w' Im' θ' sim' hE hN => hA a' w' Im' θ' sim' hE hN))⟩, h1⟩
  | ret =>
   exact ⟨.ret, s1, hs1, ⟨hc1.later, hc1.size, hc1.rd, 0, fun ω ρ Q a w Im θ sim hA => wpIn_seq (hc1.wp ρ _ a w Im θ sim (fun a' w' Im' θ' sim' hE hN => hA a' w' Im' θ' sim' hE hN))⟩, h1⟩
 | cond c x y ihx ihy =>
  intro s k d hs h
  simp only [execM] at h
  split at h
  · rename_i b hb
    have hev : ∀ {ω : Nat → Value} {ρ : Option Nat} {a : Act} {w : World} {Im : Nat → Prop} {θ : Th}, Sim P ω ρ s a w Im θ → a.eval c = .bool b := by
     intro ω ρ a w Im θ sim
     have := sim.sf.eval c
     rw [← evT_ev, hb] at this
     generalize a.eval c = u at this
     cases this
     rfl
    cases b with
    | true =>
     obtain ⟨e, s1, hs1, hc1, h1⟩ := ihx s k d hs h
     exact ⟨e, s1, hs1, ⟨hc1.later, hc1.size, hc1.rd, 0, fun ω ρ Q a w Im θ sim hA => wpIn_cond_true (hev sim) (hc1.wp ρ Q a w Im θ sim hA)⟩, h1⟩
    | false =>
     obtain ⟨e, s1, hs1, hc1, h1⟩ := ihy s k d hs h
     exact ⟨e, s1, hs1, ⟨hc1.later, hc1.size, hc1.rd, 0, fun ω ρ Q a w Im θ sim hA => wpIn_cond_false (hev sim) (hc1.wp ρ Q a w Im θ sim hA)⟩, h1⟩
  · exact (fl_no hfl h).elim
 | block id c ih =>
  intro s k d hs h
  simp only [execM] at h
  obtain ⟨e, s1, hs1, hc1, h1⟩ := ih s _ d hs h
  cases e with
  | normal => exact ⟨.normal, s1, hs1, ⟨hc1.later, hc1.size, hc1.rd, 0, fun ω ρ Q a w Im θ sim hA => wpIn_block (hc1.wp ρ _ a w Im θ sim hA)⟩, h1⟩
  | ret => exact ⟨.ret, s1, hs1, ⟨hc1.later, hc1.size, hc1.rd, 0, fun ω ρ Q a w Im θ sim hA => wpIn_block (hc1.wp ρ _ a w Im θ sim hA)⟩, h1⟩
  | exit j =>
   simp only [] at h1
   cases hj : Nat.beq j id with
   | true =>
    rw [hj] at h1
    have hji : j = id := Nat.eq_of_beq_eq_true hj
    subst hji
    refine ⟨.normal, s1, hs1, ⟨hc1.later, hc1.size, hc1.rd, 0, fun ω ρ Q a w Im θ sim hA => wpIn_block (hc1.wp ρ _ a w Im θ sim (fun a' w' Im' θ' sim' hE hN => ?_))⟩, h1⟩
    simp only [exitOf, Exit.inBlock, if_true]
    exact hA a' w' Im' θ' sim' hE hN
   | false =>
    rw [hj] at h1
    have hji : ¬ j = id := fun e => by rw [nb_t e] at hj; cases hj
    refine ⟨.exit j, s1, hs1, ⟨hc1.later, hc1.size, hc1.rd, 0, fun ω ρ Q a w Im θ sim hA => wpIn_block (hc1.wp ρ _ a w Im θ sim (fun a' w' Im' θ' sim' hE hN => ?_))⟩, h1⟩
    simp only [exitOf, Exit.inBlock, if_neg hji]
    exact hA a' w' Im' θ' sim' hE hN
 | loop c ih =>
  intro s k d hs h
  simp only [execM] at h
  obtain ⟨e, s1, hs1, hc1, h1⟩ := ih s _ d hs h
  cases e with
  | normal =>
   simp only [] at h1
   obtain ⟨e2, s2, hs2, hc2, h2⟩ := hrecL (.loop c) s1 k d hs1 h1
   obtain ⟨m, hm⟩ := hc2.wps
   refine ⟨e2, s2, hs2, ⟨hc1.later.trans hc2.later, by rw [hc2.size, hc1.size], by rw [hc2.rd, hc1.rd], m + 1, fun ω ρ Q a w Im θ sim hA => ?_⟩, h2⟩
   show Code.roundsIn (FR ρ) 0 P (fillC T c) Q (m + 1) a w
   rw [roundsIn_succ]
   refine hc1.wp ρ _ a w Im θ sim (fun a' w' Im' θ' sim' hE hN => ?_)
   exact hm ω ρ Q a' w' Im' θ' sim' (After.trans hc1.later hE hN hA)
  | exit id =>
   refine ⟨.exit id, s1, hs1, ⟨hc1.later, hc1.size, hc1.rd, 1, fun ω ρ Q a w Im θ sim hA => ?_⟩, h1⟩
   show Code.roundsIn (FR ρ) 0 P (fillC T c) Q 1 a w
   rw [roundsIn_succ]
   exact hc1.wp ρ _ a w Im θ sim (fun a' w' Im' θ' sim' hE hN => hA a' w' Im' θ' sim' hE hN)
  | ret =>
   refine ⟨.ret, s1, hs1, ⟨hc1.later, hc1.size, hc1.rd, 1, fun ω ρ Q a w Im θ sim hA => ?_⟩, h1⟩
   show Code.roundsIn (FR ρ) 0 P (fillC T c) Q 1 a w
   rw [roundsIn_succ]
   exact hc1.wp ρ _ a w Im θ sim (fun a' w' Im' θ' sim' hE hN => hA a' w' Im' θ' sim' hE hN)
 | exit id => intro s k d hs h; exact ⟨.exit id, s, hs, comes_self (fun ρ Q a w hq => wpIn_exit hq), h⟩
 | label l => intro s k d hs h; exact ⟨.normal, s, hs, comes_self (fun ρ Q a w hq => wpIn_label hq), h⟩
 | ret => intro s k d hs h; exact ⟨.ret, s, hs, comes_self (fun ρ Q a w hq => wpIn_ret hq), h⟩
 | rangeFunc f ps x y _ _ =>
  intro s k d hs h
  simp only [execM] at h
  split at h
  case h_2 => exact (fl_no hfl h).elim
  rename_i f0 first0 caps0 hg
  split at h
  · rename_i c' hc'
    refine range_runB hfl (rec := fun _ s k => recL c' s k) (fun f1 first1 caps1 hg1 fn c hfn hbd s k d hs hd => ?_) hs h
    rw [hg] at hg1
    have e0 : f0 = f1 := by injection hg1 with e1; injection e1
    subst e0
    rw [hM f0 c' hc' fn c hfn hbd]
    exact hrecL c' s k d hs hd
  · exact execC_ok hfl hrec hκ hmix _ s k d hs h
 | scope c ih =>
  intro s k d hs h
  simp only [execM] at h
  obtain ⟨e, s1, hs1, hc1, h1⟩ := ih s k d hs h
  exact ⟨e, s1, hs1, ⟨hc1.later, hc1.size, hc1.rd, 0, fun ω ρ Q a w Im θ sim hA => wpIn_scope_straight (hc1.wp ρ _ a w Im θ sim (fun a' w' Im' θ' sim' hE hN => by
   cases e <;> exact hA a' w' Im' θ' sim' hE hN))⟩, h1⟩
 | goto l => intro s k d hs h; exact (fl_no hfl h).elim
 | refuse w =>
  intro s k d hs h
  simp only [execM] at h
  cases hw : T w with
  | none => rw [hw] at h; exact (fl_no hfl h).elim
  | some e =>
   rw [hw] at h
   have hf : fillC T (.refuse w) = .loop e.code := by simp only [fillC, hw]
   rw [hf]
   exact loopK_run hfl (hT w e hw) hs h
end
theorem execLM_ok {R D : Type} {fl : R} {den : R → Option D} (hfl : den fl = none) {T : LTab} {M : Nat → Option Code} {κ : Nat → Option CSumm} {ι : Nat → Bool} (hκ : KOk P κ) (hmix : P.follows .mixedOrders = true) (hT : LOk P T) (hM : MOk P T M) : ∀ n, RcrOkL P T den (execLM fl P κ ι T M n)
 | 0 => fun c s k d hs h => (fl_no hfl h).elim
 | n + 1 => execM_ok hfl (execLM_ok hfl hκ hmix hT hM n) (exec_ok hfl hκ hmix n) hκ hmix hT hM
theorem bodyM_valid {κ : Nat → Option CSumm} (hκ : KOk P κ) (hmix : P.follows .mixedOrders = true) {T : LTab} (hT : LOk P T) {M : Nat → Option Code} (hM : MOk P T M) {f : FuncId} {fn : Func} (hf : P.funcs[f]? = some fn) {c : Code} (hb : fn.body = some (fillC T c)) {ι : Nat → Bool} {sp : Bool} {fuel : Nat} : ValidC P f (bodyCM P κ ι T M sp fuel fn c) := by
 intro args H v ups hrun _ ω θ Im w us hargs hH hfr
 unfold bodyCM at hrun
 cases hc : canonB H 0 && closedB H.length H && Nat.ble args.length fn.ntmps && Nat.blt fn.ntmps 16000 && Nat.blt H.length 1000000 with
 | false => rw [hc] at hrun; simp [crun] at hrun
 | true =>
  rw [hc] at hrun
  simp only [cond_true] at hrun
  simp only [Bool.and_eq_true] at hc
  obtain ⟨⟨⟨⟨c1, c2⟩, c3⟩, c4⟩, c5⟩ := hc
  have hal : args.length ≤ fn.ntmps := by rwa [Nat.ble_eq] at c3
  have hnt : fn.ntmps < 16000 := by rwa [Nat.blt_eq] at c4
  have hHl : H.length < 1000000 := by rwa [Nat.blt_eq] at c5
  have hhp : (initSt sp fn args H).hp.get = H.get := heapTr_init c1 (by omega)
  have hs0 : StOk { initSt sp fn args H with tm := .lf, size := 0 } := by
   refine ⟨by show 0 < 16000; omega, hHl, fun t _ => rfl, ?_, Nat.le_refl _⟩
   intro x c hx
   have hx' : (initSt sp fn args H).hp.get x = some c := hx
   rw [hhp] at hx'
   exact canon_lt c1 hx'
  have hst : StOk (initSt sp fn args H) := enter_ok hs0 hal hnt
  obtain ⟨e, s2, hs2, hcomes, hfin⟩ := execLM_ok (den := crun) rfl hκ hmix hT hM fuel c _ _ _ hst hrun
  have hm2 : s2.m = H.length := hcomes.later.m
  have he : ∀ id, e ≠ .exit id := by
   rintro id rfl
   simp [crun] at hfin
  have hfin' : crun (finishC P fn s2) = some (v, ups) := by
   cases e with
   | exit id => exact absurd rfl (he id)
   | normal => exact hfin
   | ret => exact hfin
  unfold finishC at hfin'
  cases hrs : resultsS P s2 fn.results.toList with
  | none => rw [hrs] at hfin'; simp [crun] at hfin'
  | some vs =>
   rw [hrs] at hfin'
   simp only [] at hfin'
   cases hre : reachNew s2.hp s2.m 2000 (namesS (oneOrTup vs) ++ dirtyNames s2.hp s2.dirty) [] with
   | none => rw [hre] at hfin'; simp [crun] at hfin'
   | some ns =>
     rw [hre] at hfin'
     simp only [crun, Option.some.injEq, Prod.mk.injEq] at hfin'
     rw [hm2] at hfin'
     obtain ⟨rfl, rfl⟩ := hfin'
     have hfr0 : Fr (initSt sp fn args H).nx θ (initSt sp fn args H).hp.get := by
      intro x hx
      have hx' : H.length ≤ x := hx
      refine ⟨hfr x hx', ?_⟩
      rw [hhp]
      cases hg : H.get x with
      | none => rfl
      | some c => have := canon_lt c1 hg; omega
     have sim0 := enter_sim (P := P) hs0 (args := args) (us := us) hal hnt (w := w) (Im := Im) (θ := θ) (by show HRel P ω w Im θ (initSt sp fn args H).hp.get; rw [hhp]; exact hH) hfr0 hargs
     refine (callsIn_wide (n := 0)).1 (body_calls (ρ := none) hf hb he hcomes sim0 hrs (fun u w' Im' θ' hH2 _ hE hvu => ?_))
     have hsame : ∀ x, x < H.length → s2.hp.get x = H.get x ∨ x ∈ s2.dirty := by
      intro x hx
      have := hcomes.later.same x hx
      rwa [hhp] at this
     have hdl : ∀ x ∈ s2.dirty, x < H.length := by
      intro x hx
      rcases hcomes.later.low x hx with h | h
      · cases h
      · exact h
     have hext : Ext (fun x => H.length ≤ x) H.get w Im θ s2.hp.get w' Im' θ' := by
      rw [← hhp]; exact hE
     obtain ⟨θ3, g1, g2, g3, -⟩ := finish_gen c1 c2 hfr hm2 hsame hdl hre hH2 hext hvu
     exact ⟨u, θ3, Im', rfl, g1, g2, g3⟩
def mtab : List (Nat × Code) → Nat → Option Code
 | [], _ => none
 | (g, c) :: l, f => bif Nat.beq g f then some c else mtab l f
theorem mtab_nil {T : LTab} : MOk P T (mtab []) := fun f c' h => by cases h
theorem mtab_cons {T : LTab} {g : Nat} {c' : Code} {l : List (Nat × Code)} {fn0 : Func} (hf : P.funcs[g]? = some fn0) (hb : fn0.body = some (fillC T c')) (hl : MOk P T (mtab l)) : MOk P T (mtab ((g, c') :: l)) := by
 intro f c2 h fn c hfn hc
 simp only [mtab] at h
 cases hg : Nat.beq g f with
 | true =>
  rw [hg] at h
  have e : g = f := Nat.eq_of_beq_eq_true hg
  subst e
  rw [hf] at hfn
  cases hfn
  rw [hb] at hc
  cases hc
  cases h
  rfl
 | false => rw [hg] at h; exact hl f c2 h fn c hfn hc
end Go.Am
/- The abstract machine: nil lists that are answered. -/
namespace Go.Am
variable {P : Program}
end Go.Am
/- The abstract machine: a nil answer as an empty list that has grown, beside what was handed in. -/
namespace Go.Am
variable {P : Program}
theorem known_grownC {f : FuncId} {s s' : CSumm} (h : Known P f s) (hs : ∀ args H v ups, crun (s' args H) = some (v, ups) → crun (s args H) = some (v, ups) ∨
  ∃ sz c, (∀ (ω : Nat → Value) (w : World) (Im : Nat → Prop) (θ : Th), θ H.length = none → CRel P ω w Im θ H.length c) ∧ v = .qs H.length sz 0 0 ∧ ups = [(H.length, some c)] ∧ (∀ x c, H.get x = some c → x ≠ H.length ∧ H.length ∉ namesC c) ∧ crun (s args H) = some (.nils, [])) : Known P f s' := by
 refine ⟨h.fn, ?_⟩
 intro args H v ups hr hc ω θ Im w us hl hH hfr
 rcases hs args H v ups hr with hr' | ⟨sz, c0, hc0, rfl, rfl, hcl, hr'⟩
 · exact h.ok args H v ups hr' hc ω θ Im w us hl hH hfr
 · refine (h.ok args H _ _ hr' hc ω θ Im w us hl hH hfr).mono ?_
   rintro o w' ⟨u, θ', Im', rfl, hE, hv, hH'⟩
   let θ2 : Th := fun x => if x = H.length then none else θ' x
   have t2 : ∀ x, x ≠ H.length → θ2 x = θ' x := fun x hx => if_neg hx
   have tn : θ2 H.length = none := if_pos rfl
   have hup : ∀ x c, updF [(H.length, some c0)] H.get x = some c → (x = H.length ∧ c = c0) ∨ (x ≠ H.length ∧ H.get x = some c) := by
    intro x c hx
    simp only [updF] at hx
    split at hx
    · rename_i h0; cases hx; exact .inl ⟨h0, rfl⟩
    · rename_i h0; exact .inr ⟨h0, hx⟩
   refine ⟨u, θ2, Im', rfl, ?_, ?_, ?_⟩
   · refine { thOld := fun x hx => ?_, thUp := fun x p hp => ?_, imUp := hE.imUp, size := hE.size, keep := hE.keep, os := hE.os, output := hE.output, tape := hE.tape, drawn := hE.drawn
              imNew := hE.imNew, ownNew := fun x c b N hx ht => ?_ }
     · have : x ≠ H.length := fun e => hx (by rw [e]; exact Nat.le_refl _)
       rw [t2 x this]; exact hE.thOld x hx
     · have : x ≠ H.length := fun e => by rw [e, hfr _ (Nat.le_refl _)] at hp; cases hp
       rw [t2 x this]; exact hE.thUp x p hp
     · rcases hup x c hx with ⟨rfl, _⟩ | ⟨h1, h2⟩
       · rw [tn] at ht; cases ht
       · rw [t2 x h1] at ht; exact hE.ownNew x c b N h2 ht
   · cases hv
     exact .qsnil rfl
   · refine ⟨fun x c hx => ?_, fun x y c c' b N N' hx hy h1 h2 => ?_, fun x c b N hx h1 => ?_, hH'.im, hH'.gl⟩
     · rcases hup x c hx with ⟨rfl, rfl⟩ | ⟨h1, h2⟩
       · exact hc0 _ _ _ _ tn
       · have := (hH'.at_ x c h2).ren id (θ2 := θ2) (fun z hz p hp => by
           show θ2 z = some p
           rw [t2 z (fun e => (hcl x c h2).2 (e ▸ hz))]; exact hp) (y := x) (t2 x h1)
         rwa [renC_fix id c (fun _ _ => rfl)] at this
     · rcases hup x c hx with ⟨rfl, _⟩ | ⟨g1, g2⟩
       · rw [tn] at h1; cases h1
       · rcases hup y c' hy with ⟨rfl, _⟩ | ⟨g3, g4⟩
         · rw [tn] at h2; cases h2
         · rw [t2 x g1] at h1
           rw [t2 y g3] at h2
           exact hH'.inj x y c c' b N N' g2 g4 h1 h2
     · rcases hup x c hx with ⟨rfl, _⟩ | ⟨g1, g2⟩
       · rw [tn] at h1; cases h1
       · rw [t2 x g1] at h1
         exact hH'.own x c b N g2 h1
end Go.Am
/- The abstract machine: a library function that is told by a contract of the shelf. -/
namespace Go.Am
open Go.RowKit Go.Sort
variable {P : Program}
theorem LRel.pair {ω : Nat → Value} {w : World} {Im : Nat → Prop} {θ : Th} {a b : SV} {us : List Value} (h : LRel P ω w Im θ [a, b] us) : ∃ u v, us = [u, v] ∧ VRel P ω w Im θ a u ∧ VRel P ω w Im θ b v := by
 match us, h.len with
 | [u, v], _ => exact ⟨u, v, rfl, h.at_ 0 a u rfl rfl, h.at_ 1 b v rfl rfl⟩
end Go.Am
/- The abstract machine: what a summary begins from, chosen by the world. -/
namespace Go.Am
variable {P : Program}
theorem known_pickH {f : FuncId} {s s' : CSumm} (h : Known P f s) (hs : ∀ args H v ups', crun (s' args H) = some (v, ups') → Canon H → ∀ (ω : Nat → Value) (w : World) (Im : Nat → Prop) (θ : Th), HRel P ω w Im θ H.get →
  ∃ H2 ups, crun (s args H2) = some (v, ups) ∧ Canon H2 ∧ H2.length = H.length ∧ HRel P ω w Im θ H2.get ∧ (∀ x c, H2.get x = some c → ∃ c', H.get x = some c') ∧
   (∀ x c', updF ups' H.get x = some c' → ∃ c, updF ups H2.get x = some c ∧ CoC P x c c')) : Known P f s' := by
 refine ⟨h.fn, ?_⟩
 intro args H v ups' hr hc ω θ Im w us hl hH hfr
 obtain ⟨H2, ups, hr', hc', hlen, hH2, hb, hu⟩ := hs args H v ups' hr hc ω w Im θ hH
 refine (h.ok args H2 v ups hr' hc' ω θ Im w us hl hH2 (fun x hx => hfr x (by rw [← hlen]; exact hx))).mono ?_
 rintro o w' ⟨u, θ', Im', rfl, hE, hvu, hH'⟩
 refine ⟨u, θ', Im', rfl, ?_, hvu, ?_⟩
 · rw [hlen] at hE
   refine { thOld := hE.thOld, thUp := hE.thUp, imUp := hE.imUp, size := hE.size, os := hE.os, output := hE.output, tape := hE.tape, drawn := hE.drawn, keep := fun b hb' hno => hE.keep b hb' (fun x c N hx hθ => ?_), imNew := fun b hb' => ?_, ownNew := fun x c' b N hx hθ => ?_ }
   · obtain ⟨c', h1⟩ := hb x c hx
     exact hno x c' N h1 hθ
   · rcases hE.imNew b hb' with h1 | ⟨x, c, N, h1, h2⟩ | h1
     · exact .inl h1
     · obtain ⟨c', h3⟩ := hb x c h1
       exact .inr (.inl ⟨x, c', N, h3, h2⟩)
     · exact .inr (.inr h1)
   · obtain ⟨c, h1, _⟩ := hu x c' hx
     rcases hE.ownNew x c b N h1 hθ with ⟨y, c1, N', h2, h3⟩ | h2
     · obtain ⟨c2, h4⟩ := hb y c1 h2
       exact .inl ⟨y, c2, N', h4, h3⟩
     · exact .inr h2
 · refine ⟨fun x c' hx => ?_, fun x y c c' b N N' hx hy h1 h2 => ?_, fun x c' b N hx hθ => ?_, hH'.im, hH'.gl⟩
   · obtain ⟨c, h1, h2⟩ := hu x c' hx
     exact h2 ω w' Im' θ' (hH'.at_ x c h1)
   · obtain ⟨c1, h3, _⟩ := hu x c hx
     obtain ⟨c2, h4, _⟩ := hu y c' hy
     exact hH'.inj x y c1 c2 b N N' h3 h4 h1 h2
   · obtain ⟨c, h1, _⟩ := hu x c' hx
     exact hH'.own x c b N h1 hθ
theorem HRel.one {ω : Nat → Value} {w : World} {Im : Nat → Prop} {θ : Th} {c c' : Chunk} (hr : HRel P ω w Im θ (HpL.get [(0, c)])) (hc : CRel P ω w Im θ 0 c') : HRel P ω w Im θ (HpL.get [(0, c')]) := by
 have h1 : ∀ x d, HpL.get [(0, c')] x = some d → x = 0 ∧ d = c' := by
  intro x d h
  simp only [HpL.get] at h
  cases h0 : Nat.beq 0 x with
  | true => rw [h0, cond_true] at h; cases h; exact ⟨(Nat.eq_of_beq_eq_true h0).symm, rfl⟩
  | false => rw [h0, cond_false] at h; cases h
 refine ⟨fun x d hx => ?_, fun x y d d' b N N' hx hy _ _ => by rw [(h1 x d hx).1, (h1 y d' hy).1], fun x d b N hx hb => ?_, hr.im, hr.gl⟩
 · obtain ⟨rfl, rfl⟩ := h1 x d hx; exact hc
 · obtain ⟨rfl, rfl⟩ := h1 x d hx; exact hr.own 0 c b N rfl hb
end Go.Am
