/- The abstract machine: calls, rounds, regions, code: what is carried out. -/
import Derived.Test.YtbeolnccdhjjeaaAmCode
namespace Go.Am
variable {P : Program} {ω : Nat → Value}

theorem lowB_spec {m : Nat} : ∀ (l : List Nat), lowB m l = true → ∀ x ∈ l, x < m
  | [], _, _, h => by cases h
  | y :: l, h, x, hx => by
    simp only [lowB, Bool.and_eq_true] at h
    rcases List.mem_cons.1 hx with rfl | hx
    · have := h.1; rwa [Nat.blt_eq] at this
    · exact lowB_spec l h.2 x hx
/- The results. -/
def resSem (tmps : Array Value) : ResultVar → Sem Value
  | .tmp t => pure (tmps.getD t undef)
  | .cell p t => do loadVar t (← asAddr (tmps.getD p undef))
theorem results_eq (f : Func) (tmps : Array Value) : results f tmps = (do
    let vs ← f.results.mapM (resSem tmps)
    pure (if h : vs.size = 1 then vs[0] else .tuple vs)) := by
  unfold results
  congr

theorem run_resultS {s : St} {a : Act} {w : World} {Im : Nat → Prop} {θ : Th} (hS : SimF P ω s.size s.tmp s.hp.get a w Im θ) {r : ResultVar} {v : SV} (h : resultS P s r = some v) :
    ∃ u, (resSem a.tmps r).run P w = .ok u w ∧ VRel P ω w Im θ v u := by
  cases r with
  | tmp t =>
    simp only [resultS] at h
    cases hb : Nat.blt t s.size with
    | false => simp [hb] at h
    | true =>
      simp only [hb, cond_true, Option.some.injEq] at h
      subst h
      exact ⟨_, rfl, hS.tm t (by rwa [Nat.blt_eq] at hb)⟩
  | cell p t =>
    simp only [resultS] at h
    have hp := hS.eval (.tmp p)
    simp only [evT, Act.eval] at hp
    split at h
    · rename_i x off hx
      rw [hx] at hp
      simp only [resSem]
      generalize a.tmps.getD p undef = u at hp ⊢
      cases hp with
      | ptr hθ =>
        split at h
        · rename_i T vs hg
          obtain ⟨b', cs, fr, h1, h2, h3, h4⟩ := hS.hp.at_ x _ hg
          rw [hθ] at h1
          simp only [Option.some.injEq, Prod.mk.injEq] at h1
          obtain ⟨rfl, _⟩ := h1
          obtain ⟨u, hru, hvu⟩ := run_loadVar_rel h2 h4 h
          exact ⟨u, by simp [asAddr, hru], hvu⟩
        · cases h
    · cases h

theorem run_resultsS {s : St} {a : Act} {w : World} {Im : Nat → Prop} {θ : Th} (hS : SimF P ω s.size s.tmp s.hp.get a w Im θ) : ∀ (rs : List ResultVar) (vs : List SV), resultsS P s rs = some vs →
    ∃ us, (rs.mapM (resSem a.tmps)).run P w = .ok us w ∧ LRel P ω w Im θ vs us
  | [], vs, h => by simp [resultsS] at h; subst h; exact ⟨[], rfl, rfl, fun i v u hv _ => by simp at hv⟩
  | r :: rs, vs, h => by
    simp only [resultsS] at h
    cases hr : resultS P s r with
    | none => simp [hr] at h
    | some v =>
      cases hrs : resultsS P s rs with
      | none => simp [hr, hrs] at h
      | some vs' =>
        simp only [hr, hrs, Option.some.injEq] at h
        subst h
        obtain ⟨u, h1, h2⟩ := run_resultS hS hr
        obtain ⟨us, h3, h4⟩ := run_resultsS hS rs vs' hrs
        refine ⟨u :: us, ?_, by simp [h4.len], fun i v' u' hv hu => ?_⟩
        · rw [List.mapM_cons]
          simp only [Sem.run_bind, h1, h3, Result.andThen_ok, Sem.run_pure]
        · cases i with
          | zero => simp at hv hu; subst hv; subst hu; exact h2
          | succ i => exact h4.at_ i v' u' (by simpa using hv) (by simpa using hu)

theorem run_results {s : St} {a : Act} {w : World} {Im : Nat → Prop} {θ : Th} {f : Func} (hS : SimF P ω s.size s.tmp s.hp.get a w Im θ) {vs : List SV} (h : resultsS P s f.results.toList = some vs) :
    ∃ u, (results f a.tmps).run P w = .ok u w ∧ VRel P ω w Im θ (oneOrTup vs) u := by
  obtain ⟨us, h1, h2⟩ := run_resultsS hS _ _ h
  rw [results_eq]
  simp only [Sem.run_bind, Array.mapM_eq_mapM_toList, Sem.run_map, h1, Result.andThen_ok, Sem.run_pure]
  have hlen := h2.len
  match vs, us, hlen, h2 with
  | [], [], _, h2 => exact ⟨_, rfl, .tup rfl (fun i v u hv _ => by simp at hv)⟩
  | [v], [u], _, h2 => exact ⟨_, rfl, h2.at_ 0 v u rfl rfl⟩
  | v1 :: v2 :: vs, u1 :: u2 :: us, hl, h2 =>
    refine ⟨.tuple (u1 :: u2 :: us).toArray, ?_, .tup (by simpa using hl) (fun i v u hv hu => h2.at_ i v u hv (by simpa using hu))⟩
    simp


/-- A function, by what its body comes to. -/
theorem body_calls {f : FuncId} {fn : Func} {c : Code} (hf : P.funcs[f]? = some fn) (hb : fn.body = some c) {s0 s2 : St} {e : Ex} (he : ∀ id, e ≠ .exit id) (hc : Comes P c s0 e s2) {us : List Value} {w : World} {Im : Nat → Prop} {θ : Th}
    (sim : Sim P ω none s0 { tmps := us.toArray ++ Array.replicate (fn.ntmps - us.toArray.size) undef, defers := [] } w Im θ) {vs : List SV} (hvs : resultsS P s2 fn.results.toList = some vs) {ρ : Option Nat} {R : Ending → World → Prop}
    (hR : ∀ u w' Im' θ', HRel P ω w' Im' θ' s2.hp.get → Fr s2.nx θ' s2.hp.get → Ext (fun x => s0.nx ≤ x) s0.hp.get w Im θ s2.hp.get w' Im' θ' → VRel P ω w' Im' θ' (oneOrTup vs) u → R (.returned u) w') : CallsIn (FR ρ) 0 P f us.toArray w R := by
  suffices h : CallsIn (FR none) 0 P f us.toArray w R by
    cases ρ with
    | none => exact h
    | some l => exact h
  refine callsIn_of_wp_marks hf hb trivial (hc.wp none _ _ w Im θ sim (fun a' w' Im' θ' sim' hE hN => ?_)) rfl
  have key : LeavesInM (FR none) 0 P fn a'.tmps R a'.defers .returning w' := by
    obtain ⟨rs, h1, h2, h3⟩ := sim'.sf.df
    obtain ⟨rs', h4, h5⟩ := hN
    have hge : ∀ r ∈ rs, w.heap.size ≤ r := by
      intro r hr
      have : mark r ∈ a'.defers := by rw [h1]; exact List.mem_map.2 ⟨r, hr, rfl⟩
      rw [h4] at this
      simp only [List.append_nil, List.mem_map] at this
      obtain ⟨q, hq, e⟩ := this
      simp only [mark, Deferred.mk.injEq, Target.collected.injEq, and_true] at e
      rw [← e]; exact h5 q hq
    rw [h1]
    refine leaves_marks rs w' h2 (fun r hr => (h3 r hr).1) (fun w3 g1 g2 g3 g4 g5 => ?_)
    have hI : ∀ b, Im' b → Im' b ∧ w3.heap[b]? = w'.heap[b]? := fun b hb => ⟨hb, g2 b (fun hr => (h3 b hr).2.1 hb)⟩
    have hH : HRel P ω w3 Im' θ' s2.hp.get := by
      refine ⟨fun x c hx => (sim'.sf.hp.at_ x c hx).mono hI (fun _ _ h => h) rfl (fun b N hb => g2 b (fun hr => (h3 b hr).2.2 x c N hx hb)), sim'.sf.hp.inj, fun x c b N hx hb => ?_, fun b hb => by rw [g1]; exact sim'.sf.hp.im b hb⟩
      rw [g1]; exact sim'.sf.hp.own x c b N hx hb
    have hS : SimF P ω s2.size s2.tmp s2.hp.get { a' with defers := [] } w3 Im' θ' :=
      ⟨sim'.sf.size, fun t ht => (sim'.sf.tm t ht).mono hI (fun _ _ h => h), sim'.sf.out, Mk.nil, hH⟩
    obtain ⟨u, hu1, hu2⟩ := run_results (f := fn) hS hvs
    refine ⟨u, hu1, hR u w3 Im' θ' hH sim'.fr ?_ hu2⟩
    refine ⟨hE.thOld, hE.thUp, hE.imUp, by rw [g1]; exact hE.size, fun b hb hno => ?_, hE.imNew, hE.ownNew, g3.trans hE.os, g4.trans hE.output, g5.trans hE.tape⟩
    rw [g2 b (fun hr => by have := hge b hr; omega)]
    exact hE.keep b hb hno
  cases e with
  | normal => exact key
  | ret => exact key
  | exit id => exact absurd rfl (he id)

/-- Another frame over the same heap. -/
theorem frame_sim {ρ : Option Nat} {s s2 : St} {a : Act} {w w' : World} {Im Im' : Nat → Prop} {θ θ' : Th} (sim : Sim P ω ρ s a w Im θ) (hs2 : StOk s2) (_ : Later s s2) (hH : HRel P ω w' Im' θ' s2.hp.get) (hF : Fr s2.nx θ' s2.hp.get)
    {new : Nat → Prop} (hE : Ext new s.hp.get w Im θ s2.hp.get w' Im' θ') : Sim P ω ρ { s2 with tm := s.tm, size := s.size, rd := s.rd } a w' Im' θ' := by
  have hm := hs2.m
  refine ⟨⟨sim.ok.size, hs2.nx, sim.ok.out, hs2.dom, hs2.m⟩, ⟨sim.sf.size, fun t ht => hE.val sim.sf.hp (sim.sf.tm t ht), sim.sf.out, sim.sf.df.step hE, hH⟩, hF, ?_⟩
  rcases sim.rd with h | ⟨y, b, N, h1, h2, h3⟩
  · exact .inl h
  · exact .inr ⟨y, b, N, h1, hE.thUp _ _ h2, h3⟩

section
variable {R D : Type} {fl : R} {den : R → Option D} (hfl : den fl = none) {rec : Rcr R} (hrec : RcrOk P den rec)
include hfl hrec

theorem callIn_run {f : Nat} {args : List SV} {s : St} {k : SV → St → R} {d : D} (hs : StOk s) (h : den (callIn fl P rec f args s k) = some d) :
    ∃ r s', StOk s' ∧ Later s s' ∧ s'.tm = s.tm ∧ s'.size = s.size ∧ s'.rd = s.rd ∧ den (k r s') = some d ∧ (∃ fn, P.funcs[f]? = some fn ∧ (fn.name == "runtime.NumGoroutine") = false ∧ fn.body.isNone = false) ∧
      ∀ (ω : Nat → Value) (ρ : Option Nat) (a : Act) (w : World) (Im : Nat → Prop) (θ : Th) (us : List Value) (R' : Ending → World → Prop), Sim P ω ρ s a w Im θ → LRel P ω w Im θ args us →
        (∀ u w' Im' θ', Sim P ω ρ s' a w' Im' θ' → Ext (fun x => s.nx ≤ x) s.hp.get w Im θ s'.hp.get w' Im' θ' → VRel P ω w' Im' θ' r u → R' (.returned u) w') → CallsIn (FR ρ) 0 P f us.toArray w R' := by
  unfold callIn at h
  cases hf : P.funcs[f]? with
  | none => rw [hf] at h; exact (fl_no hfl h).elim
  | some fn =>
    rw [hf] at h
    simp only [] at h
    cases hb : fn.body with
    | none => rw [hb] at h; exact (fl_no hfl h).elim
    | some c =>
      rw [hb] at h
      simp only [] at h
      cases hc : Nat.ble args.length fn.ntmps && Nat.blt fn.ntmps 16000 && !(fn.name == "runtime.NumGoroutine") with
      | false => rw [hc] at h; exact (fl_no hfl h).elim
      | true =>
        rw [hc] at h
        simp only [cond_true] at h
        simp only [Bool.and_eq_true, Bool.not_eq_true'] at hc
        obtain ⟨⟨c1, c2⟩, c3⟩ := hc
        have h1 : args.length ≤ fn.ntmps := by rwa [Nat.ble_eq] at c1
        have h2 : fn.ntmps < 16000 := by rwa [Nat.blt_eq] at c2
        obtain ⟨e, s2, hs2, hcm, h3⟩ := hrec _ _ _ _ (enter_ok hs h1 h2) h
        have he : ∀ id, e ≠ .exit id := by
          rintro id rfl
          exact fl_no hfl h3
        have h4 : den (match resultsS P s2 fn.results.toList with
          | some vs => k (oneOrTup vs) { s2 with tm := s.tm, size := s.size, rd := s.rd }
          | none => fl) = some d := by
          cases e with
          | exit id => exact absurd rfl (he id)
          | normal => exact h3
          | ret => exact h3
        cases hvs : resultsS P s2 fn.results.toList with
        | none => rw [hvs] at h4; exact (fl_no hfl h4).elim
        | some vs =>
          rw [hvs] at h4
          simp only [] at h4
          have hl : Later s s2 := ⟨hcm.later.m, hcm.later.nx, hcm.later.same, hcm.later.up, hcm.later.low⟩
          refine ⟨oneOrTup vs, { s2 with tm := s.tm, size := s.size, rd := s.rd }, ⟨hs.size, hs2.nx, hs.out, hs2.dom, hs2.m⟩, frame_later s s2 _ _ _ hl, rfl, rfl, rfl, h4, ⟨fn, rfl, c3, by rw [hb]; rfl⟩, ?_⟩
          intro ω ρ a w Im θ us R' sim hl' hR
          refine body_calls hf hb he hcm (enter_sim hs h1 h2 sim.sf.hp sim.fr hl') hvs (fun u w' Im' θ' hH hF hE hv => ?_)
          exact hR u w' Im' θ' (frame_sim sim hs2 hl hH hF hE) hE hv
end
end Go.Am
