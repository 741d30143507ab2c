/- The abstract machine: a range over a function. -/
import Derived.Test.YtbeolnccdhjjeaaAmExec4
import Derived.RangeFuncNested
namespace Go.Am
variable {P : Program} {ω : Nat → Value}

/-- The statement is entered. -/
theorem enter_range {ρ : Option Nat} {s : St} {a : Act} {w : World} {Im : Nat → Prop} {θ : Th} (sim : Sim P ω ρ s a w Im θ) (hrd : rdOk s = true) (hnx : s.nx + 1 < 1000000) (ps : Array Nat) (asg bdy : Code) (fn : FuncId) :
    ∃ (l : Nat) (mk : List Nat) (w1 : World) (θ1 : Th), (Instr.enterLoop fn a.tmps ps asg bdy ρ).run P w = .ok (l, mk.map mark) w1 ∧
      Sim P ω ρ (s.upd [(s.nx, some (.loopr .ready (listOfTr s s.size 0) ps asg bdy))] (s.nx + 1)) { a with defers := mk.map mark ++ a.defers } w1 Im θ1 ∧
      Ext (fun x => s.nx ≤ x) s.hp.get w Im θ (s.upd [(s.nx, some (.loopr .ready (listOfTr s s.size 0) ps asg bdy))] (s.nx + 1)).hp.get w1 Im θ1 ∧ θ1 s.nx = some (l, 0) ∧ ∀ r ∈ mk, w.heap.size ≤ r := by
  have hs := sim.ok
  have hk : ∀ p ∈ [(s.nx, some (Chunk.loopr .ready (listOfTr s s.size 0) ps asg bdy))], p.1 < s.nx + 1 := by
    intro p hp
    simp only [List.mem_singleton] at hp
    subst hp; exact Nat.lt_succ_self _
  have ou := upd_ok hs (Nat.le_succ _) hnx hk
  have hhp : (s.upd [(s.nx, some (.loopr .ready (listOfTr s s.size 0) ps asg bdy))] (s.nx + 1)).hp.get = updF [(s.nx, some (.loopr .ready (listOfTr s s.size 0) ps asg bdy))] s.hp.get :=
    upsTr_get _ _ (fun p hp => by have := hk p hp; omega)
  obtain ⟨f1, f2⟩ := sim.fr s.nx (Nat.le_refl _)
  -- what both ways have in common
  have core : ∀ (wA : World) (lp : Loop), Ext (fun _ => False) s.hp.get w Im θ s.hp.get wA Im θ → HRel P ω wA Im θ s.hp.get → lp.tmps = a.tmps → lp.params = ps → lp.assign = asg → lp.body = bdy → lp.state = .ready → lp.pending = none →
      ∃ θ1, Ext (fun x => s.nx ≤ x) s.hp.get w Im θ (s.upd [(s.nx, some (.loopr .ready (listOfTr s s.size 0) ps asg bdy))] (s.nx + 1)).hp.get (wA.alloc (.loop lp)) Im θ1 ∧
        HRel P ω (wA.alloc (.loop lp)) Im θ1 (s.upd [(s.nx, some (.loopr .ready (listOfTr s s.size 0) ps asg bdy))] (s.nx + 1)).hp.get ∧ θ1 s.nx = some (wA.heap.size, 0) ∧ (∀ x, x ≠ s.nx → θ1 x = θ x) ∧
        (∀ ds, Mk (wA.alloc (.loop lp)) Im θ1 (s.upd [(s.nx, some (.loopr .ready (listOfTr s s.size 0) ps asg bdy))] (s.nx + 1)).hp.get ds →
          Sim P ω ρ (s.upd [(s.nx, some (.loopr .ready (listOfTr s s.size 0) ps asg bdy))] (s.nx + 1)) { a with defers := ds } (wA.alloc (.loop lp)) Im θ1) := by
    intro wA lp hE hH h1 h2 h3 h4 h5 h6
    have hSA : SimF P ω s.size s.tmp s.hp.get a wA Im θ := sim.sf.step (dst := none) trivial hE (VRel'.junk (u := undef)) hH
    obtain ⟨θ1, g1, g2, g3⟩ := alloc_loop (st := .ready) hH f1 (lp := lp) (vs := listOfTr s s.size 0) (by rw [h1]; exact list_rel hSA) ⟨h5, h6⟩
    rw [h2, h3, h4, ← hhp] at g1 g2
    have hEE : Ext (fun x => s.nx ≤ x) s.hp.get w Im θ (s.upd [(s.nx, some (.loopr .ready (listOfTr s s.size 0) ps asg bdy))] (s.nx + 1)).hp.get (wA.alloc (.loop lp)) Im θ1 :=
      (hE.mono (fun _ h => h.elim)).trans (g1.mono (fun x hx => hx.1))
    refine ⟨θ1, hEE, g2, g3, fun x hx => g1.thOld x (fun hh => hx (by omega)), fun ds hds => ⟨ou, ⟨sim.sf.size, fun t ht => hEE.val sim.sf.hp (sim.sf.tm t ht), sim.sf.out, hds, g2⟩, ?_, ?_⟩⟩
    · rw [hhp]
      intro y hy
      have hy' : s.nx + 1 ≤ y := hy
      obtain ⟨k1, k2⟩ := sim.fr y (by omega)
      have hne : y ≠ s.nx := by omega
      refine ⟨by rw [g1.thOld y (fun hh => by omega)]; exact k1, by simp [updF, hne, k2]⟩
    · rcases sim.rd with h | ⟨y, b, N, k1, k2, k3⟩
      · exact .inl h
      · exact .inr ⟨y, b, N, k1, hEE.thUp _ _ k2, k3⟩
  rcases sim.rd with ⟨hr0, rfl⟩ | ⟨y, b, N, k1, k2, rfl⟩
  · -- the outermost
    obtain ⟨hE, hH⟩ := alloc_free sim.sf.hp (.deferred (some []))
    obtain ⟨θ1, g1, g2, g3, g4, g5⟩ := core _ { state := .ready, pending := none, fn := fn, tmps := a.tmps, params := ps, assign := asg, body := bdy, defers := w.heap.size } hE hH rfl rfl rfl rfl rfl rfl
    refine ⟨_, [w.heap.size], _, θ1, run_enterLoop_outer fn a.tmps ps asg bdy, g5 _ ?_, g1, by rw [g3]; simp, fun r hr => by simp at hr; omega⟩
    obtain ⟨rs, h1, h2, h3⟩ := sim.sf.df.step g1
    refine ⟨w.heap.size :: rs, by simp [h1, mark], List.nodup_cons.2 ⟨fun hh => ?_, h2⟩, fun r hr => ?_⟩
    · obtain ⟨rs', h1', -, h3'⟩ := sim.sf.df
      have : mark w.heap.size ∈ a.defers := by rw [h1]; exact List.mem_map.2 ⟨_, hh, rfl⟩
      rw [h1'] at this
      obtain ⟨q, hq, e⟩ := List.mem_map.1 this
      simp only [mark, Deferred.mk.injEq, Target.collected.injEq, and_true] at e
      have := heap_lt (h3' q hq).1
      omega
    · rcases List.mem_cons.1 hr with rfl | hr
      · refine ⟨?_, fun hi => ?_, fun x c M hx hθ => ?_⟩
        · rw [alloc_old _ _ _ (by simp), alloc_new]
        · have := sim.sf.hp.im _ hi; omega
        · by_cases hxn : x = s.nx
          · subst hxn
            rw [g3] at hθ
            simp only [Option.some.injEq, Prod.mk.injEq, World.size_alloc] at hθ
            omega
          · rw [g4 x hxn] at hθ
            rw [hhp] at hx
            simp only [updF, if_neg hxn] at hx
            have := (sim.sf.hp.own x c _ M hx hθ).2
            omega
      · exact h3 r hr
  · -- in a round
    have hl : ∃ lp : Loop, w.heap[b]? = some (.loop lp) := by
      unfold rdOk at hrd
      rw [k1] at hrd
      simp only [] at hrd
      split at hrd
      · rename_i hy
        obtain ⟨b', N', lp, j1, j2, -⟩ := sim.sf.hp.at_ y _ hy
        rw [k2] at j1
        simp only [Option.some.injEq, Prod.mk.injEq] at j1
        exact ⟨lp, by rw [j1.1]; exact j2⟩
      · cases hrd
    obtain ⟨lp, hlp⟩ := hl
    obtain ⟨θ1, g1, g2, g3, g4, g5⟩ := core w { state := .ready, pending := none, fn := fn, tmps := a.tmps, params := ps, assign := asg, body := bdy, defers := lp.defers } (Ext.refl _) sim.sf.hp rfl rfl rfl rfl rfl rfl
    exact ⟨_, [], _, θ1, run_enterLoop_inner hlp fn a.tmps ps asg bdy, g5 _ (sim.sf.df.step g1), g1, g3, fun r hr => by cases hr⟩

section
variable {R D : Type} {fl : R} {den : R → Option D} (hfl : den fl = none) {rec : Rcr R} (hrec : RcrOk P den rec) {κ : Nat → Option CSumm} {ι : Nat → Bool}
include hfl hrec

theorem range_run {g : Operand} {ps : Array Tmp} {asg bdy : Code} {s : St} {k : Ex → St → R} {d : D} (hs : StOk s) (h : den (execC fl P κ ι rec (.rangeFunc g ps asg bdy) s k) = some d) :
    ∃ e s2, StOk s2 ∧ Comes P (.rangeFunc g ps asg bdy) s e s2 ∧ den (k e s2) = some d := by
  simp only [execC] at h
  split at h
  case h_2 => exact (fl_no hfl h).elim
  rename_i f first caps hg
  cases hc : rdOk s && Nat.blt (s.nx + 1) 1000000 with
  | false => rw [hc] at h; exact (fl_no hfl h).elim
  | true =>
    rw [hc] at h
    simp only [cond_true] at h
    simp only [Bool.and_eq_true] at hc
    have hnx : s.nx + 1 < 1000000 := by have := hc.2; rwa [Nat.blt_eq] at this
    have hk : ∀ p ∈ [(s.nx, some (Chunk.loopr .ready (listOfTr s s.size 0) ps asg bdy))], p.1 < s.nx + 1 := by
      intro p hp
      simp only [List.mem_singleton] at hp
      subst hp; exact Nat.lt_succ_self _
    have ou := upd_ok hs (Nat.le_succ _) hnx hk
    have ol : Later s (s.upd [(s.nx, some (Chunk.loopr .ready (listOfTr s s.size 0) ps asg bdy))] (s.nx + 1)) := upd_later (Nat.le_succ _) (fun p hp => by have := hk p hp; omega)
    obtain ⟨r, s1, hs1, hl1, e1, e2, e3, h2, ⟨fnc, hfn, hn1, hn2⟩, hw⟩ := callIn_run hfl hrec ou h
    -- the end of it
    have fin : ∀ (st : LS) (e : Ex) (vs1 : List SV) (ps1 : Array Nat) (asg1 bdy1 : Code), s1.hp.get s.nx = some (.loopr st vs1 ps1 asg1 bdy1) → ((st = .ready ∧ e = .normal) ∨ st = .done e) →
        StOk (s1.upd [(s.nx, none)] s1.nx) ∧ Comes P (.rangeFunc g ps asg bdy) s e (s1.upd [(s.nx, none)] s1.nx) := by
      intro st e vs1 ps1 asg1 bdy1 hx1 hst
      obtain ⟨o2, l2, g2⟩ := turn_ok none hx1 hs1
      refine ⟨o2, (ol.trans hl1).trans l2, e2, e3, 0, fun ω ρ Q a w Im θ sim hA => ?_⟩
      show (Code.rangeFunc g ps asg bdy).wpIn (FR ρ) 0 P Q a w
      refine wpIn_rangeFunc (fun fn _ => ?_)
      obtain ⟨l, mk, w1, θ1, hen, sim0, hE0, hθ1, hmk⟩ := enter_range sim hc.1 hnx ps asg bdy fn
      have hf := sim.sf.eval g
      rw [← evT_ev, hg] at hf
      generalize hu : a.eval g = u at hf
      cases hf with
      | fn h1 h3 h4 h5 =>
        rename_i us vs
        have lift : ∀ {v : SV} {u : Value}, VRel P ω w Im θ v u → VRel P ω w1 Im θ1 v u := fun hv => hE0.val sim.sf.hp hv
        have hl : LRel P ω w1 Im θ1 (first ++ ([.yl s.nx] ++ caps)) (us.toList ++ ([.func (.yield l) #[] #[]] ++ vs.toList)) := by
          refine LRel.append ⟨by simpa using h1, fun i v u hv hu => lift (h4 i v u hv (by simpa using hu))⟩ (LRel.append ⟨rfl, fun i v u hv hu => ?_⟩ ⟨by simpa using h3, fun i v u hv hu => lift (h5 i v u hv (by simpa using hu))⟩)
          match i, hv, hu with
          | 0, hv, hu => cases hv; cases hu; exact .yl hθ1
        have ee : (us.toList ++ ([Value.func (.yield l) #[] #[]] ++ vs.toList)).toArray = us ++ #[Value.func (.yield l) #[] #[]] ++ vs := by
          apply Array.ext'
          simp
        have hn1' : ¬ fnc.name = "runtime.NumGoroutine" := by simpa using hn1
        have hn2' : ¬ fnc.body = none := by intro hh; simp [hh] at hn2
        refine ⟨l, mk.map mark, w1, { target := .fn (.func f) vs, args := us ++ #[.func (.yield l) #[] #[]] }, w1, f, (us.toList ++ ([Value.func (.yield l) #[] #[]] ++ vs.toList)).toArray, w1, hen, ?_, fun f' _ => FR_fn ρ f', ?_, FR_depth1 ρ, ?_⟩
        · have hcst : a.eval (.const (.func (.yield l) #[] #[])) = .func (.yield l) #[] #[] := rfl
          simp [resolve, hu, Deferred.ofValue, hcst]
        · rw [ee]
          simp [invoke, callFunc, hfn, hn1', hn2']
        · refine hw _ ρ { a with defers := mk.map mark ++ a.defers } w1 Im θ1 _ _ sim0 hl (fun v w' Im' θ' sim' hE hv => ?_)
          have hθ' : θ' s.nx = some (l, 0) := hE.thUp _ _ hθ1
          obtain ⟨b', N', lp', j1, j2, -, -, -, j3, -⟩ := sim'.sf.hp.at_ _ _ hx1
          rw [hθ'] at j1
          simp only [Option.some.injEq, Prod.mk.injEq] at j1
          obtain ⟨rfl, rfl⟩ := j1
          have hnb : lp'.state ≠ .busy := by
            rcases hst with ⟨rfl, -⟩ | rfl
            · rw [j3.1]; simp
            · rw [j3.1]; simp
          obtain ⟨hEd, hHd⟩ := put_block sim'.sf.hp hx1 hθ' (.loop { lp' with state := .exhausted }) none (fun _ d hd => by cases hd)
          obtain ⟨sim2, hE2⟩ := sim'.turn hx1 hEd hHd
          have hEall : Ext (fun x => s.nx ≤ x) s.hp.get w Im θ (s1.upd [(s.nx, none)] s1.nx).hp.get (w'.putObj l (.loop { lp' with state := .exhausted })) Im' θ' :=
            (hE0.trans (hE.mono (fun x hx => Nat.le_trans ol.nx hx))).trans (hE2.mono (fun x hx => Nat.le_trans (ol.trans hl1).nx hx))
          have hQ : Q (exitOf e) { a with defers := mk.map mark ++ a.defers } (w'.putObj l (.loop { lp' with state := .exhausted })) := hA _ _ Im' θ' sim2 hEall ⟨mk, rfl, hmk⟩
          refine ⟨lp'.pending, _, run_endLoop j2 hnb, ?_⟩
          rcases hst with ⟨rfl, rfl⟩ | rfl
          · rw [j3.2] at hQ ⊢; exact hQ
          · rw [j3.2.1] at hQ ⊢
            cases e with
            | normal => exact absurd j3.2.1 j3.2.2
            | ret => exact wpIn_ret hQ
            | exit id => exact wpIn_exit hQ
    split at h2
    · rename_i vs1 ps1 asg1 bdy1 hx1
      obtain ⟨o2, hcm⟩ := fin .ready .normal _ _ _ _ hx1 (.inl ⟨rfl, rfl⟩)
      exact ⟨.normal, _, o2, hcm, h2⟩
    · rename_i e vs1 ps1 asg1 bdy1 hx1
      obtain ⟨o2, hcm⟩ := fin (.done e) e _ _ _ _ hx1 (.inr rfl)
      exact ⟨e, _, o2, hcm, h2⟩
    · exact (fl_no hfl h2).elim
end
end Go.Am
