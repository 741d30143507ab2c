/- The abstract machine: a round of a range over a function; operations one after the other. -/
import Derived.Test.YtbeolnccdhjjeaaAmRound
namespace Go.Am
variable {P : Program} {ω : Nat → Value}

theorem setPs_out {n : Nat} (hn : n < 16000) : ∀ (ps : List Nat) (vs : List SV) (t : Tr SV), lowB n ps = true → (∀ j, n ≤ j → t.get j = none) → ∀ j, n ≤ j → (setPs ps vs t).get j = none
  | [], vs, t, _, h => by
    have e1 : setPs [] vs t = t := by cases vs <;> rfl
    rw [e1]; exact h
  | p :: ps, [], t, _, h => h
  | p :: ps, v :: vs, t, hl, h => by
    simp only [lowB, Bool.and_eq_true] at hl
    have hp : p < n := by have := hl.1; rwa [Nat.blt_eq] at this
    simp only [setPs]
    refine setPs_out hn ps vs _ hl.2 (fun j hj => ?_)
    rw [Tr.get_set 14 t p (some v) j (by omega), if_neg (by omega)]
    exact h j hj

theorem round_ok {s : St} (hs : StOk s) {x : Nat} {vs args : List SV} {ps : List Nat} (h2 : lowB vs.length ps = true) (h3 : vs.length < 16000) : StOk { s with tm := setPs ps args (argsTr vs 0 .lf), size := vs.length, rd := some x } := by
  refine ⟨h3, hs.nx, fun t ht => ?_, hs.dom, hs.m⟩
  have ht' : vs.length ≤ t := ht
  simp only [St.tmp]
  rw [setPs_out h3 ps args _ h2 (fun j hj => by rw [argsTr_get vs 0 .lf j (by omega), if_neg (by omega)]; rfl) t ht']

/-- One chunk is turned, in a state. -/
theorem turn_ok {s : St} {x : Nat} {c : Chunk} (c' : Option Chunk) (hx : s.hp.get x = some c) (hs : StOk s) :
    StOk (s.upd [(x, c')] s.nx) ∧ Later s (s.upd [(x, c')] s.nx) ∧ (s.upd [(x, c')] s.nx).hp.get = updF [(x, c')] s.hp.get := by
  have hlt := hs.dom x _ hx
  have hk : ∀ p ∈ [(x, c')], p.1 < s.nx := by
    intro p hp
    simp only [List.mem_singleton] at hp
    subst hp; exact hlt
  exact ⟨upd_ok hs (Nat.le_refl _) hs.nx hk, upd_later (Nat.le_refl _) (fun p hp => by have := hk p hp; have := hs.nx; omega), upsTr_get _ _ (fun p hp => by have := hk p hp; have := hs.nx; omega)⟩

theorem Sim.turn {ρ : Option Nat} {s : St} {a : Act} {w w' : World} {Im : Nat → Prop} {θ : Th} (sim : Sim P ω ρ s a w Im θ) {x : Nat} {c : Chunk} {c' : Option Chunk} (hx : s.hp.get x = some c)
    (hE : Ext (fun _ => False) s.hp.get w Im θ (updF [(x, c')] s.hp.get) w' Im θ) (hH : HRel P ω w' Im θ (updF [(x, c')] s.hp.get)) : Sim P ω ρ (s.upd [(x, c')] s.nx) a w' Im θ ∧ Ext (fun x => s.nx ≤ x) s.hp.get w Im θ (s.upd [(x, c')] s.nx).hp.get w' Im θ := by
  obtain ⟨h1, h2, h3⟩ := turn_ok c' hx sim.ok
  have hlt := sim.ok.dom x _ hx
  refine ⟨⟨h1, ?_, ?_, sim.rd⟩, by rw [h3]; exact hE.mono (fun _ h => h.elim)⟩
  · have := sim.sf.step (dst := none) trivial hE (VRel'.junk (u := undef)) hH
    rw [h3]
    exact this
  · rw [h3]
    intro y hy
    have hy' : s.nx ≤ y := hy
    obtain ⟨g1, g2⟩ := sim.fr y hy'
    refine ⟨g1, ?_⟩
    have : ¬ y = x := by omega
    simp [updF, this, g2]

section
variable {R D : Type} {fl : R} {den : R → Option D} (hfl : den fl = none) {rec : Rcr R} (hrec : RcrOk P den rec)
include hfl hrec

theorem roundIn_run {x : Nat} {args : List SV} {s : St} {k : Bool → St → R} {d : D} (hs : StOk s) (h : den (roundIn fl rec x args s k) = some d) :
    ∃ r s', StOk s' ∧ Later s s' ∧ s'.tm = s.tm ∧ s'.size = s.size ∧ s'.rd = s.rd ∧ den (k r s') = some d ∧
      ∀ (ω : Nat → Value) (ρ : Option Nat) (a : Act) (w : World) (Im : Nat → Prop) (θ : Th) (us : List Value) (b N : Nat) (R' : Ending → World → Prop), Sim P ω ρ s a w Im θ → LRel P ω w Im θ args us → θ x = some (b, N) →
        (∀ w' Im' θ', Sim P ω ρ s' a w' Im' θ' → Ext (fun x => s.nx ≤ x) s.hp.get w Im θ s'.hp.get w' Im' θ' → R' (.returned (.bool r)) w') →
        ∃ lp : Loop, w.heap[b]? = some (.loop lp) ∧ us.length = lp.params.size ∧ RoundIn (FR ρ) 0 P b lp.fn ((lp.params.zip us.toArray).foldl (fun tmps (t, a) => tmps.setIfInBounds t a) lp.tmps) lp.assign lp.body w R' := by
  unfold roundIn at h
  split at h
  case h_2 => exact (fl_no hfl h).elim
  rename_i vs ps asg bdy hx
  cases hc : Nat.beq ps.size args.length && lowB vs.length ps.toList && Nat.blt vs.length 16000 with
  | false => rw [hc] at h; exact (fl_no hfl h).elim
  | true =>
    rw [hc] at h
    simp only [cond_true] at h
    simp only [Bool.and_eq_true] at hc
    obtain ⟨⟨c1, c2⟩, c3⟩ := hc
    have h1 : ps.size = args.length := Nat.eq_of_beq_eq_true c1
    have h3 : vs.length < 16000 := by rwa [Nat.blt_eq] at c3
    obtain ⟨e, s1, hs1, hcA, h4⟩ := hrec _ _ _ _ (round_ok hs (x := x) (args := args) c2 h3) h
    cases e with
    | exit id => exact (fl_no hfl h4).elim
    | ret => exact (fl_no hfl h4).elim
    | normal =>
      simp only [] at h4
      split at h4
      case h_2 => exact (fl_no hfl h4).elim
      rename_i vs1 ps1 asg1 bdy1 hx1
      obtain ⟨o1, l1, g1⟩ := turn_ok (some (.loopr .busy vs1 ps1 asg1 bdy1)) hx1 hs1
      obtain ⟨e2, s2, hs2, hcB, h5⟩ := hrec _ _ _ _ o1 h4
      split at h5
      case h_2 => exact (fl_no hfl h5).elim
      rename_i vs2 ps2 asg2 bdy2 hx2
      obtain ⟨o2, l2, g2⟩ := turn_ok (some (.loopr (endSt e2) vs2 ps2 asg2 bdy2)) hx2 hs2
      have lA : Later s s1 := ⟨hcA.later.m, hcA.later.nx, hcA.later.same, hcA.later.up, hcA.later.low⟩
      have lAll : Later s (s2.upd [(x, some (.loopr (endSt e2) vs2 ps2 asg2 bdy2))] s2.nx) := ((lA.trans l1).trans hcB.later).trans l2
      refine ⟨isNormal e2, { s2.upd [(x, some (.loopr (endSt e2) vs2 ps2 asg2 bdy2))] s2.nx with tm := s.tm, size := s.size, rd := s.rd }, ⟨hs.size, o2.nx, hs.out, o2.dom, o2.m⟩, frame_later s _ _ _ _ lAll, rfl, rfl, rfl, h5, ?_⟩
      intro ω ρ a w Im θ us b N R' sim hl hθ hR
      obtain ⟨lp, hw, e1, e2', e3, e4, hv, -⟩ := put_loop (st' := .busy) sim.sf.hp hx hθ
      refine ⟨lp, hw, by rw [e1, h1, hl.len], ?_⟩
      rw [e1, e2', e3]
      have simA := (round_sim hs sim.sf.hp sim.fr hθ h1 c2 h3 hv hl).2
      refine roundIn_of_wpIn (FR_fn ρ _) ?_
      show asg.wpIn (FR (some b)) 0 P _ _ w
      refine hcA.wp (some b) _ _ w Im θ simA (fun a1 w1 Im1 θ1 sim1 hE1 _ => ?_)
      have hθ1 : θ1 x = some (b, N) := hE1.thUp _ _ hθ
      obtain ⟨lp1, hw1, -, -, -, f4, -, hput1⟩ := put_loop (st' := .busy) sim1.sf.hp hx1 hθ1
      obtain ⟨hEb, hHb⟩ := hput1 .busy none ⟨rfl, rfl⟩
      have hlp : ({ lp1 with state := .busy, pending := none } : Loop) = { lp1 with state := .busy } := by
        have := f4.2
        rw [← this]
      rw [hlp] at hEb hHb
      obtain ⟨simB, hEB⟩ := sim1.turn hx1 hEb hHb
      refine ⟨_, run_beginRound hw1 f4.1, ?_⟩
      show bdy.wpIn (FR (some b)) 0 P _ _ _
      refine hcB.wp (some b) _ _ _ _ _ simB (fun a2 w2 Im2 θ2 sim2 hE2 _ => ?_)
      have hθ2 : θ2 x = some (b, N) := hE2.thUp _ _ hθ1
      obtain ⟨lp2, hw2, -, -, -, -, -, hput2⟩ := put_loop (st' := endSt e2) sim2.sf.hp hx2 hθ2
      have fin : ∀ (st : LoopState) (pe : Option Code), stRel (endSt e2) st pe → R' (.returned (.bool (isNormal e2))) (w2.putObj b (.loop { lp2 with state := st, pending := pe })) := by
        intro st pe hst
        obtain ⟨hEc, hHc⟩ := hput2 st pe hst
        obtain ⟨simC, hEC⟩ := sim2.turn hx2 hEc hHc
        have hE : Ext (fun x => s.nx ≤ x) s.hp.get w Im θ (s2.upd [(x, some (.loopr (endSt e2) vs2 ps2 asg2 bdy2))] s2.nx).hp.get (w2.putObj b (.loop { lp2 with state := st, pending := pe })) Im2 θ2 := by
          have m1 : ∀ y, s1.nx ≤ y → s.nx ≤ y := fun y hy => Nat.le_trans lA.nx hy
          have m2 : ∀ y, s2.nx ≤ y → s.nx ≤ y := fun y hy => Nat.le_trans lAll.nx hy
          exact ((hE1.trans (hEB.mono m1)).trans (hE2.mono m1)).trans (hEC.mono m2)
        exact hR _ Im2 θ2 (frame_sim sim o2 lAll simC.sf.hp simC.fr hE) hE
      cases e2 with
      | normal =>
        exact ⟨_, _, run_endRound none hw2, fin .ready none ⟨rfl, rfl⟩⟩
      | ret =>
        exact ⟨_, _, run_endRound (some .ret) hw2, fin .done (some .ret) ⟨rfl, rfl, by simp⟩⟩
      | exit id =>
        exact ⟨_, _, run_endRound (some (.exit id)) hw2, fin .done (some (.exit id)) ⟨rfl, rfl, by simp⟩⟩
end
end Go.Am
