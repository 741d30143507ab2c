/- The abstract machine: code. -/
import Derived.Test.YtbeolnccdhjjeaaAmRange
import Derived.Test.YtbeolnccdhjjeaaAmScope
namespace Go.Am
variable {P : Program} {ω : Nat → Value}

theorem comes_self {c : Code} {s : St} {e : Ex} (h : ∀ (ρ : Option Nat) (Q : Exit → Act → World → Prop) (a : Act) (w : World), Q (exitOf e) a w → W P ρ 0 c Q a w) : Comes P c s e s :=
  ⟨Later.refl s, rfl, rfl, 0, fun _ ρ Q a w Im θ sim hA => h ρ Q a w (hA a w Im θ sim (Ext.refl _) (New.refl rfl))⟩

section
variable {R D : Type} {fl : R} {den : R → Option D} (hfl : den fl = none) {rec : Rcr R} (hrec : RcrOk P den rec) {κ : Nat → Option CSumm} {ι : Nat → Bool} (hκ : KOk P κ)
include hfl hrec hκ

theorem execC_ok (hmix : P.follows .mixedOrders = true) : RcrOk P den (execC fl P κ ι rec) := by
  intro c
  induction c with
  | skip => intro s k d hs h; exact ⟨.normal, s, hs, comes_self (fun ρ Q a w hq => wpIn_skip hq), h⟩
  | region id ops draw =>
    intro s k d hs h
    obtain ⟨s', hs', hc, h1⟩ := region_run hfl hrec hκ (id := id) hmix hs h
    exact ⟨.normal, s', hs', hc, h1⟩
  | seq x y ihx ihy =>
    intro s k d hs h
    simp only [execC] at h
    obtain ⟨e, s1, hs1, hc1, h1⟩ := ihx s _ d hs h
    cases e with
    | normal =>
      simp only [] at h1
      obtain ⟨e2, s2, hs2, hc2, h2⟩ := ihy s1 k d hs1 h1
      refine ⟨e2, s2, hs2, ⟨hc1.later.trans hc2.later, by rw [hc2.size, hc1.size], by rw [hc2.rd, hc1.rd], 0, fun ω ρ Q a w Im θ sim hA => ?_⟩, h2⟩
      refine wpIn_seq (hc1.wp ρ _ a w Im θ sim (fun a' w' Im' θ' sim' hE hN => ?_))
      exact hc2.wp ρ Q a' w' Im' θ' sim' (After.trans hc1.later hE hN hA)
    | exit id =>
      exact ⟨.exit id, s1, hs1, ⟨hc1.later, hc1.size, hc1.rd, 0, fun ω ρ Q a w Im θ sim hA => wpIn_seq (hc1.wp ρ _ a w Im θ sim (fun a' w' Im' θ' sim' hE hN => hA a' w' Im' θ' sim' hE hN))⟩, h1⟩
    | ret =>
      exact ⟨.ret, s1, hs1, ⟨hc1.later, hc1.size, hc1.rd, 0, fun ω ρ Q a w Im θ sim hA => wpIn_seq (hc1.wp ρ _ a w Im θ sim (fun a' w' Im' θ' sim' hE hN => hA a' w' Im' θ' sim' hE hN))⟩, h1⟩
  | cond c x y ihx ihy =>
    intro s k d hs h
    simp only [execC] at h
    split at h
    · rename_i b hb
      have hev : ∀ {ω : Nat → Value} {ρ : Option Nat} {a : Act} {w : World} {Im : Nat → Prop} {θ : Th}, Sim P ω ρ s a w Im θ → a.eval c = .bool b := by
        intro ω ρ a w Im θ sim
        have := sim.sf.eval c
        rw [← evT_ev, hb] at this
        generalize a.eval c = u at this
        cases this
        rfl
      cases b with
      | true =>
        obtain ⟨e, s1, hs1, hc1, h1⟩ := ihx s k d hs h
        exact ⟨e, s1, hs1, ⟨hc1.later, hc1.size, hc1.rd, 0, fun ω ρ Q a w Im θ sim hA => wpIn_cond_true (hev sim) (hc1.wp ρ Q a w Im θ sim hA)⟩, h1⟩
      | false =>
        obtain ⟨e, s1, hs1, hc1, h1⟩ := ihy s k d hs h
        exact ⟨e, s1, hs1, ⟨hc1.later, hc1.size, hc1.rd, 0, fun ω ρ Q a w Im θ sim hA => wpIn_cond_false (hev sim) (hc1.wp ρ Q a w Im θ sim hA)⟩, h1⟩
    · exact (fl_no hfl h).elim
  | block id c ih =>
    intro s k d hs h
    simp only [execC] at h
    obtain ⟨e, s1, hs1, hc1, h1⟩ := ih s _ d hs h
    cases e with
    | normal => exact ⟨.normal, s1, hs1, ⟨hc1.later, hc1.size, hc1.rd, 0, fun ω ρ Q a w Im θ sim hA => wpIn_block (hc1.wp ρ _ a w Im θ sim hA)⟩, h1⟩
    | ret => exact ⟨.ret, s1, hs1, ⟨hc1.later, hc1.size, hc1.rd, 0, fun ω ρ Q a w Im θ sim hA => wpIn_block (hc1.wp ρ _ a w Im θ sim hA)⟩, h1⟩
    | exit j =>
      simp only [] at h1
      cases hj : Nat.beq j id with
      | true =>
        rw [hj] at h1
        have hji : j = id := Nat.eq_of_beq_eq_true hj
        subst hji
        refine ⟨.normal, s1, hs1, ⟨hc1.later, hc1.size, hc1.rd, 0, fun ω ρ Q a w Im θ sim hA => wpIn_block (hc1.wp ρ _ a w Im θ sim (fun a' w' Im' θ' sim' hE hN => ?_))⟩, h1⟩
        simp only [exitOf, Exit.inBlock, if_true]
        exact hA a' w' Im' θ' sim' hE hN
      | false =>
        rw [hj] at h1
        have hji : ¬ j = id := fun e => by rw [nb_t e] at hj; cases hj
        refine ⟨.exit j, s1, hs1, ⟨hc1.later, hc1.size, hc1.rd, 0, fun ω ρ Q a w Im θ sim hA => wpIn_block (hc1.wp ρ _ a w Im θ sim (fun a' w' Im' θ' sim' hE hN => ?_))⟩, h1⟩
        simp only [exitOf, Exit.inBlock, if_neg hji]
        exact hA a' w' Im' θ' sim' hE hN
  | loop c ih =>
    intro s k d hs h
    simp only [execC] at h
    obtain ⟨e, s1, hs1, hc1, h1⟩ := ih s _ d hs h
    cases e with
    | normal =>
      simp only [] at h1
      obtain ⟨e2, s2, hs2, hc2, h2⟩ := hrec (.loop c) s1 k d hs1 h1
      obtain ⟨m, hm⟩ := hc2.wps
      refine ⟨e2, s2, hs2, ⟨hc1.later.trans hc2.later, by rw [hc2.size, hc1.size], by rw [hc2.rd, hc1.rd], m + 1, fun ω ρ Q a w Im θ sim hA => ?_⟩, h2⟩
      show Code.roundsIn (FR ρ) 0 P c Q (m + 1) a w
      rw [roundsIn_succ]
      refine hc1.wp ρ _ a w Im θ sim (fun a' w' Im' θ' sim' hE hN => ?_)
      exact hm ω ρ Q a' w' Im' θ' sim' (After.trans hc1.later hE hN hA)
    | exit id =>
      refine ⟨.exit id, s1, hs1, ⟨hc1.later, hc1.size, hc1.rd, 1, fun ω ρ Q a w Im θ sim hA => ?_⟩, h1⟩
      show Code.roundsIn (FR ρ) 0 P c Q 1 a w
      rw [roundsIn_succ]
      exact hc1.wp ρ _ a w Im θ sim (fun a' w' Im' θ' sim' hE hN => hA a' w' Im' θ' sim' hE hN)
    | ret =>
      refine ⟨.ret, s1, hs1, ⟨hc1.later, hc1.size, hc1.rd, 1, fun ω ρ Q a w Im θ sim hA => ?_⟩, h1⟩
      show Code.roundsIn (FR ρ) 0 P c Q 1 a w
      rw [roundsIn_succ]
      exact hc1.wp ρ _ a w Im θ sim (fun a' w' Im' θ' sim' hE hN => hA a' w' Im' θ' sim' hE hN)
  | exit id => intro s k d hs h; exact ⟨.exit id, s, hs, comes_self (fun ρ Q a w hq => wpIn_exit hq), h⟩
  | label l => intro s k d hs h; exact ⟨.normal, s, hs, comes_self (fun ρ Q a w hq => wpIn_label hq), h⟩
  | ret => intro s k d hs h; exact ⟨.ret, s, hs, comes_self (fun ρ Q a w hq => wpIn_ret hq), h⟩
  | rangeFunc f ps x y _ _ => intro s k d hs h; exact range_run hfl hrec hs h
  | scope c ih =>
    intro s k d hs h
    simp only [execC] at h
    obtain ⟨e, s1, hs1, hc1, h1⟩ := ih s k d hs h
    exact ⟨e, s1, hs1, ⟨hc1.later, hc1.size, hc1.rd, 0, fun ω ρ Q a w Im θ sim hA => wpIn_scope_straight (hc1.wp ρ _ a w Im θ sim (fun a' w' Im' θ' sim' hE hN => by
      cases e <;> exact hA a' w' Im' θ' sim' hE hN))⟩, h1⟩
  | goto l => intro s k d hs h; exact (fl_no hfl h).elim
  | refuse w => intro s k d hs h; exact (fl_no hfl h).elim
end

theorem exec_ok {R D : Type} {fl : R} {den : R → Option D} (hfl : den fl = none) {κ : Nat → Option CSumm} {ι : Nat → Bool} (hκ : KOk P κ) (hmix : P.follows .mixedOrders = true) : ∀ n, RcrOk P den (exec fl P κ ι n)
  | 0 => fun _ _ _ _ _ h => (fl_no hfl h).elim
  | n + 1 => execC_ok hfl (exec_ok hfl hκ hmix n) hκ hmix
end Go.Am
