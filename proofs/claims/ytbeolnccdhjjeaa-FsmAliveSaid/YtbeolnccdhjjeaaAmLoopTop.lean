/- The abstract machine: a body with loops that are known. -/
import Derived.Test.YtbeolnccdhjjeaaAmLoops2
import Derived.Test.YtbeolnccdhjjeaaAmTop
namespace Go.Am
variable {P : Program} {ω : Nat → Value}

/-- A function's body tells of its calls. -/
theorem bodyL_valid {κ : Nat → Option CSumm} (hκ : KOk P κ) (hmix : P.follows .mixedOrders = true) {T : LTab} (hT : LOk P T) {f : FuncId} {fn : Func} (hf : P.funcs[f]? = some fn) {c : Code} (hb : fn.body = some (fillC T c)) {ι : Nat → Bool} {sp : Bool} {fuel : Nat} : ValidC P f (bodyCL P κ ι T sp fuel fn c) := by
  intro args H v ups hrun _ ω θ Im w us hargs hH hfr
  unfold bodyCL at hrun
  cases hc : canonB H 0 && closedB H.length H && Nat.ble args.length fn.ntmps && Nat.blt fn.ntmps 16000 && Nat.blt H.length 1000000 with
  | false => rw [hc] at hrun; simp [crun] at hrun
  | true =>
    rw [hc] at hrun
    simp only [cond_true] at hrun
    simp only [Bool.and_eq_true] at hc
    obtain ⟨⟨⟨⟨c1, c2⟩, c3⟩, c4⟩, c5⟩ := hc
    have hal : args.length ≤ fn.ntmps := by rwa [Nat.ble_eq] at c3
    have hnt : fn.ntmps < 16000 := by rwa [Nat.blt_eq] at c4
    have hHl : H.length < 1000000 := by rwa [Nat.blt_eq] at c5
    have hhp : (initSt sp fn args H).hp.get = H.get := heapTr_init c1 (by omega)
    have hs0 : StOk { initSt sp fn args H with tm := .lf, size := 0 } := by
      refine ⟨by show 0 < 16000; omega, hHl, fun t _ => rfl, ?_, Nat.le_refl _⟩
      intro x c hx
      have hx' : (initSt sp fn args H).hp.get x = some c := hx
      rw [hhp] at hx'
      exact canon_lt c1 hx'
    have hst : StOk (initSt sp fn args H) := enter_ok hs0 hal hnt
    obtain ⟨e, s2, hs2, hcomes, hfin⟩ := execL_ok (den := crun) rfl hκ hmix hT fuel c _ _ _ hst hrun
    have hm2 : s2.m = H.length := hcomes.later.m
    have he : ∀ id, e ≠ .exit id := by
      rintro id rfl
      simp [crun] at hfin
    have hfin' : crun (finishC P fn s2) = some (v, ups) := by
      cases e with
      | exit id => exact absurd rfl (he id)
      | normal => exact hfin
      | ret => exact hfin
    unfold finishC at hfin'
    cases hrs : resultsS P s2 fn.results.toList with
    | none => rw [hrs] at hfin'; simp [crun] at hfin'
    | some vs =>
      rw [hrs] at hfin'
      simp only [] at hfin'
      cases hre : reachNew s2.hp s2.m 2000 (namesS (oneOrTup vs) ++ dirtyNames s2.hp s2.dirty) [] with
      | none => rw [hre] at hfin'; simp [crun] at hfin'
      | some ns =>
          rw [hre] at hfin'
          simp only [crun, Option.some.injEq, Prod.mk.injEq] at hfin'
          rw [hm2] at hfin'
          obtain ⟨rfl, rfl⟩ := hfin'
          have hfr0 : Fr (initSt sp fn args H).nx θ (initSt sp fn args H).hp.get := by
            intro x hx
            have hx' : H.length ≤ x := hx
            refine ⟨hfr x hx', ?_⟩
            rw [hhp]
            cases hg : H.get x with
            | none => rfl
            | some c => have := canon_lt c1 hg; omega
          have sim0 := enter_sim (P := P) hs0 (args := args) (us := us) hal hnt (w := w) (Im := Im) (θ := θ) (by show HRel P ω w Im θ (initSt sp fn args H).hp.get; rw [hhp]; exact hH) hfr0 hargs
          refine (callsIn_wide (n := 0)).1 (body_calls (ρ := none) hf hb he hcomes sim0 hrs (fun u w' Im' θ' hH2 _ hE hvu => ?_))
          have hsame : ∀ x, x < H.length → s2.hp.get x = H.get x ∨ x ∈ s2.dirty := by
            intro x hx
            have := hcomes.later.same x hx
            rwa [hhp] at this
          have hdl : ∀ x ∈ s2.dirty, x < H.length := by
            intro x hx
            rcases hcomes.later.low x hx with h | h
            · cases h
            · exact h
          have hext : Ext (fun x => H.length ≤ x) H.get w Im θ s2.hp.get w' Im' θ' := by
            rw [← hhp]; exact hE
          obtain ⟨θ3, g1, g2, g3, -⟩ := finish_gen c1 c2 hfr hm2 hsame hdl hre hH2 hext hvu
          exact ⟨u, θ3, Im', rfl, g1, g2, g3⟩


abbrev bodyLS (P : Program) (κ : Nat → Option CSumm) (T : LTab) (f : Func) (c : Code) : CSumm := bodyCL P κ (inl κ) T true 1000 f c
theorem known_of_bodyLS (hn : noNum P) (hmix : P.follows .mixedOrders = true) {κ : Nat → Option CSumm} (hκ : KOk P κ) {T : LTab} (hT : LOk P T) {f : FuncId} {fn : Func} (hf : P.funcs[f]? = some fn) {c : Code} (hb : fn.body = some (fillC T c)) {s : CSumm}
    (hs : ∀ args H v ups, crun (s args H) = some (v, ups) → crun (bodyLS P κ T fn c args H) = some (v, ups)) : Known P f s :=
  ⟨⟨fn, hf, noNum_at hn hf, by rw [hb]; rfl⟩, fun args H v ups hr => bodyL_valid hκ hmix hT hf hb args H v ups (hs args H v ups hr)⟩
/-- Tables of loops. -/
def ltab : List (String × LEnt) → LTab
  | [], _ => none
  | (w, e) :: l, x => if w = x then some e else ltab l x
theorem ltab_nil : LOk P (ltab []) := fun w e h => by cases h
theorem ltab_cons {w : String} {e : LEnt} {l : List (String × LEnt)} (h : ValidL P e) (hl : LOk P (ltab l)) : LOk P (ltab ((w, e) :: l)) := by
  intro x e' hx
  simp only [ltab] at hx
  split at hx
  · cases hx; exact h
  · exact hl x e' hx
end Go.Am
