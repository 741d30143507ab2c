/- The abstract machine: code that may raise: loops and functions told by other words. -/
import Derived.Test.YtpelignoebgkbaaGreatDoorMachine8
import Derived.Test.YtpelignoebgkbaaGreatDoorMachine7
import Derived.Test.YtpelignoebgkbaaGreatDoorMachine6
import Derived.Below
import Derived.Sort.Grow
import Derived.Deep.Draws
import Derived.Lib.LaidTab
import Derived.Lib.AppendIntMem
set_option linter.unusedVariables false
set_option linter.unusedSimpArgs false
namespace Go.Am
variable {P : Program} {ω : Nat → Value} {Kp : List Nat}
theorem roundP_valid {κ π : Nat → Option CSumm} {T : LTab} {fuel : Nat} {e : LEnt} {c : Code} {s' : CSumm} (hκ : KOk P κ) (hπ : XOk P π) (hmix : P.follows .mixedOrders = true) (hT : LOkP P Kp T) (hfill : fillC T c = e.code)
  (ih : ValidLP P Kp { e with s := s' }) : ValidLP P Kp { e with s := fun args H => loopOnceP P κ π Kp T fuel e { e with s := s' } c args H } := by
 have key : ∀ (args : List SV) (H : HpL) (k : IntKind) (c0 : Int) (outs : List SV) (ups : List (Nat × Option Chunk)), crun (loopOnceP P κ π Kp T fuel e { e with s := s' } c args H) = some (.tup (.int k c0 :: outs), ups) → Canon H → outs.length = e.outs.length → args.length = e.ins.length →
  ∃ m, ∀ (ω : Nat → Value) (θ : Th) (Im : Nat → Prop) (w : World) (a : Act) (Q : Exit → Act → World → Prop), a.tmps.size = e.size → LRel P ω w Im θ args (e.ins.map fun t => a.tmps.getD t undef) → HRel P ω w Im θ H.get →
   (∀ x, H.length ≤ x → θ x = none) → Mk w Im θ H.get a.defers →
   (∀ a' w' Im' θ', a'.tmps.size = e.size → Ext (fun x => H.length ≤ x) H.get w Im θ (updF ups H.get) w' Im' θ' → LRel P ω w' Im' θ' outs (e.outs.map fun t => a'.tmps.getD t undef) → HRel P ω w' Im' θ' (updF ups H.get) →
    (∀ t ∈ e.keep, a'.tmps.getD t undef = a.tmps.getD t undef) → a'.defers = a.defers → PQ Kp Q (exitOf (exOf c0)) a' w') →
   Code.roundsIn (FR none) 0 P e.code Q m a w := by
  intro args H k c0 outs ups hl hcanon hol hal
  unfold loopOnceP at hl
  cases hc : canonB H 0 && closedB H.length H && Nat.beq args.length e.ins.length && Nat.blt e.size 16000 && Nat.blt H.length 1000000 && lowB e.size e.ins && lowB e.size e.keep && lowB e.size e.outs && noOpqL args && noOpqH H && lowB H.length (namesL args) with
  | false => rw [hc] at hl; simp [crun] at hl
  | true =>
   rw [hc] at hl
   simp only [cond_true] at hl
   simp only [Bool.and_eq_true] at hc
   obtain ⟨⟨⟨⟨⟨⟨⟨⟨⟨⟨c1, c2⟩, c3⟩, c4⟩, c5⟩, c6⟩, c7⟩, c8⟩, c9⟩, c10⟩, c11⟩ := hc
   have hsz : e.size < 16000 := by rwa [Nat.blt_eq] at c4
   have hHl : H.length < 1000000 := by rwa [Nat.blt_eq] at c5
   have hins := lowB_spec _ c6
   have hkeep := lowB_spec _ c7
   have houts := lowB_spec _ c8
   have hhp : (loopSt false e args H).hp.get = H.get := heapTr_init c1 (by omega)
   have htm : ∀ j, ((loopSt false e args H).tmp j = .junk) ∨ (j ∈ e.keep ∧ (loopSt false e args H).tmp j = .opq j) ∨ ∃ i : Nat, e.ins[i]? = some j ∧ ∃ v, args[i]? = some v ∧ (loopSt false e args H).tmp j = v := by
    intro j
    have hk16 : ∀ x ∈ e.keep, x < 16000 := fun x hx => by have := hkeep x hx; omega
    have hi16 : ∀ x ∈ e.ins, x < 16000 := fun x hx => by have := hins x hx; omega
    have he : (loopSt false e args H).tmp j = match (setPs e.ins args (keepI e.keep .lf)).get j with
     | some v => v
     | none => .junk := rfl
    rcases setPs_at e.ins args (keepI e.keep .lf) j hi16 with ⟨g1, -⟩ | ⟨i, g1, v, g2, g3⟩
    · rw [he, g1, keepI_get _ _ _ hk16]
      by_cases hj : j ∈ e.keep
      · simp [hj]
      · simp [hj, Tr.get_lf]
    · exact .inr (.inr ⟨i, g1, v, g2, by rw [he, g3]⟩)
   have hs0 : StOk (loopSt false e args H) := by
    refine ⟨hsz, hHl, fun t ht => ?_, ?_, Nat.le_refl _⟩
    · have ht' : e.size ≤ t := ht
      rcases htm t with g | ⟨g, _⟩ | ⟨i, g, _⟩
      · exact g
      · have := hkeep t g; omega
      · have := hins t (List.mem_of_getElem? g); omega
    · intro x c hx
      rw [hhp] at hx
      exact canon_lt c1 hx
   obtain ⟨ex1, s1, hs1, hc1, hk1⟩ := execP_ok (den := crun) rfl hκ hπ hmix hT fuel c _ _ _ hs0 hl
   rw [hfill] at hc1
   have hall : ∃ ex sF, StOk sF ∧ ComesP P Kp (.loop e.code) (loopSt false e args H) ex sF ∧ crun (finishL e ex sF) = some (.tup (.int k c0 :: outs), ups) := by
    cases ex1 with
    | normal =>
     simp only [] at hk1
     obtain ⟨ex2, s2, hs2, hc2, hk2⟩ := loopP_run (den := crun) rfl ih hs1 hk1
     obtain ⟨m, hm⟩ := hc2.wps
     refine ⟨ex2, s2, hs2, ⟨hc1.later.trans hc2.later, by rw [hc2.size, hc1.size], by rw [hc2.rd, hc1.rd], m + 1, fun ω ρ Q a w Im θ sim hA => ?_⟩, hk2⟩
     show Code.roundsIn (FR ρ) 0 P e.code Q (m + 1) a w
     rw [roundsIn_succ]
     refine hc1.wp ρ _ a w Im θ sim (fun a' w' Im' θ' sim' hE hN => ?_)
     exact hm ω ρ Q a' w' Im' θ' sim' (AfterP.trans hc1.later hE hN hA)
    | exit id =>
     refine ⟨.exit id, s1, hs1, ⟨hc1.later, hc1.size, hc1.rd, 1, fun ω ρ Q a w Im θ sim hA => ?_⟩, hk1⟩
     show Code.roundsIn (FR ρ) 0 P e.code Q 1 a w
     rw [roundsIn_succ]
     exact hc1.wp ρ _ a w Im θ sim (fun a' w' Im' θ' sim' hE hN => PQ_then (by simp [exitOf]) (hA a' w' Im' θ' sim' hE hN))
    | ret =>
     refine ⟨.ret, s1, hs1, ⟨hc1.later, hc1.size, hc1.rd, 1, fun ω ρ Q a w Im θ sim hA => ?_⟩, hk1⟩
     show Code.roundsIn (FR ρ) 0 P e.code Q 1 a w
     rw [roundsIn_succ]
     exact hc1.wp ρ _ a w Im θ sim (fun a' w' Im' θ' sim' hE hN => PQ_then (by simp [exitOf]) (hA a' w' Im' θ' sim' hE hN))
   obtain ⟨ex, sF, hsF, hC, hfin⟩ := hall
   obtain ⟨f1, f2, f3, rfl, ns, hre, rfl, rfl⟩ := finishL_inv hfin
   obtain ⟨m, hm⟩ := hC.wps
   refine ⟨m, fun ω θ Im w a Q hsize hargs hH hfr hMk hpost => ?_⟩
   have hmF : sF.m = H.length := hC.later.m
   have hsF2 : sF.size = e.size := hC.size
   have sim0 : Sim P (fun t => a.tmps.getD t undef) none (loopSt false e args H) a w Im θ := by
    refine ⟨hs0, ⟨hsize, fun t ht => ?_, hs0.out, by rw [hhp]; exact hMk, by rw [hhp]; exact hH.om (fun x c hx => noOpqH_at c10 hx)⟩, ?_, .inl ⟨rfl, rfl⟩⟩
    · rcases htm t with g | ⟨g, g2⟩ | ⟨i, g, v, g2, g3⟩
      · rw [g]; exact .junk
      · rw [g2]; exact .opq
      · rw [g3]
        exact (hargs.at_ i v _ g2 (by simp [g])).om (noOpqL_at c9 g2)
    · intro x hx
      have hx' : H.length ≤ x := hx
      refine ⟨hfr x hx', ?_⟩
      rw [hhp]
      cases hg : H.get x with
      | none => rfl
      | some c => have := canon_lt c1 hg; omega
   refine hm (fun t => a.tmps.getD t undef) none Q a w Im θ sim0 (fun a' w' Im' θ' sim' hE hN => ?_)
   have hsame : ∀ x, x < H.length → sF.hp.get x = H.get x ∨ x ∈ sF.dirty := by
    intro x hx
    have := hC.later.same x hx
    rwa [hhp] at this
   have hdl : ∀ x ∈ sF.dirty, x < H.length := by
    intro x hx
    rcases hC.later.low x hx with h | h
    · cases h
    · exact h
   have hext : Ext (fun x => H.length ≤ x) H.get w Im θ sF.hp.get w' Im' θ' := by
    rw [← hhp]; exact hE
   have hz : VRel P (fun t => a.tmps.getD t undef) w' Im' θ' (.tup (.int .i64 (codeEx ex) :: e.outs.map sF.tmp)) (.tuple (.int .i64 (codeEx ex) :: (e.outs.map fun t => a'.tmps.getD t undef)).toArray) := by
    have hl := lrel_map (P := P) (ω := fun t => a.tmps.getD t undef) (w := w') (Im := Im') (θ := θ') (f := sF.tmp) (g := fun t => a'.tmps.getD t undef) (l := e.outs) (fun t ht => sim'.sf.tm t (by rw [hsF2]; exact houts t ht))
    refine .tup (by simp) (fun i v u hv hu => ?_)
    cases i with
    | zero => simp at hv hu; subst hv; subst hu; exact .int
    | succ i => exact hl.at_ i v u (by simpa using hv) (by simpa using hu)
   obtain ⟨θ3, g1, g2, g3, g4⟩ := finish_gen c1 c2 hfr hmF hsame hdl hre sim'.sf.hp hext hz
   rw [← hmF] at g1 g2 g3 g4
   have g2' : LRel P (fun t => a.tmps.getD t undef) w' Im' θ3 (renL (outName ns sF.m) (e.outs.map sF.tmp)) (e.outs.map fun t => a'.tmps.getD t undef) := by
    simp only [renS, renL] at g2
    cases g2 with
    | tup p1 p2 => exact ⟨by rw [renL_eq]; simp, fun i v u hv hu => p2 (i + 1) v u (by simpa using hv) (by simpa using hu)⟩
   rw [← hmF] at hpost
   have := hpost a' w' Im' θ3 (by rw [sim'.sf.size]; exact hsF2) g1 (g2'.om (by rw [noOpqL_ren]; exact f2)) (g3.om (noOpqU_at f3 (fun x c hx => noOpqH_at c10 hx))) (fun t ht => ?_) hN
   · rw [exOf_code] at this; exact this
   · have h1 := sim'.sf.tm t (by rw [hsF2]; exact hkeep t ht)
     rw [f1 t ht] at h1
     generalize a'.tmps.getD t undef = z at h1
     cases h1
     rfl
 exact key
theorem loopP_ren {e : LEnt} {s' : CSumm} (h : ValidLP P Kp e) (hs : ∀ args H v' ups', crun (s' args H) = some (v', ups') → (∃ ups, crun (e.s args H) = some (v', ups) ∧ ∀ x, updF ups' H.get x = updF ups H.get x) ∨
  ∃ v ups, crun (e.s args H) = some (v, ups) ∧ Renamed H v ups v' ups') : ValidLP P Kp { e with s := s' } := by
 intro args H kk c outs' ups' hr hc ho ha
 rcases hs args H _ ups' hr with ⟨ups, hr', he⟩ | ⟨v, ups, hr', k, nw, hnw, hv0, hc0, hvr, hu⟩
 · have he' : updF ups' H.get = updF ups H.get := funext he
   obtain ⟨m, hm⟩ := h args H kk c outs' ups hr' hc ho ha
   exact ⟨m, fun ω θ Im w a Q hsz hl hH hfr hmk hQ => hm ω θ Im w a Q hsz hl hH hfr hmk (by rw [← he']; exact hQ)⟩
 · obtain ⟨outs, rfl, rfl⟩ : ∃ outs, v = .tup (.int kk c :: outs) ∧ outs' = renL (sw k nw) outs := by
     cases v with
     | tup vs =>
      cases vs with
      | nil => simp [renS, renL] at hvr
      | cons x xs =>
       cases x <;> simp [renS, renL] at hvr
       obtain ⟨⟨rfl, rfl⟩, rfl⟩ := hvr
       exact ⟨xs, rfl, rfl⟩
     | _ => simp [renS] at hvr
   obtain ⟨m, hm⟩ := h args H kk c outs ups hr' hc (by rw [renL_eq] at ho; simpa using ho) ha
   refine ⟨m, fun ω θ Im w a Q hsz hl hH hfr hmk hQ => hm ω θ Im w a Q hsz hl hH hfr hmk ?_⟩
   intro a' w' Im' θ' b1 b2 b3 b4 b5 b7
   obtain ⟨θ2, h1, h2, h3, h4⟩ := ren_post hfr hnw hc0 hu b2 b4
   refine hQ a' w' Im' θ2 b1 h1 ⟨by rw [renL_eq]; simpa using b3.len, fun i v u hv hu' => ?_⟩ h2 b5 b7
   · rw [renL_eq, List.getElem?_map, Option.map_eq_some_iff] at hv
     obtain ⟨x, hx, rfl⟩ := hv
     refine h3 x u (b3.at_ i x u hx hu') (fun hn => hv0 ?_)
     show nw ∈ namesL (.int kk c :: outs)
     exact List.mem_append.2 (.inr (namesS_mem (List.mem_of_getElem? hx) nw hn))
theorem loopP_told {e : LEnt} {s' : CSumm} (h : ValidLP P Kp e) (hs : ∀ args H v' ups', crun (s' args H) = some (v', ups') → ∃ v ups, crun (e.s args H) = some (v, ups) ∧ ToldL P H v ups v' ups') : ValidLP P Kp { e with s := s' } := by
 intro args H kk c0 outs' ups' hr hc ho ha
 obtain ⟨v, ups, hr', c, vs, vs', rfl, hv, hl, hu⟩ := hs args H _ ups' hr
 simp only [SV.tup.injEq, List.cons.injEq, SV.int.injEq] at hv
 obtain ⟨⟨rfl, rfl⟩, rfl⟩ := hv
 obtain ⟨m, hm⟩ := h args H .i64 c0 vs ups hr' hc (by rw [← hl.len]; exact ho) ha
 refine ⟨m, fun ω θ Im w a Q hsz hla hH hfr hmk hQ => hm ω θ Im w a Q hsz hla hH hfr hmk ?_⟩
 intro a' w' Im' θ' b1 b2 b3 b4 b5 b7
 obtain ⟨h1, h2⟩ := told_post hu b2 b4
 refine hQ a' w' Im' θ' b1 h1 (hl.rel b3) h2 b5 b7
theorem loopP_chain {e : LEnt} {args : List SV} {H : HpL} {v : SV} {ups : List (Nat × Option Chunk)} {v' : SV} {ups' : List (Nat × Option Chunk)} (hch : ChainL P H v ups v' ups') : ValidLP P Kp { e with s := oneS1 args H v ups } → ValidLP P Kp { e with s := oneS1 args H v' ups' } := by
 induction hch with
 | same hs =>
  intro h
  refine loopP_ren (e := { e with s := oneS1 args H _ _ }) h (fun a h2 v2 u2 hx => ?_)
  obtain ⟨rfl, rfl, rfl, rfl⟩ := oneS1_at hx
  exact .inl ⟨_, oneS1_run _ _ _ _, hs⟩
 | ren hs =>
  intro h
  refine loopP_ren (e := { e with s := oneS1 args H _ _ }) h (fun a h2 v2 u2 hx => ?_)
  obtain ⟨rfl, rfl, rfl, rfl⟩ := oneS1_at hx
  exact .inr ⟨_, _, oneS1_run _ _ _ _, hs⟩
 | told hs =>
  intro h
  refine loopP_told (e := { e with s := oneS1 args H _ _ }) h (fun a h2 v2 u2 hx => ?_)
  obtain ⟨rfl, rfl, rfl, rfl⟩ := oneS1_at hx
  exact ⟨_, _, oneS1_run _ _ _ _, hs⟩
 | trans _ _ ih1 ih2 => exact fun h => ih2 (ih1 h)
theorem loopP_valid5 {T : LTab} {fuel : Nat} {e : LEnt} {c : Code} {μ : List SV → HpL → Nat} (hmix : P.follows .mixedOrders = true) (hT : LOkP P Kp T) (hfill : fillC T c = e.code)
  (hstep : ∀ n args H v' ups', Nat.blt (μ args H) (n + 1) = true → crun (e.s args H) = some (v', ups') → ∃ (κ π : Nat → Option CSumm), KOk P κ ∧ XOk P π ∧
   ∃ v ups, crun (loopOnceP P κ π Kp T fuel e { e with s := boundT μ e.s n } c args H) = some (v, ups) ∧ ChainL P H v ups v' ups') : ValidLP P Kp e := by
 have key : ∀ n, ValidLP P Kp { e with s := boundT μ e.s n } := by
  intro n
  induction n with
  | zero =>
   intro args H k c outs ups hrun
   obtain ⟨h1, _⟩ := boundT_at hrun
   rw [Nat.blt_eq] at h1; omega
  | succ n ih =>
   intro args H k c0 outs ups hrun hc ho ha
   obtain ⟨hb, hr⟩ := boundT_at hrun
   obtain ⟨κ, π, hκ, hπ, v, u, hrn, hch⟩ := hstep n args H _ ups hb hr
   have hv := roundP_valid (κ := κ) (π := π) (T := T) (fuel := fuel) (c := c) hκ hπ hmix hT hfill ih
   have h1 : ValidLP P Kp { e with s := oneS1 args H v u } := loopP_ren (e := { e with s := fun args H => loopOnceP P κ π Kp T fuel e { e with s := boundT μ e.s n } c args H }) hv (fun a h v' u' hx => by
    obtain ⟨rfl, rfl, rfl, rfl⟩ := oneS1_at hx
    exact .inl ⟨_, hrn, fun _ => rfl⟩)
   exact loopP_chain hch h1 args H k c0 outs ups (oneS1_run _ _ _ _) hc ho ha
 intro args H k c0 outs ups hrun
 exact key (μ args H + 1) args H k c0 outs ups (by
  show crun (boundT μ e.s _ args H) = _
  unfold boundT
  rw [show Nat.blt (μ args H) (μ args H + 1) = true by rw [Nat.blt_eq]; omega]
  exact hrun)
theorem loopP_inN {e : LEnt} (h : ValidLP P Kp e) {fs : List (Option (Nat × Nat))} : ValidLP P Kp { e with s := inN fs e.s } := by
 intro args H k c outs ups hr hc ho ha
 obtain ⟨ups2, h1, rfl⟩ := crun_addU _ hr
 obtain ⟨hi, he⟩ := incN_ok (P := P) (H0 := H) fs args H [] hc rfl
 obtain ⟨m, hm⟩ := h _ _ k c outs ups2 h1 hi.canon ho (by rw [hi.al]; exact ha)
 refine ⟨m, fun ω θ Im w a Q hsz hl hH hfr hmk hQ => ?_⟩
 obtain ⟨h2, h3⟩ := hi.rel ω θ w Im _ hl hH hfr
 have hu : updF (preU (incN fs args H []).2.2 ++ ups2) H.get = updF ups2 (incN fs args H []).2.1.get := by rw [updF_append, he]
 have hmk2 : Mk w Im θ (incN fs args H []).2.1.get a.defers := by
  obtain ⟨rs, base, r1, rb, r2, r3⟩ := hmk
  refine ⟨rs, base, r1, rb, r2, fun r hrr => ⟨(r3 r hrr).1, (r3 r hrr).2.1, fun x c N hx ht => ?_⟩⟩
  rcases hi.back x c hx with ⟨c', h4⟩ | h4
  · exact (r3 r hrr).2.2 x c' N h4 ht
  · rw [hfr x h4] at ht; cases ht
 refine hm ω θ Im w a Q hsz h2 h3 (fun x hx => hfr x (Nat.le_trans hi.len hx)) hmk2 ?_
 intro a' w' Im' θ' b1 b2 b3 b4 b5 b7
 exact hQ a' w' Im' θ' b1 (by rw [hu]; exact b2.inc hi hfr) b3 (by rw [hu]; exact b4) b5 b7
theorem knownX_told {f : FuncId} {s s' : CSumm} (h : KnownX P f s) (hs : ∀ args H b v' ups', crun (s' args H) = some (.tup [.bool b, v'], ups') → ∃ v ups, crun (s args H) = some (.tup [.bool b, v], ups) ∧ ((v' = v ∧ updF ups' H.get = updF ups H.get) ∨ Frozen P H v ups v' ups' ∨ Told P H v ups v' ups')) : KnownX P f s' := by
 refine ⟨h.fn, ?_⟩
 intro args H b v' ups' hr hc ω θ Im w us hl hH hfr
 obtain ⟨v, ups, hr', hh⟩ := hs args H b v' ups' hr
 refine (h.ok args H b v ups hr' hc ω θ Im w us hl hH hfr).mono ?_
 rintro o w' ⟨u, θ', Im', rfl, hE, hvu, hH'⟩
 rcases hh with ⟨rfl, hu⟩ | ⟨k, e, rs, hk, hv, hu⟩ | ⟨hv, hu⟩
 · exact ⟨u, θ', Im', rfl, by rw [hu]; exact hE, hvu, by rw [hu]; exact hH'⟩
 · obtain ⟨h1, h2⟩ := frz_post hk hu hE hH'
   exact ⟨u, θ', _, rfl, h1, hv ω w' Im' θ' _ u hH' hk hvu, h2⟩
 · obtain ⟨h1, h2⟩ := told_post hu hE hH'
   exact ⟨u, θ', Im', rfl, h1, hv ω w' Im' θ' u hvu, h2⟩
end Go.Am
/- The abstract machine: a library function that is told by a contract of the shelf. -/
namespace Go.Am
open Go.RowKit Go.Sort
variable {P : Program}
theorem HRel.below {ω : Nat → Value} {w w' : World} {Im : Nat → Prop} {θ : Th} {h : HpF} (hr : HRel P ω w Im θ h) (hb : Below w.heap.size w w') : HRel P ω w' Im θ h := by
 have hI : ∀ b, Im b → Im b ∧ w'.heap[b]? = w.heap[b]? := fun b h1 => ⟨h1, hb.block b (hr.im b h1)⟩
 exact ⟨fun x c hx => (hr.at_ x c hx).mono hI (fun _ _ h => h) rfl (fun b N hθ => hb.block b (hr.own x c b N hx hθ).2), hr.inj,
  fun x c b N hx h1 => ⟨(hr.own x c b N hx h1).1, Nat.lt_of_lt_of_le (hr.own x c b N hx h1).2 hb.size⟩, fun b h1 => Nat.lt_of_lt_of_le (hr.im b h1) hb.size, hr.gl.mono hI⟩
theorem known_shelf {f : FuncId} {s : CSumm} {fn : Func} (hf : P.funcs[f]? = some fn) (hn : noNum P) (hb : fn.body.isNone = false)
  (h : ∀ args H v ups, crun (s args H) = some (v, ups) → ups = [] ∧ ∀ (ω : Nat → Value) (θ : Th) (Im : Nat → Prop) (w : World) (us : List Value), LRel P ω w Im θ args us → HRel P ω w Im θ H.get →
   Calls P f us.toArray w fun e w' => ∃ u, e = .returned u ∧ Below w.heap.size w w' ∧ ∀ w', VRel P ω w' Im θ v u) : Known P f s := by
 refine ⟨⟨fn, hf, noNum_at hn hf, hb⟩, fun args H v ups hr _ ω θ Im w us hl hH _ => ?_⟩
 obtain ⟨rfl, hc⟩ := h args H v ups hr
 refine (hc ω θ Im w us hl hH).mono ?_
 rintro e w' ⟨u, he, hbl, hv⟩
 have hH' := hH.below hbl
 exact ⟨u, θ, Im, he, ⟨fun _ _ => rfl, fun _ _ h => h, fun _ h => h, hbl.size, fun b hb _ => hbl.block b hb, fun b h1 => .inl h1, fun x c b N hx hθ => .inl ⟨x, c, N, hx, hθ⟩, hbl.os, hbl.output, hbl.tape⟩, hv w', hH'⟩
theorem GlobR.tab {w : World} {Im : Nat → Prop} (h : GlobR P w Im) {name : String} {g : Nat} {k : IntKind} {zs : List Int} (hg : P.globalNamed name = some g) (he : (g, zs.map fun z => (k, z)) ∈ gtab P) : Lib.TabIs P w name k zs := by
 obtain ⟨-, T, fr, h2⟩ := h _ he
 unfold Lib.TabIs World.var?
 rw [hg, Option.bind_some, h2]
 simp [List.map_map, Function.comp_def]
theorem below_grown {w : World} (k : Nat) (os : Array Obj) : Below w.heap.size w (grow (w.drewN k) os) := Lib.below_grow _ w (Nat.le_refl _) k os
theorem LRel.single {ω : Nat → Value} {w : World} {Im : Nat → Prop} {θ : Th} {a : SV} {us : List Value} (h : LRel P ω w Im θ [a] us) : ∃ u, us = [u] ∧ VRel P ω w Im θ a u := by
 match us, h.len with
 | [u], _ => exact ⟨u, rfl, h.at_ 0 a u rfl rfl⟩
theorem LRel.pair {ω : Nat → Value} {w : World} {Im : Nat → Prop} {θ : Th} {a b : SV} {us : List Value} (h : LRel P ω w Im θ [a, b] us) : ∃ u v, us = [u, v] ∧ VRel P ω w Im θ a u ∧ VRel P ω w Im θ b v := by
 match us, h.len with
 | [u, v], _ => exact ⟨u, v, rfl, h.at_ 0 a u rfl rfl, h.at_ 1 b v rfl rfl⟩
end Go.Am
/- The abstract machine: a list that is handed in, looked at as one that is known by content, where nothing of it is kept. -/
namespace Go.Am
variable {P : Program}
mutual
def pureV : SV → Bool
 | .junk | .bool _ | .int _ _ | .str _ | .nils | .nilp | .nilm | .nilf | .nili => true
 | .agg cs => pureL cs
 | .tup vs => pureL vs
 | _ => false
def pureL : List SV → Bool
 | [] => true
 | v :: vs => pureV v && pureL vs
end
theorem pureL_at : ∀ {vs : List SV}, pureL vs = true → ∀ {i : Nat} {v : SV}, vs[i]? = some v → pureV v = true
 | [], _, i, v, h => by simp at h
 | w :: vs, hn, i, v, h => by
  simp only [pureL, Bool.and_eq_true] at hn
  cases i with
  | zero => simp at h; subst h; exact hn.1
  | succ i => exact pureL_at hn.2 (by simpa using h)
theorem pure_rel {ω ω' : Nat → Value} {w w' : World} {Im Im' : Nat → Prop} {θ θ' : Th} {v : SV} {u : Value} (h : VRel P ω w Im θ v u) (hn : pureV v = true) : VRel P ω' w' Im' θ' v u := by
 induction h with
 | junk => exact .junk
 | bool => exact .bool
 | int => exact .int
 | str h => exact .str h
 | nilp => exact .nilp
 | nils => exact .nils
 | nilm => exact .nilm
 | nilf => exact .nilf
 | nili => exact .nili
 | agg h1 _ ih => exact .agg h1 (fun i v u a b => ih i v u a b (pureL_at (by simpa [pureV] using hn) a))
 | tup h1 _ ih => exact .tup h1 (fun i v u a b => ih i v u a b (pureL_at (by simpa [pureV] using hn) a))
 | _ => simp [pureV] at hn
theorem view_psl {ω : Nat → Value} {w : World} {Im : Nat → Prop} {θ : Th} {h : HpF} (hr : HRel P ω w Im θ h) {x e sz l n : Nat} {es : List SV} (hx : h x = some (.seq e es)) (hsz : sz = P.cellsOf e) (hl : l + n ≤ es.length) {u : Value} (hv : VRel P ω w Im θ (.qs x sz l n) u) {ω' : Nat → Value} {θ' : Th} :
  VRel P ω' w (frozenBy Im θ h [x]) θ' (.psl e ((es.drop l).take n)) u := by
 have hc := hr.at_ x _ hx
 have hlen : ((es.drop l).take n).length = n := by rw [List.length_take, List.length_drop]; omega
 cases hv with
 | qsnil h0 =>
  subst h0
  rw [List.take_zero]
  exact .psl (fun _ => undef) rfl ⟨Nat.le_refl _, by simp⟩ (fun v hv => by cases hv) (fun i v hv => by simp at hv) (fun hn => absurd rfl hn)
 | qs hθ h1 h2 =>
  rename_i b N cap
  rcases hc with ⟨_, h3⟩ | ⟨b', N', cs, T, fr, us, h3, h4, h5, h6, h7, h8, h9⟩
  · rw [h3] at hθ; cases hθ
  · rw [hθ] at h3
    simp only [Option.some.injEq, Prod.mk.injEq] at h3
    obtain ⟨rfl, rfl⟩ := h3
    have hat : ∀ i v, ((es.drop l).take n)[i]? = some v → es[l + i]? = some v := fun i v hv => by
     rw [List.getElem?_take] at hv
     by_cases hi : i < n
     · rw [if_pos hi, List.getElem?_drop] at hv; exact hv
     · rw [if_neg hi] at hv; cases hv
    refine .psl (fun i => us (l + i)) hlen ⟨h2, by simp⟩ (fun v hv => h8 v (List.mem_of_mem_drop (List.mem_of_mem_take hv))) (fun i v hv => ?_) (fun hne => ⟨b, l * sz, rfl, .inr ⟨x, by simp, _, _, hx, hθ⟩, fun i hi => ?_⟩)
    · exact ((h9 (l + i) v (hat i v hv)).1.mono (frozenBy_up w) (fun _ _ h => h))
    · have hi' : l + i < es.length := by omega
      obtain ⟨g1, g2, g3⟩ := h9 (l + i) es[l + i] (by simp [hi'])
      refine ⟨g2, fun d c hd => ?_⟩
      have := g3 d c hd
      simp only [World.cell?, h4, hsz]
      rw [Nat.add_mul] at this
      simpa using this
theorem known_rec {f : FuncId} {s : CSumm} {μ : List SV → HpL → Nat} (hf : ∃ fn, P.funcs[f]? = some fn ∧ (fn.name == "runtime.NumGoroutine") = false ∧ fn.body.isNone = false) (hstep : ∀ n, Known P f (boundT μ s n) → Known P f (boundT μ s (n + 1))) : Known P f s := by
 have key : ∀ n, Known P f (boundT μ s n) := by
  intro n
  induction n with
  | zero =>
   refine ⟨hf, fun args H v ups h => ?_⟩
   obtain ⟨h1, _⟩ := boundT_at h
   rw [Nat.blt_eq] at h1; omega
  | succ n ih => exact hstep n ih
 refine ⟨hf, fun args H v ups h => (key (μ args H + 1)).ok args H v ups ?_⟩
 unfold boundT
 rw [show Nat.blt (μ args H) (μ args H + 1) = true by rw [Nat.blt_eq]; omega]
 exact h
end Go.Am
/- The abstract machine: a list that is handed in, looked at as one that is known by content, beside others that are. -/
namespace Go.Am
variable {P : Program}
mutual
def slimV : SV → Bool
 | .junk | .bool _ | .int _ _ | .str _ | .nils | .nilp | .nilm | .nilf | .nili | .psl _ _ | .emp => true
 | .agg cs => slimL cs
 | .tup vs => slimL vs
 | _ => false
def slimL : List SV → Bool
 | [] => true
 | v :: vs => slimV v && slimL vs
end
theorem slimL_at : ∀ {vs : List SV}, slimL vs = true → ∀ {i : Nat} {v : SV}, vs[i]? = some v → slimV v = true
 | [], _, i, v, h => by simp at h
 | w :: vs, hn, i, v, h => by
  simp only [slimL, Bool.and_eq_true] at hn
  cases i with
  | zero => simp at h; subst h; exact hn.1
  | succ i => exact slimL_at hn.2 (by simpa using h)
theorem slim_rel {ω ω' : Nat → Value} {w : World} {Im Im' : Nat → Prop} {θ θ' : Th} {v : SV} {u : Value} (h : VRel P ω w Im θ v u) (hn : slimV v = true) (hI : ∀ b, Im b → Im' b) : VRel P ω' w Im' θ' v u := by
 induction h with
 | junk => exact .junk
 | bool => exact .bool
 | int => exact .int
 | str h => exact .str h
 | nilp => exact .nilp
 | nils => exact .nils
 | nilm => exact .nilm
 | nilf => exact .nilf
 | nili => exact .nili
 | emp => exact .emp
 | psl us h1 h0 h2 h3 h4 _ =>
  refine .psl us h1 h0 h2 (fun i v hv => (h3 i v hv).mono (fun b hb => ⟨hI b hb, rfl⟩) (fun _ _ h => h)) (fun hne => ?_)
  obtain ⟨a, off, hp, ha, hc⟩ := h4 hne
  exact ⟨a, off, hp, hI a ha, hc⟩
 | agg h1 _ ih => exact .agg h1 (fun i v u a b => ih i v u a b (slimL_at (by simpa [slimV] using hn) a))
 | tup h1 _ ih => exact .tup h1 (fun i v u a b => ih i v u a b (slimL_at (by simpa [slimV] using hn) a))
 | _ => simp [slimV] at hn
end Go.Am
/- The abstract machine: a list that is handed in, looked at as one that is known by content, ahead of others and behind. -/
namespace Go.Am
variable {P : Program}
theorem known_view3 {f : FuncId} {s s' : CSumm} (h : Known P f s) (hs : ∀ args H v ups, crun (s' args H) = some (v, ups) → ∃ (pre post : List SV) (e : Nat) (es : List SV) (l n sz : Nat), args = pre ++ .qs 0 sz l n :: post ∧ H = [(0, .seq e es)] ∧ sz = P.cellsOf e ∧ l + n ≤ es.length ∧
      slimL pre = true ∧ slimL post = true ∧ pureV v = true ∧ (∀ x, updF ups H.get x = H.get x) ∧ crun (s (pre ++ .psl e ((es.drop l).take n) :: post) []) = some (v, [])) : Known P f s' := by
 refine ⟨h.fn, ?_⟩
 intro args H v ups hr hc ω θ Im w us hl hH hfr
 obtain ⟨pre, post, e, es, l, n, sz, rfl, rfl, hsz, hle, hp, hq, hv, hu, hrun⟩ := hs args H v ups hr
 have hx : HpL.get [(0, Chunk.seq e es)] 0 = some (.seq e es) := rfl
 have hget : ∀ x c, HpL.get [(0, Chunk.seq e es)] x = some c → x = 0 ∧ c = .seq e es := fun x c hxc => by
  simp only [HpL.get] at hxc
  cases hb : Nat.beq 0 x with
  | true => rw [hb] at hxc; exact ⟨(Nat.eq_of_beq_eq_true hb).symm, by cases hxc; rfl⟩
  | false => rw [hb] at hxc; cases hxc
 let Im1 := frozenBy Im θ (HpL.get [(0, Chunk.seq e es)]) [0]
 have hIm1 : ∀ b, Im1 b → Im b ∨ ∃ N, θ 0 = some (b, N) := by
  rintro b (hb | ⟨y, hy, c, N, h1, h2⟩)
  · exact .inl hb
  · rw [List.mem_singleton] at hy; subst hy; exact .inr ⟨N, h2⟩
 have hsz1 : ∀ b, Im1 b → b < w.heap.size := fun b hb => by
  rcases hIm1 b hb with h1 | ⟨N, h1⟩
  · exact hH.im b h1
  · exact (hH.own 0 _ b N hx h1).2
 have hl2 : LRel P ω w Im1 noTh (pre ++ .psl e ((es.drop l).take n) :: post) us := by
  refine ⟨by rw [← hl.len]; simp, fun i v' u hv' hu' => ?_⟩
  by_cases hi : i < pre.length
  · rw [List.getElem?_append_left hi] at hv'
    exact slim_rel (hl.at_ i v' u (by rw [List.getElem?_append_left hi]; exact hv') hu') (slimL_at hp hv') (fun b hb => .inl hb)
  · rw [List.getElem?_append_right (by omega)] at hv'
    cases hz : i - pre.length with
    | zero =>
     rw [hz] at hv'
     simp at hv'
     subst hv'
     exact view_psl hH hx hsz hle (hl.at_ i _ u (by rw [List.getElem?_append_right (by omega), hz]; rfl) hu')
    | succ j =>
     rw [hz] at hv'
     simp only [List.getElem?_cons_succ] at hv'
     exact slim_rel (hl.at_ i v' u (by rw [List.getElem?_append_right (by omega), hz]; exact hv') hu') (slimL_at hq hv') (fun b hb => .inl hb)
 have hH2 : HRel P ω w Im1 noTh (HpL.get []) := ⟨fun x c hx => by simp [HpL.get] at hx, fun x y c c' b N N' hx => by simp [HpL.get] at hx, fun x c b N hx => by simp [HpL.get] at hx, hsz1, hH.gl.mono (frozenBy_up w)⟩
 refine (h.ok _ [] v [] hrun (fun i p hp => by simp at hp) ω noTh Im1 w us hl2 hH2 (fun x _ => rfl)).mono ?_
 rintro o w' ⟨u, θ', Im', rfl, hE, hvu, hH'⟩
 let Im3 : Nat → Prop := fun b => Im' b ∧ ∀ N, θ 0 ≠ some (b, N)
 have hold : ∀ b, b < w.heap.size → w'.heap[b]? = w.heap[b]? := fun b hb => hE.keep b hb (fun x c N hx => by simp [HpL.get] at hx)
 have hup : ∀ b, Im b → Im3 b := fun b hb => ⟨hE.imUp b (.inl hb), fun N hN => (hH.own 0 _ b N hx hN).1 hb⟩
 have hmono : ∀ b, Im b → Im3 b ∧ w'.heap[b]? = w.heap[b]? := fun b hb => ⟨hup b hb, hold b (hH.im b hb)⟩
 have hu' : updF ups (HpL.get [(0, Chunk.seq e es)]) = HpL.get [(0, Chunk.seq e es)] := funext hu
 refine ⟨u, θ, Im3, rfl, ?_, pure_rel hvu hv, ?_⟩
 · rw [hu']
   refine { thOld := fun _ _ => rfl, thUp := fun _ _ h => h, imUp := hup, size := hE.size, keep := fun b hb _ => hold b hb, imNew := fun b hb => ?_, ownNew := fun x c b N h1 h2 => .inl ⟨x, c, N, h1, h2⟩, os := hE.os, output := hE.output, tape := hE.tape }
   rcases hE.imNew b hb.1 with h1 | ⟨x, c, N, h1, _⟩ | h1
   · rcases hIm1 b h1 with h2 | ⟨N, h2⟩
     · exact .inl h2
     · exact absurd h2 (hb.2 N)
   · simp [HpL.get] at h1
   · exact .inr (.inr h1)
 · rw [hu']
   refine ⟨fun x c hxc => ?_, hH.inj, fun x c b N hxc hb => ?_, fun b hb => ?_, hH.gl.mono hmono⟩
   · obtain ⟨rfl, rfl⟩ := hget x c hxc
     rcases hH.at_ 0 _ hx with h1 | ⟨b', N', cs, T, fr, us', h3, h4, h5, h6, h7, h8, h9⟩
     · exact .inl h1
     · refine .inr ⟨b', N', cs, T, fr, us', h3, by rw [hold b' (hH.own 0 _ b' N' hx h3).2]; exact h4, h5, h6, h7, h8, fun i v' hv' => ?_⟩
       obtain ⟨g1, g2, g3⟩ := h9 i v' hv'
       exact ⟨g1.mono hmono (fun _ _ h => h), g2, g3⟩
   · obtain ⟨rfl, rfl⟩ := hget x c hxc
     exact ⟨fun hi => hi.2 N hb, Nat.lt_of_lt_of_le (hH.own 0 _ b N hx hb).2 hE.size⟩
   · rcases hE.imNew b hb.1 with h1 | ⟨x, c, N, h1, _⟩ | h1
     · exact Nat.lt_of_lt_of_le (hsz1 b h1) hE.size
     · simp [HpL.get] at h1
     · exact hH'.im b hb.1
end Go.Am
