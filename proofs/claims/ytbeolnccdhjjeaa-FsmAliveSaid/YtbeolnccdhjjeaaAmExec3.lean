/- The abstract machine: operations one after the other, regions, code. -/
import Derived.Test.YtbeolnccdhjjeaaAmExec2
namespace Go.Am
variable {P : Program} {ω : Nat → Value}

theorem args_rel {s : St} {a : Act} {w : World} {Im : Nat → Prop} {θ : Th} (hS : SimF P ω s.size s.tmp s.hp.get a w Im θ) (l : Array Operand) : LRel P ω w Im θ (l.toList.map s.ev) (l.map a.eval).toList := by
  refine ⟨by simp, fun i v u hv hu => ?_⟩
  simp only [List.getElem?_map, Array.getElem?_toList, Option.map_eq_some_iff] at hv
  obtain ⟨c, hc, rfl⟩ := hv
  simp only [Array.toList_map, List.getElem?_map, Array.getElem?_toList, hc, Option.map_some, Option.some.injEq] at hu
  subst hu
  rw [evT_ev]
  exact hS.eval c

/-- A result is put. -/
theorem put_sim {ρ : Option Nat} {s : St} {a : Act} {w : World} {Im : Nat → Prop} {θ : Th} (sim : Sim P ω ρ s a w Im θ) {dst : Option Nat} (hd : dstN s.size dst) {r : SV} {v : Value} (hv : VRel P ω w Im θ r v) : Sim P ω ρ (s.put dst r) (a.put dst v) w Im θ := by
  refine ⟨put_ok sim.ok hd r, ?_, by rw [put_nx, put_hp]; exact sim.fr, by rw [put_rd]; exact sim.rd⟩
  rw [put_sz, put_hp, tmp_put hd sim.ok.size]
  exact sim.sf.step hd (Ext.refl (fun _ => False)) hv sim.sf.hp
theorem put_later (s : St) (d : Option Nat) (v : SV) : Later s (s.put d v) := Later.of (put_m s d v) (put_nx s d v) (put_hp s d v) (put_dirty s d v)

section
variable {R D : Type} {fl : R} {den : R → Option D} (hfl : den fl = none) {rec : Rcr R} (hrec : RcrOk P den rec) {κ : Nat → Option CSumm} {ι : Nat → Bool} (hκ : KOk P κ)
include hfl hrec hκ

theorem step_run {o : Oper} {s : St} {k : St → R} {d : D} (hs : StOk s) (hd : dstN s.size o.dst) (h : den (stepR fl P κ ι rec o s k) = some d) :
    ∃ s', StOk s' ∧ Later s s' ∧ s'.size = s.size ∧ s'.rd = s.rd ∧ den (k s') = some d ∧
      ∀ (ω : Nat → Value) (ρ : Option Nat) (K : Act → World → Prop) (Q : Exit → Act → World → Prop) (a : Act) (w : World) (Im : Nat → Prop) (θ : Th), Sim P ω ρ s a w Im θ → After P ω ρ s s' a w Im θ K → o.wpIn (FR ρ) 0 P a w K Q := by
  unfold stepR at h
  split at h
  · -- plain
    obtain ⟨r, ups, nx, rs', hm, h2⟩ := interp_run hfl _ _ h
    cases hb : Nat.blt nx 1000000 with
    | false => rw [hb] at h2; exact (fl_no hfl h2).elim
    | true =>
      rw [hb] at h2
      simp only [cond_true] at h2
      have hnx : nx < 1000000 := by rw [Nat.blt_eq] at hb; exact hb
      rw [evT_ev] at hm
      obtain ⟨hle, hkeys⟩ := opM_wf hm
      have hk : ∀ p ∈ ups, p.1 < nx := by
        intro p hp
        rcases hkeys p hp with h3 | h3
        · obtain ⟨c, hc⟩ := mrun_reads _ _ hm p.1 h3
          have := hs.dom _ c hc; omega
        · exact h3.2
      have hk2 : ∀ p ∈ ups, p.1 < 1000000 := fun p hp => by have := hk p hp; omega
      have ou := upd_ok hs hle hnx hk
      have hhp : (s.upd ups nx).hp.get = updF ups s.hp.get := upsTr_get _ _ hk2
      refine ⟨_, put_ok ou hd r, (upd_later hle hk2).trans (put_later _ _ _), by rw [put_sz]; rfl, by rw [put_rd]; rfl, h2, ?_⟩
      intro ω ρ K Q a w Im θ sim hA
      refine op_good hκ sim.sf.hp (fun x _ => sim.sf.eval x) (fun x h1 _ => sim.fr x h1) hm ρ K Q (fun v w' Im' θ' hE hv hH => ?_)
      have hE' : Ext (fun x => s.nx ≤ x) s.hp.get w Im θ (updF ups s.hp.get) w' Im' θ' := hE.mono (fun x hx => hx.1)
      refine hA _ w' Im' θ' ⟨put_ok ou hd r, ?_, ?_, ?_⟩ ?_ (New.refl (put_defers _ _ _))
      · rw [put_sz, put_hp, hhp, tmp_put (s := s.upd ups nx) hd ou.size]
        exact sim.sf.step hd hE hv hH
      · rw [put_nx, put_hp, hhp]
        exact sim.fr.step hle hkeys (mrun_reads _ _ hm) hE
      · rw [put_rd]
        rcases sim.rd with g | ⟨y, b, N, g1, g2, g3⟩
        · exact .inl g
        · exact .inr ⟨y, b, N, g1, hE.thUp _ _ g2, g3⟩
      · rw [put_hp, hhp]; exact hE'
  · -- a call
    rename_i f args hck
    obtain ⟨r, s1, hs1, hl1, e1, e2, e3, h2, ⟨fn, hfn, hn1, hn2⟩, hw⟩ := callIn_run hfl hrec hs h
    have hd1 : dstN s1.size o.dst := by rw [e2]; exact hd
    refine ⟨_, put_ok hs1 hd1 r, hl1.trans (put_later _ _ _), by rw [put_sz, e2], by rw [put_rd, e3], h2, ?_⟩
    intro ω ρ K Q a w Im θ sim hA
    obtain ⟨dst, op, type, pos, after, guard⟩ := o
    unfold callKind at hck
    simp only at hck hd hA hd1
    split at hck
    case h_2 => cases hck
    rename_i c
    split at hck
    case h_3 => cases hck
    case h_2 =>
      rename_i ro m hcal
      split at hck
      case h_2 => cases hck
      rename_i t v hev
      split at hck
      case h_2 => cases hck
      rename_i g hmeth
      cases hi : ι g with
      | false => rw [hi] at hck; cases hck
      | true =>
        rw [hi] at hck
        simp only [cond_true, CallKind.fn.injEq] at hck
        obtain ⟨rfl, rfl⟩ := hck
        obtain ⟨callee, cargs, argTypes⟩ := c
        simp only at hcal
        subst hcal
        have hf := sim.sf.eval ro
        rw [← evT_ev, hev] at hf
        generalize hu : a.eval ro = u at hf
        cases hf with
        | iface hv =>
          rename_i u'
          have hl : LRel P ω w Im θ (v :: cargs.toList.map s.ev) (u' :: (cargs.map a.eval).toList) := by
            refine ⟨by simp, fun i x y hx hy => ?_⟩
            cases i with
            | zero => cases hx; cases hy; exact hv
            | succ i => exact (args_rel sim.sf cargs).at_ i x y hx hy
          have hrun : (execOp a.eval { dst := dst, op := .call { callee := .invoke ro m, args := cargs, argTypes := argTypes }, type := type, pos := pos, after := after, guard := guard }).run P w = .ok (.enter g (u' :: (cargs.map a.eval).toList).toArray) w := by
            have e : (u' :: (cargs.map a.eval).toList).toArray = #[u'] ++ cargs.map a.eval := by
              apply Array.ext'
              simp
            rw [e]
            have hi := run_invoke hmeth hfn hn1 hn2 u' (cargs.map a.eval) w
            simp only [execOp, resolve, hu, pure_bind]
            exact hi
          refine ⟨fun f _ => FR_fn ρ f, ?_⟩
          rw [Oper.semAt_eq _ _ _ (fun c hc => by cases hc), hrun, Oper.uponIn_enter]
          refine ⟨FR_depth1 ρ, ?_⟩
          refine hw _ ρ a w Im θ _ _ sim hl (fun v w' Im' θ' sim' hE hv => ?_)
          exact hA _ w' Im' θ' (put_sim sim' hd1 hv) (by rw [put_hp]; exact hE) (New.refl (put_defers _ _ _))
    rename_i fo hcal
    split at hck
    case h_1 => cases hck
    case h_3 => cases hck
    rename_i g first caps hev
    cases hi : ι g with
    | false => rw [hi] at hck; cases hck
    | true =>
      rw [hi] at hck
      simp only [cond_true, CallKind.fn.injEq] at hck
      obtain ⟨rfl, rfl⟩ := hck
      obtain ⟨callee, cargs, argTypes⟩ := c
      simp only at hcal
      subst hcal
      have hf := sim.sf.eval fo
      rw [← evT_ev, hev] at hf
      generalize hu : a.eval fo = u at hf
      cases hf with
      | fn h1 h2 h3 h4 =>
        rename_i us vs
        have hl : LRel P ω w Im θ (first ++ (cargs.toList.map s.ev ++ caps)) (us.toList ++ ((cargs.map a.eval).toList ++ vs.toList)) :=
          LRel.append ⟨by simpa using h1, fun i v u hv hu => h3 i v u hv (by simpa using hu)⟩ (LRel.append (args_rel sim.sf cargs) ⟨by simpa using h2, fun i v u hv hu => h4 i v u hv (by simpa using hu)⟩)
        have hrun : (execOp a.eval { dst := dst, op := .call { callee := .value fo, args := cargs, argTypes := argTypes }, type := type, pos := pos, after := after, guard := guard }).run P w = .ok (.enter g (us.toList ++ ((cargs.map a.eval).toList ++ vs.toList)).toArray) w := by
          have e : (us.toList ++ ((cargs.map a.eval).toList ++ vs.toList)).toArray = us ++ cargs.map a.eval ++ vs := by
            apply Array.ext'
            simp
          rw [e]
          have hn1' : ¬ fn.name = "runtime.NumGoroutine" := by simpa using hn1
          have hn2' : ¬ fn.body = none := by intro hh; simp [hh] at hn2
          simp [execOp, resolve, hu, Deferred.ofValue, invoke, callFunc, hfn, hn1', hn2']
        refine ⟨fun f _ => FR_fn ρ f, ?_⟩
        rw [Oper.semAt_eq _ _ _ (fun c hc => by cases hc), hrun, Oper.uponIn_enter]
        refine ⟨FR_depth1 ρ, ?_⟩
        refine hw _ ρ a w Im θ _ _ sim hl (fun v w' Im' θ' sim' hE hv => ?_)
        exact hA _ w' Im' θ' (put_sim sim' hd1 hv) (by rw [put_hp]; exact hE) (New.refl (put_defers _ _ _))
  · -- a round
    rename_i x args hck
    obtain ⟨r, s1, hs1, hl1, e1, e2, e3, h2, hw⟩ := roundIn_run hfl hrec hs h
    have hd1 : dstN s1.size o.dst := by rw [e2]; exact hd
    refine ⟨_, put_ok hs1 hd1 (.bool r), hl1.trans (put_later _ _ _), by rw [put_sz, e2], by rw [put_rd, e3], h2, ?_⟩
    intro ω ρ K Q a w Im θ sim hA
    obtain ⟨dst, op, type, pos, after, guard⟩ := o
    unfold callKind at hck
    simp only at hck hd hA hd1
    split at hck
    case h_2 => cases hck
    rename_i c
    split at hck
    case h_3 => cases hck
    case h_2 =>
      split at hck
      case h_2 => cases hck
      split at hck
      case h_2 => cases hck
      rename_i g hmeth
      cases hi : ι g <;> rw [hi] at hck <;> cases hck
    rename_i fo hcal
    split at hck
    case h_3 => cases hck
    case h_2 =>
      rename_i g first caps hev
      cases hi : ι g <;> rw [hi] at hck <;> cases hck
    rename_i x' hev
    simp only [CallKind.yl.injEq] at hck
    obtain ⟨rfl, rfl⟩ := hck
    obtain ⟨callee, cargs, argTypes⟩ := c
    simp only at hcal
    subst hcal
    have hf := sim.sf.eval fo
    rw [← evT_ev, hev] at hf
    generalize hu : a.eval fo = u at hf
    cases hf with
    | yl hθ =>
      rename_i b N
      obtain ⟨lp, hlp, hsz, hround⟩ := hw _ ρ a w Im θ (cargs.map a.eval).toList b N (fun
        | .returned v, w'' => K (a.put dst v) w''
        | .panicked chain, w'' => Q (.panic chain) a w''
        | .outgrown, _ => LetsOut Q) sim (args_rel sim.sf cargs) hθ (fun w' Im' θ' sim' hE => hA _ w' Im' θ' (put_sim sim' hd1 .bool) (by rw [put_hp]; exact hE) (New.refl (put_defers _ _ _)))
      have hrun : (execOp a.eval { dst := dst, op := .call { callee := .value fo, args := cargs, argTypes := argTypes }, type := type, pos := pos, after := after, guard := guard }).run P w =
          .ok (.round b lp.fn ((lp.params.zip (cargs.map a.eval)).foldl (fun tmps (t, a) => tmps.setIfInBounds t a) lp.tmps) lp.assign lp.body) w := by
        have hy := run_yield (P := P) (args := cargs.map a.eval) hlp (by simpa using hsz)
        simp [execOp, resolve, hu, Deferred.ofValue, invoke, hy]
      refine ⟨fun f _ => FR_fn ρ f, ?_⟩
      rw [Oper.semAt_eq _ _ _ (fun c hc => by cases hc), hrun, Oper.uponIn_round]
      refine ⟨FR_depth1 ρ, ?_⟩
      have e : ((cargs.map a.eval).toList).toArray = cargs.map a.eval := Array.toArray_toList ..
      rw [e] at hround
      exact hround
end
end Go.Am
