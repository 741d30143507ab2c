/- The abstract machine: a round of a range over a function. -/
import Derived.Test.YtglklakklmpodaaGreatMachine6
import Derived.RangeFuncNested
import Derived.LoopNIn
import Derived.Scope
import Derived.ChangeSame
import Derived.RangeFuncLeaves
set_option linter.unusedVariables false
set_option linter.unusedSimpArgs false
namespace Go.Am
variable {P : Program} {ω : Nat → Value}
theorem listOfTr_get (s : St) : ∀ (n i j : Nat), (listOfTr s n i)[j]? = if j < n then some (s.tmp (i + j)) else none
 | 0, i, j => by simp [listOfTr]
 | n + 1, i, j => by
  cases j with
  | zero => simp [listOfTr]
  | succ j =>
   simp only [listOfTr, List.getElem?_cons_succ]
   rw [listOfTr_get s n (i + 1) j]
   have : i + 1 + j = i + (j + 1) := by omega
   rw [this]
   simp only [Nat.add_lt_add_iff_right]
theorem listOfTr_len (s : St) : ∀ (n i : Nat), (listOfTr s n i).length = n
 | 0, _ => rfl
 | n + 1, i => by simp [listOfTr, listOfTr_len s n (i + 1)]
theorem list_rel {s : St} {a : Act} {w : World} {Im : Nat → Prop} {θ : Th} {h : HpF} (hS : SimF P ω s.size s.tmp h a w Im θ) : LRel P ω w Im θ (listOfTr s s.size 0) a.tmps.toList := by
 refine ⟨by rw [listOfTr_len]; simp [hS.size], fun i v u hv hu => ?_⟩
 rw [listOfTr_get] at hv
 split at hv
 · rename_i hi
   simp only [Nat.zero_add, Option.some.injEq] at hv
   subst hv
   have := hS.tm i hi
   have e : a.tmps.getD i undef = u := by
    simp only [Array.getElem?_toList] at hu
    simp [Array.getD_eq_getD_getElem?, hu]
   rwa [e] at this
 · cases hv
def setL : List Nat → List Value → Array Value → Array Value
 | p :: ps, u :: us, a => setL ps us (a.setIfInBounds p u)
 | _, _, a => a
theorem setL_eq (ps : Array Nat) (us : Array Value) (a : Array Value) : (ps.zip us).foldl (fun tmps (t, a) => tmps.setIfInBounds t a) a = setL ps.toList us.toList a := by
 rw [← Array.foldl_toList]
 rw [Array.toList_zip]
 generalize ps.toList = l
 generalize us.toList = m
 induction l generalizing m a with
 | nil => simp [setL]
 | cons p l ih =>
  cases m with
  | nil => simp [setL]
  | cons u m => simp [setL, ih]
theorem setPs_rel {n : Nat} (hn : n < 16000) {w : World} {Im : Nat → Prop} {θ : Th} : ∀ (ps : List Nat) (vs : List SV) (us : List Value) (t : Tr SV) (a : Array Value), lowB n ps = true → ps.length = vs.length → LRel P ω w Im θ vs us →
  a.size = n → (∀ j, j < n → VRel P ω w Im θ (match t.get j with
   | some v => v
   | none => .junk) (a.getD j undef)) → (∀ j, n ≤ j → t.get j = none) →
  (setL ps us a).size = n ∧ (∀ j, j < n → VRel P ω w Im θ (match (setPs ps vs t).get j with
   | some v => v
   | none => .junk) ((setL ps us a).getD j undef)) ∧ ∀ j, n ≤ j → (setPs ps vs t).get j = none
 | [], vs, us, t, a, _, _, _, hs, h1, h2 => by
  have e1 : setPs [] vs t = t := by cases vs <;> rfl
  have e2 : setL [] us a = a := by cases us <;> rfl
  rw [e1, e2]
  exact ⟨hs, h1, h2⟩
 | p :: ps, [], us, t, a, _, hlen, _, _, _, _ => by simp at hlen
 | p :: ps, v :: vs, us, t, a, hlow, hlen, hl, hs, h1, h2 => by
  cases us with
  | nil => have := hl.len; simp at this
  | cons u us =>
   simp only [lowB, Bool.and_eq_true] at hlow
   have hp : p < n := by have := hlow.1; rwa [Nat.blt_eq] at this
   simp only [setPs, setL]
   refine setPs_rel hn ps vs us _ _ hlow.2 (by simpa using hlen) ⟨by have := hl.len; simpa using this, fun i x y hx hy => hl.at_ (i + 1) x y (by simpa using hx) (by simpa using hy)⟩ (by simpa using hs) (fun j hj => ?_) (fun j hj => ?_)
   · rw [Tr.get_set 14 t p (some v) j (by omega)]
     by_cases e : j = p
     · subst e
       have : j < a.size := by omega
       simp only [if_pos, Array.getD_eq_getD_getElem?, Array.getElem?_setIfInBounds, this, Option.getD_some]
       exact hl.at_ 0 v u rfl rfl
     · have := h1 j hj
       rw [if_neg e]
       have e2 : (a.setIfInBounds p u).getD j undef = a.getD j undef := by
        simp [Array.getD_eq_getD_getElem?, Ne.symm e]
       rw [e2]; exact this
   · rw [Tr.get_set 14 t p (some v) j (by omega), if_neg (by omega)]
     exact h2 j hj
theorem round_sim {s : St} (hs : StOk s) {x b N : Nat} {w : World} {Im : Nat → Prop} {θ : Th} (hr : HRel P ω w Im θ s.hp.get) (hf : Fr s.nx θ s.hp.get) (hθ : θ x = some (b, N)) {vs args : List SV} {us : List Value} {tmps : Array Value} {ps : Array Nat}
  (h1 : ps.size = args.length) (h2 : lowB vs.length ps.toList = true) (h3 : vs.length < 16000) (hv : LRel P ω w Im θ vs tmps.toList) (hl : LRel P ω w Im θ args us) :
  StOk { s with tm := setPs ps.toList args (argsTr vs 0 .lf), size := vs.length, rd := some x } ∧
  Sim P ω (some b) { s with tm := setPs ps.toList args (argsTr vs 0 .lf), size := vs.length, rd := some x } { tmps := (ps.zip us.toArray).foldl (fun tmps (t, a) => tmps.setIfInBounds t a) tmps, defers := [] } w Im θ := by
 have hsz : tmps.size = vs.length := by have := hv.len; simp at this; omega
 obtain ⟨k1, k2, k3⟩ := setPs_rel (P := P) h3 ps.toList args us (argsTr vs 0 .lf) tmps h2 (by simpa using h1) hl hsz (fun j hj => by
  rw [argsTr_get vs 0 .lf j (by omega), if_pos (by omega)]
  have e : vs[j - 0]? = some vs[j] := by simp [hj]
  rw [e]
  refine hv.at_ j _ _ (by simp [hj]) ?_
  have : j < tmps.size := by omega
  simp [Array.getD_eq_getD_getElem?, this]) (fun j hj => by
  rw [argsTr_get vs 0 .lf j (by omega), if_neg (by omega)]; rfl)
 have hok : StOk { s with tm := setPs ps.toList args (argsTr vs 0 .lf), size := vs.length, rd := some x } := by
  refine ⟨h3, hs.nx, fun t ht => ?_, hs.dom, hs.m⟩
  have ht' : vs.length ≤ t := ht
  simp only [St.tmp]
  rw [k3 t ht']
 refine ⟨hok, hok, ⟨?_, ?_, hok.out, Mk.nil, hr⟩, hf, .inr ⟨x, b, N, rfl, hθ, rfl⟩⟩
 · show ((ps.zip us.toArray).foldl (fun tmps (t, a) => tmps.setIfInBounds t a) tmps).size = _
   rw [setL_eq]; exact k1
 · intro t ht
   show VRel P ω w Im θ _ (((ps.zip us.toArray).foldl (fun tmps (t, a) => tmps.setIfInBounds t a) tmps).getD t undef)
   rw [setL_eq]
   exact k2 t ht
end Go.Am
/- The abstract machine: a round of a range over a function; operations one after the other. -/
namespace Go.Am
variable {P : Program} {ω : Nat → Value}
theorem setPs_out {n : Nat} (hn : n < 16000) : ∀ (ps : List Nat) (vs : List SV) (t : Tr SV), lowB n ps = true → (∀ j, n ≤ j → t.get j = none) → ∀ j, n ≤ j → (setPs ps vs t).get j = none
 | [], vs, t, _, h => by
  have e1 : setPs [] vs t = t := by cases vs <;> rfl
  rw [e1]; exact h
 | p :: ps, [], t, _, h => h
 | p :: ps, v :: vs, t, hl, h => by
  simp only [lowB, Bool.and_eq_true] at hl
  have hp : p < n := by have := hl.1; rwa [Nat.blt_eq] at this
  simp only [setPs]
  refine setPs_out hn ps vs _ hl.2 (fun j hj => ?_)
  rw [Tr.get_set 14 t p (some v) j (by omega), if_neg (by omega)]
  exact h j hj
theorem round_ok {s : St} (hs : StOk s) {x : Nat} {vs args : List SV} {ps : List Nat} (h2 : lowB vs.length ps = true) (h3 : vs.length < 16000) : StOk { s with tm := setPs ps args (argsTr vs 0 .lf), size := vs.length, rd := some x } := by
 refine ⟨h3, hs.nx, fun t ht => ?_, hs.dom, hs.m⟩
 have ht' : vs.length ≤ t := ht
 simp only [St.tmp]
 rw [setPs_out h3 ps args _ h2 (fun j hj => by rw [argsTr_get vs 0 .lf j (by omega), if_neg (by omega)]; rfl) t ht']
theorem turn_ok {s : St} {x : Nat} {c : Chunk} (c' : Option Chunk) (hx : s.hp.get x = some c) (hs : StOk s) :
  StOk (s.upd [(x, c')] s.nx) ∧ Later s (s.upd [(x, c')] s.nx) ∧ (s.upd [(x, c')] s.nx).hp.get = updF [(x, c')] s.hp.get := by
 have hlt := hs.dom x _ hx
 have hk : ∀ p ∈ [(x, c')], p.1 < s.nx := by
  intro p hp
  simp only [List.mem_singleton] at hp
  subst hp; exact hlt
 exact ⟨upd_ok hs (Nat.le_refl _) hs.nx hk, upd_later (Nat.le_refl _) (fun p hp => by have := hk p hp; have := hs.nx; omega), upsTr_get _ _ (fun p hp => by have := hk p hp; have := hs.nx; omega)⟩
theorem Sim.turn {ρ : Option Nat} {s : St} {a : Act} {w w' : World} {Im : Nat → Prop} {θ : Th} (sim : Sim P ω ρ s a w Im θ) {x : Nat} {c : Chunk} {c' : Option Chunk} (hx : s.hp.get x = some c)
  (hE : Ext (fun _ => False) s.hp.get w Im θ (updF [(x, c')] s.hp.get) w' Im θ) (hH : HRel P ω w' Im θ (updF [(x, c')] s.hp.get)) : Sim P ω ρ (s.upd [(x, c')] s.nx) a w' Im θ ∧ Ext (fun x => s.nx ≤ x) s.hp.get w Im θ (s.upd [(x, c')] s.nx).hp.get w' Im θ := by
 obtain ⟨h1, h2, h3⟩ := turn_ok c' hx sim.ok
 have hlt := sim.ok.dom x _ hx
 refine ⟨⟨h1, ?_, ?_, sim.rd⟩, by rw [h3]; exact hE.mono (fun _ h => h.elim)⟩
 · have := sim.sf.step (dst := none) trivial hE (VRel'.junk (u := undef)) hH
   rw [h3]
   exact this
 · rw [h3]
   intro y hy
   have hy' : s.nx ≤ y := hy
   obtain ⟨g1, g2⟩ := sim.fr y hy'
   refine ⟨g1, ?_⟩
   have : ¬ y = x := by omega
   simp [updF, this, g2]
section
variable {R D : Type} {fl : R} {den : R → Option D} (hfl : den fl = none) {rec : Rcr R} (hrec : RcrOk P den rec)
include hfl hrec
theorem roundIn_run {x : Nat} {args : List SV} {s : St} {k : Bool → St → R} {d : D} (hs : StOk s) (h : den (roundIn fl rec x args s k) = some d) :
  ∃ r s', StOk s' ∧ Later s s' ∧ s'.tm = s.tm ∧ s'.size = s.size ∧ s'.rd = s.rd ∧ den (k r s') = some d ∧
   ∀ (ω : Nat → Value) (ρ : Option Nat) (a : Act) (w : World) (Im : Nat → Prop) (θ : Th) (us : List Value) (b N : Nat) (R' : Ending → World → Prop), Sim P ω ρ s a w Im θ → LRel P ω w Im θ args us → θ x = some (b, N) →
    (∀ w' Im' θ', Sim P ω ρ s' a w' Im' θ' → Ext (fun x => s.nx ≤ x) s.hp.get w Im θ s'.hp.get w' Im' θ' → R' (.returned (.bool r)) w') →
    ∃ lp : Loop, w.heap[b]? = some (.loop lp) ∧ us.length = lp.params.size ∧ RoundIn (FR ρ) 0 P b lp.fn ((lp.params.zip us.toArray).foldl (fun tmps (t, a) => tmps.setIfInBounds t a) lp.tmps) lp.assign lp.body w R' := by
 unfold roundIn at h
 split at h
 case h_2 => exact (fl_no hfl h).elim
 rename_i vs ps asg bdy hx
 cases hc : Nat.beq ps.size args.length && lowB vs.length ps.toList && Nat.blt vs.length 16000 with
 | false => rw [hc] at h; exact (fl_no hfl h).elim
 | true =>
  rw [hc] at h
  simp only [cond_true] at h
  simp only [Bool.and_eq_true] at hc
  obtain ⟨⟨c1, c2⟩, c3⟩ := hc
  have h1 : ps.size = args.length := Nat.eq_of_beq_eq_true c1
  have h3 : vs.length < 16000 := by rwa [Nat.blt_eq] at c3
  obtain ⟨e, s1, hs1, hcA, h4⟩ := hrec _ _ _ _ (round_ok hs (x := x) (args := args) c2 h3) h
  cases e with
  | exit id => exact (fl_no hfl h4).elim
  | ret => exact (fl_no hfl h4).elim
  | normal =>
   simp only [] at h4
   split at h4
   case h_2 => exact (fl_no hfl h4).elim
   rename_i vs1 ps1 asg1 bdy1 hx1
   obtain ⟨o1, l1, g1⟩ := turn_ok (some (.loopr .busy vs1 ps1 asg1 bdy1)) hx1 hs1
   obtain ⟨e2, s2, hs2, hcB, h5⟩ := hrec _ _ _ _ o1 h4
   split at h5
   case h_2 => exact (fl_no hfl h5).elim
   rename_i vs2 ps2 asg2 bdy2 hx2
   obtain ⟨o2, l2, g2⟩ := turn_ok (some (.loopr (endSt e2) vs2 ps2 asg2 bdy2)) hx2 hs2
   have lA : Later s s1 := ⟨hcA.later.m, hcA.later.nx, hcA.later.same, hcA.later.up, hcA.later.low⟩
   have lAll : Later s (s2.upd [(x, some (.loopr (endSt e2) vs2 ps2 asg2 bdy2))] s2.nx) := ((lA.trans l1).trans hcB.later).trans l2
   refine ⟨isNormal e2, { s2.upd [(x, some (.loopr (endSt e2) vs2 ps2 asg2 bdy2))] s2.nx with tm := s.tm, size := s.size, rd := s.rd }, ⟨hs.size, o2.nx, hs.out, o2.dom, o2.m⟩, frame_later s _ _ _ _ lAll, rfl, rfl, rfl, h5, ?_⟩
   intro ω ρ a w Im θ us b N R' sim hl hθ hR
   obtain ⟨lp, hw, e1, e2', e3, e4, hv, -⟩ := put_loop (st' := .busy) sim.sf.hp hx hθ
   refine ⟨lp, hw, by rw [e1, h1, hl.len], ?_⟩
   rw [e1, e2', e3]
   have simA := (round_sim hs sim.sf.hp sim.fr hθ h1 c2 h3 hv hl).2
   refine roundIn_of_wpIn (FR_fn ρ _) ?_
   show asg.wpIn (FR (some b)) 0 P _ _ w
   refine hcA.wp (some b) _ _ w Im θ simA (fun a1 w1 Im1 θ1 sim1 hE1 _ => ?_)
   have hθ1 : θ1 x = some (b, N) := hE1.thUp _ _ hθ
   obtain ⟨lp1, hw1, -, -, -, f4, -, hput1⟩ := put_loop (st' := .busy) sim1.sf.hp hx1 hθ1
   obtain ⟨hEb, hHb⟩ := hput1 .busy none ⟨rfl, rfl⟩
   have hlp : ({ lp1 with state := .busy, pending := none } : Loop) = { lp1 with state := .busy } := by
    have := f4.2
    rw [← this]
   rw [hlp] at hEb hHb
   obtain ⟨simB, hEB⟩ := sim1.turn hx1 hEb hHb
   refine ⟨_, run_beginRound hw1 f4.1, ?_⟩
   show bdy.wpIn (FR (some b)) 0 P _ _ _
   refine hcB.wp (some b) _ _ _ _ _ simB (fun a2 w2 Im2 θ2 sim2 hE2 _ => ?_)
   have hθ2 : θ2 x = some (b, N) := hE2.thUp _ _ hθ1
   obtain ⟨lp2, hw2, -, -, -, -, -, hput2⟩ := put_loop (st' := endSt e2) sim2.sf.hp hx2 hθ2
   have fin : ∀ (st : LoopState) (pe : Option Code), stRel (endSt e2) st pe → R' (.returned (.bool (isNormal e2))) (w2.putObj b (.loop { lp2 with state := st, pending := pe })) := by
    intro st pe hst
    obtain ⟨hEc, hHc⟩ := hput2 st pe hst
    obtain ⟨simC, hEC⟩ := sim2.turn hx2 hEc hHc
    have hE : Ext (fun x => s.nx ≤ x) s.hp.get w Im θ (s2.upd [(x, some (.loopr (endSt e2) vs2 ps2 asg2 bdy2))] s2.nx).hp.get (w2.putObj b (.loop { lp2 with state := st, pending := pe })) Im2 θ2 := by
     have m1 : ∀ y, s1.nx ≤ y → s.nx ≤ y := fun y hy => Nat.le_trans lA.nx hy
     have m2 : ∀ y, s2.nx ≤ y → s.nx ≤ y := fun y hy => Nat.le_trans lAll.nx hy
     exact ((hE1.trans (hEB.mono m1)).trans (hE2.mono m1)).trans (hEC.mono m2)
    exact hR _ Im2 θ2 (frame_sim sim o2 lAll simC.sf.hp simC.fr hE) hE
   cases e2 with
   | normal =>
    exact ⟨_, _, run_endRound none hw2, fin .ready none ⟨rfl, rfl⟩⟩
   | ret =>
    exact ⟨_, _, run_endRound (some .ret) hw2, fin .done (some .ret) ⟨rfl, rfl, by simp⟩⟩
   | exit id =>
    exact ⟨_, _, run_endRound (some (.exit id)) hw2, fin .done (some (.exit id)) ⟨rfl, rfl, by simp⟩⟩
end
end Go.Am
/- The abstract machine: operations one after the other, regions, code. -/
namespace Go.Am
variable {P : Program} {ω : Nat → Value}
theorem args_rel {s : St} {a : Act} {w : World} {Im : Nat → Prop} {θ : Th} (hS : SimF P ω s.size s.tmp s.hp.get a w Im θ) (l : Array Operand) : LRel P ω w Im θ (l.toList.map s.ev) (l.map a.eval).toList := by
 refine ⟨by simp, fun i v u hv hu => ?_⟩
 simp only [List.getElem?_map, Array.getElem?_toList, Option.map_eq_some_iff] at hv
 obtain ⟨c, hc, rfl⟩ := hv
 simp only [Array.toList_map, List.getElem?_map, Array.getElem?_toList, hc, Option.map_some, Option.some.injEq] at hu
 subst hu
 rw [evT_ev]
 exact hS.eval c
theorem put_sim {ρ : Option Nat} {s : St} {a : Act} {w : World} {Im : Nat → Prop} {θ : Th} (sim : Sim P ω ρ s a w Im θ) {dst : Option Nat} (hd : dstN s.size dst) {r : SV} {v : Value} (hv : VRel P ω w Im θ r v) : Sim P ω ρ (s.put dst r) (a.put dst v) w Im θ := by
 refine ⟨put_ok sim.ok hd r, ?_, by rw [put_nx, put_hp]; exact sim.fr, by rw [put_rd]; exact sim.rd⟩
 rw [put_sz, put_hp, tmp_put hd sim.ok.size]
 exact sim.sf.step hd (Ext.refl (fun _ => False)) hv sim.sf.hp
theorem put_later (s : St) (d : Option Nat) (v : SV) : Later s (s.put d v) := Later.of (put_m s d v) (put_nx s d v) (put_hp s d v) (put_dirty s d v)
section
variable {R D : Type} {fl : R} {den : R → Option D} (hfl : den fl = none) {rec : Rcr R} (hrec : RcrOk P den rec) {κ : Nat → Option CSumm} {ι : Nat → Bool} (hκ : KOk P κ)
include hfl hrec hκ
theorem step_run {o : Oper} {s : St} {k : St → R} {d : D} (hs : StOk s) (hd : dstN s.size o.dst) (h : den (stepR fl P κ ι rec o s k) = some d) :
  ∃ s', StOk s' ∧ Later s s' ∧ s'.size = s.size ∧ s'.rd = s.rd ∧ den (k s') = some d ∧
   ∀ (ω : Nat → Value) (ρ : Option Nat) (K : Act → World → Prop) (Q : Exit → Act → World → Prop) (a : Act) (w : World) (Im : Nat → Prop) (θ : Th), Sim P ω ρ s a w Im θ → After P ω ρ s s' a w Im θ K → o.wpIn (FR ρ) 0 P a w K Q := by
 unfold stepR at h
 split at h
 · -- plain
   obtain ⟨r, ups, nx, rs', hm, h2⟩ := interp_run hfl _ _ h
   cases hb : Nat.blt nx 1000000 with
   | false => rw [hb] at h2; exact (fl_no hfl h2).elim
   | true =>
    rw [hb] at h2
    simp only [cond_true] at h2
    have hnx : nx < 1000000 := by rw [Nat.blt_eq] at hb; exact hb
    rw [evT_ev] at hm
    obtain ⟨hle, hkeys⟩ := opM_wf hm
    have hk : ∀ p ∈ ups, p.1 < nx := by
     intro p hp
     rcases hkeys p hp with h3 | h3
     · obtain ⟨c, hc⟩ := mrun_reads _ _ hm p.1 h3
       have := hs.dom _ c hc; omega
     · exact h3.2
    have hk2 : ∀ p ∈ ups, p.1 < 1000000 := fun p hp => by have := hk p hp; omega
    have ou := upd_ok hs hle hnx hk
    have hhp : (s.upd ups nx).hp.get = updF ups s.hp.get := upsTr_get _ _ hk2
    refine ⟨_, put_ok ou hd r, (upd_later hle hk2).trans (put_later _ _ _), by rw [put_sz]; rfl, by rw [put_rd]; rfl, h2, ?_⟩
    intro ω ρ K Q a w Im θ sim hA
    refine op_good hκ sim.sf.hp (fun x _ => sim.sf.eval x) (fun x h1 _ => sim.fr x h1) hm ρ K Q (fun v w' Im' θ' hE hv hH => ?_)
    have hE' : Ext (fun x => s.nx ≤ x) s.hp.get w Im θ (updF ups s.hp.get) w' Im' θ' := hE.mono (fun x hx => hx.1)
    refine hA _ w' Im' θ' ⟨put_ok ou hd r, ?_, ?_, ?_⟩ ?_ (New.refl (put_defers _ _ _))
    · rw [put_sz, put_hp, hhp, tmp_put (s := s.upd ups nx) hd ou.size]
      exact sim.sf.step hd hE hv hH
    · rw [put_nx, put_hp, hhp]
      exact sim.fr.step hle hkeys (mrun_reads _ _ hm) hE
    · rw [put_rd]
      rcases sim.rd with g | ⟨y, b, N, g1, g2, g3⟩
      · exact .inl g
      · exact .inr ⟨y, b, N, g1, hE.thUp _ _ g2, g3⟩
    · rw [put_hp, hhp]; exact hE'
 · -- a call
   rename_i f args hck
   obtain ⟨r, s1, hs1, hl1, e1, e2, e3, h2, ⟨fn, hfn, hn1, hn2⟩, hw⟩ := callIn_run hfl hrec hs h
   have hd1 : dstN s1.size o.dst := by rw [e2]; exact hd
   refine ⟨_, put_ok hs1 hd1 r, hl1.trans (put_later _ _ _), by rw [put_sz, e2], by rw [put_rd, e3], h2, ?_⟩
   intro ω ρ K Q a w Im θ sim hA
   obtain ⟨dst, op, type, pos, after, guard⟩ := o
   unfold callKind at hck
   simp only at hck hd hA hd1
   split at hck
   case h_2 => cases hck
   rename_i c
   split at hck
   case h_3 => cases hck
   case h_2 =>
    rename_i ro m hcal
    split at hck
    case h_2 => cases hck
    rename_i t v hev
    split at hck
    case h_2 => cases hck
    rename_i g hmeth
    cases hi : ι g with
    | false => rw [hi] at hck; cases hck
    | true =>
     rw [hi] at hck
     simp only [cond_true, CallKind.fn.injEq] at hck
     obtain ⟨rfl, rfl⟩ := hck
     obtain ⟨callee, cargs, argTypes⟩ := c
     simp only at hcal
     subst hcal
     have hf := sim.sf.eval ro
     rw [← evT_ev, hev] at hf
     generalize hu : a.eval ro = u at hf
     cases hf with
     | iface hv =>
      rename_i u'
      have hl : LRel P ω w Im θ (v :: cargs.toList.map s.ev) (u' :: (cargs.map a.eval).toList) := by
       refine ⟨by simp, fun i x y hx hy => ?_⟩
       cases i with
       | zero => cases hx; cases hy; exact hv
       | succ i => exact (args_rel sim.sf cargs).at_ i x y hx hy
      have hrun : (execOp a.eval { dst := dst, op := .call { callee := .invoke ro m, args := cargs, argTypes := argTypes }, type := type, pos := pos, after := after, guard := guard }).run P w = .ok (.enter g (u' :: (cargs.map a.eval).toList).toArray) w := by
       have e : (u' :: (cargs.map a.eval).toList).toArray = #[u'] ++ cargs.map a.eval := by
        apply Array.ext'
        simp
       rw [e]
       have hi := run_invoke hmeth hfn hn1 hn2 u' (cargs.map a.eval) w
       simp only [execOp, resolve, hu, pure_bind]
       exact hi
      refine ⟨fun f _ => FR_fn ρ f, ?_⟩
      rw [Oper.semAt_eq _ _ _ (fun c hc => by cases hc), hrun, Oper.uponIn_enter]
      refine ⟨FR_depth1 ρ, ?_⟩
      refine hw _ ρ a w Im θ _ _ sim hl (fun v w' Im' θ' sim' hE hv => ?_)
      exact hA _ w' Im' θ' (put_sim sim' hd1 hv) (by rw [put_hp]; exact hE) (New.refl (put_defers _ _ _))
   rename_i fo hcal
   split at hck
   case h_1 => cases hck
   case h_3 => cases hck
   rename_i g first caps hev
   cases hi : ι g with
   | false => rw [hi] at hck; cases hck
   | true =>
    rw [hi] at hck
    simp only [cond_true, CallKind.fn.injEq] at hck
    obtain ⟨rfl, rfl⟩ := hck
    obtain ⟨callee, cargs, argTypes⟩ := c
    simp only at hcal
    subst hcal
    have hf := sim.sf.eval fo
    rw [← evT_ev, hev] at hf
    generalize hu : a.eval fo = u at hf
    cases hf with
    | fn h1 h2 h3 h4 =>
     rename_i us vs
     have hl : LRel P ω w Im θ (first ++ (cargs.toList.map s.ev ++ caps)) (us.toList ++ ((cargs.map a.eval).toList ++ vs.toList)) :=
      LRel.append ⟨by simpa using h1, fun i v u hv hu => h3 i v u hv (by simpa using hu)⟩ (LRel.append (args_rel sim.sf cargs) ⟨by simpa using h2, fun i v u hv hu => h4 i v u hv (by simpa using hu)⟩)
     have hrun : (execOp a.eval { dst := dst, op := .call { callee := .value fo, args := cargs, argTypes := argTypes }, type := type, pos := pos, after := after, guard := guard }).run P w = .ok (.enter g (us.toList ++ ((cargs.map a.eval).toList ++ vs.toList)).toArray) w := by
      have e : (us.toList ++ ((cargs.map a.eval).toList ++ vs.toList)).toArray = us ++ cargs.map a.eval ++ vs := by
       apply Array.ext'
       simp
      rw [e]
      have hn1' : ¬ fn.name = "runtime.NumGoroutine" := by simpa using hn1
      have hn2' : ¬ fn.body = none := by intro hh; simp [hh] at hn2
      simp [execOp, resolve, hu, Deferred.ofValue, invoke, callFunc, hfn, hn1', hn2']
     refine ⟨fun f _ => FR_fn ρ f, ?_⟩
     rw [Oper.semAt_eq _ _ _ (fun c hc => by cases hc), hrun, Oper.uponIn_enter]
     refine ⟨FR_depth1 ρ, ?_⟩
     refine hw _ ρ a w Im θ _ _ sim hl (fun v w' Im' θ' sim' hE hv => ?_)
     exact hA _ w' Im' θ' (put_sim sim' hd1 hv) (by rw [put_hp]; exact hE) (New.refl (put_defers _ _ _))
 · -- a round
   rename_i x args hck
   obtain ⟨r, s1, hs1, hl1, e1, e2, e3, h2, hw⟩ := roundIn_run hfl hrec hs h
   have hd1 : dstN s1.size o.dst := by rw [e2]; exact hd
   refine ⟨_, put_ok hs1 hd1 (.bool r), hl1.trans (put_later _ _ _), by rw [put_sz, e2], by rw [put_rd, e3], h2, ?_⟩
   intro ω ρ K Q a w Im θ sim hA
   obtain ⟨dst, op, type, pos, after, guard⟩ := o
   unfold callKind at hck
   simp only at hck hd hA hd1
   split at hck
   case h_2 => cases hck
   rename_i c
   split at hck
   case h_3 => cases hck
   case h_2 =>
    split at hck
    case h_2 => cases hck
    split at hck
    case h_2 => cases hck
    rename_i g hmeth
    cases hi : ι g <;> rw [hi] at hck <;> cases hck
   rename_i fo hcal
   split at hck
   case h_3 => cases hck
   case h_2 =>
    rename_i g first caps hev
    cases hi : ι g <;> rw [hi] at hck <;> cases hck
   rename_i x' hev
   simp only [CallKind.yl.injEq] at hck
   obtain ⟨rfl, rfl⟩ := hck
   obtain ⟨callee, cargs, argTypes⟩ := c
   simp only at hcal
   subst hcal
   have hf := sim.sf.eval fo
   rw [← evT_ev, hev] at hf
   generalize hu : a.eval fo = u at hf
   cases hf with
   | yl hθ =>
    rename_i b N
    obtain ⟨lp, hlp, hsz, hround⟩ := hw _ ρ a w Im θ (cargs.map a.eval).toList b N (fun
     | .returned v, w'' => K (a.put dst v) w''
     | .panicked chain, w'' => Q (.panic chain) a w''
     | .outgrown, _ => LetsOut Q) sim (args_rel sim.sf cargs) hθ (fun w' Im' θ' sim' hE => hA _ w' Im' θ' (put_sim sim' hd1 .bool) (by rw [put_hp]; exact hE) (New.refl (put_defers _ _ _)))
    have hrun : (execOp a.eval { dst := dst, op := .call { callee := .value fo, args := cargs, argTypes := argTypes }, type := type, pos := pos, after := after, guard := guard }).run P w =
      .ok (.round b lp.fn ((lp.params.zip (cargs.map a.eval)).foldl (fun tmps (t, a) => tmps.setIfInBounds t a) lp.tmps) lp.assign lp.body) w := by
     have hy := run_yield (P := P) (args := cargs.map a.eval) hlp (by simpa using hsz)
     simp [execOp, resolve, hu, Deferred.ofValue, invoke, hy]
    refine ⟨fun f _ => FR_fn ρ f, ?_⟩
    rw [Oper.semAt_eq _ _ _ (fun c hc => by cases hc), hrun, Oper.uponIn_round]
    refine ⟨FR_depth1 ρ, ?_⟩
    have e : ((cargs.map a.eval).toList).toArray = cargs.map a.eval := Array.toArray_toList ..
    rw [e] at hround
    exact hround
end
end Go.Am
/- The abstract machine: regions and code: what is carried out is right. -/
namespace Go.Am
variable {P : Program} {ω : Nat → Value}
section
variable {R D : Type} {fl : R} {den : R → Option D} (hfl : den fl = none) {rec : Rcr R} (hrec : RcrOk P den rec) {κ : Nat → Option CSumm} {ι : Nat → Bool} (hκ : KOk P κ)
include hfl hrec hκ
theorem opsQ_run {all : List Oper} {k : St → R} {d : D} : ∀ (os : List Oper) (i : Nat) (s : St), all.drop i = os → StOk s → den (opsQ fl P κ ι rec all k os s) = some d →
  ∃ s', StOk s' ∧ Later s s' ∧ s'.size = s.size ∧ s'.rd = s.rd ∧ den (k s') = some d ∧
   ∀ (ω : Nat → Value) (ρ : Option Nat) (Q : Exit → Act → World → Prop) (a : Act) (w : World) (Im : Nat → Prop) (θ : Th), Sim P ω ρ s a w Im θ → After P ω ρ s s' a w Im θ (Q .normal) → wpOpsIn (FR ρ) 0 P all.toArray Q (List.range' i os.length) a w
 | [], i, s, _, hs, h => ⟨s, hs, Later.refl s, rfl, rfl, h, fun ω ρ Q a w Im θ sim hA => hA a w Im θ sim (Ext.refl _) (New.refl rfl)⟩
 | o :: os, i, s, hall, hs, h => by
  simp only [opsQ] at h
  have ho : all[i]? = some o := by
   have := congrArg (·[0]?) hall
   simpa using this
  have hall' : all.drop (i + 1) = os := by
   have := congrArg List.tail hall
   simpa using this
  cases hd : dstOk s o.dst with
  | false => rw [hd] at h; exact (fl_no hfl h).elim
  | true =>
   rw [hd] at h
   simp only [cond_true] at h
   have hdN := dstOk_N hd
   obtain ⟨s1, go, hal, hw, h1⟩ := guard_run hfl hs.size h
   have hs1 := hal.ok hs
   have hd1 : dstN s1.size o.dst := by rw [hal.size]; exact hdN
   cases go with
   | true =>
    simp only [cond_true] at h1
    obtain ⟨s2, hs2, hl2, z2, r2, h2, hwp⟩ := step_run hfl hrec hκ hs1 hd1 h1
    obtain ⟨s3, hs3, hl3, z3, r3, h3, hwp3⟩ := opsQ_run os (i + 1) s2 hall' hs2 h2
    refine ⟨s3, hs3, (hal.later.trans hl2).trans hl3, by rw [z3, z2, hal.size], by rw [r3, r2, hal.rd], h3, fun ω ρ Q a w Im θ sim hA => ?_⟩
    simp only [List.length_cons, List.range'_succ, wpOpsIn, List.getElem?_toArray, ho]
    rw [wanted_eq sim.sf hw]
    simp only [if_true]
    have hA1 : After P ω ρ s1 s3 a w Im θ (Q .normal) := After.trans hal.later (by rw [hal.hp]; exact Ext.refl _) (New.refl rfl) hA
    refine hwp ω ρ _ Q a w Im θ (hal.sim sim) (fun a' w' Im' θ' sim' hE hN => ?_)
    exact hwp3 ω ρ Q a' w' Im' θ' sim' (After.trans hl2 hE hN hA1)
   | false =>
    simp only [cond_false] at h1
    obtain ⟨s3, hs3, hl3, z3, r3, h3, hwp3⟩ := opsQ_run os (i + 1) _ hall' (put_ok hs1 hd1 (.tup [])) h1
    refine ⟨s3, hs3, (hal.later.trans (put_later _ _ _)).trans hl3, by rw [z3, put_sz, hal.size], by rw [r3, put_rd, hal.rd], h3, fun ω ρ Q a w Im θ sim hA => ?_⟩
    simp only [List.length_cons, List.range'_succ, wpOpsIn, List.getElem?_toArray, ho]
    rw [wanted_eq sim.sf hw]
    simp only [Bool.false_eq_true, if_false]
    refine ⟨fun f _ => FR_fn ρ f, ?_⟩
    refine hwp3 ω ρ Q _ w Im θ (put_sim (hal.sim sim) hd1 (.tup rfl (fun i v u hv _ => by simp at hv))) ?_
    exact After.trans (hal.later.trans (put_later _ _ _)) (by rw [put_hp, hal.hp]; exact Ext.refl _) (New.refl (put_defers _ _ _)) hA
omit hrec hκ in
theorem opsR_run {all : List Oper} {k : St → List Foot → R} {d : D} : ∀ (os : List Oper) (i : Nat) (s : St) (acc : List Foot), StOk s → den (opsR fl P κ all k os i s acc) = some d →
  ∃ recs s', Txt P κ all s.size os s.tmp s.hp.get s.nx recs s'.tmp s'.hp.get s'.nx ∧ StOk s' ∧ s'.size = s.size ∧ s'.rd = s.rd ∧ Later s s' ∧ den (k s' (feet i recs acc)) = some d
 | [], i, s, acc, hs, h => ⟨[], s, .nil, hs, rfl, rfl, Later.refl s, h⟩
 | o :: os, i, s, acc, hs, h => by
  simp only [opsR] at h
  cases hd : dstOk s o.dst with
  | false => rw [hd] at h; exact (fl_no hfl h).elim
  | true =>
   rw [hd] at h
   simp only [cond_true] at h
   have hdN := dstOk_N hd
   obtain ⟨s1, go, hal, hw, h1⟩ := guard_run hfl hs.size h
   have hs1 := hal.ok hs
   have hd1 : dstN s1.size o.dst := by rw [hal.size]; exact hdN
   cases go with
   | true =>
    simp only [cond_true] at h1
    obtain ⟨r, ups, nx, rs', hm, h2⟩ := interp_run hfl _ _ h1
    cases hb : Nat.blt nx 1000000 with
    | false => rw [hb] at h2; exact (fl_no hfl h2).elim
    | true =>
     rw [hb] at h2
     simp only [cond_true, List.nil_append] at h2
     have hnx : nx < 1000000 := by rw [Nat.blt_eq] at hb; exact hb
     rw [evT_ev] at hm
     obtain ⟨hle, hkeys⟩ := opM_wf hm
     have hk : ∀ p ∈ ups, p.1 < nx := by
      intro p hp
      rcases hkeys p hp with h3 | h3
      · obtain ⟨c, hc⟩ := mrun_reads _ _ hm p.1 h3
        have := hs1.dom _ c hc; omega
      · exact h3.2
     have hk2 : ∀ p ∈ ups, p.1 < 1000000 := fun p hp => by have := hk p hp; omega
     have ou := upd_ok hs1 hle hnx hk
     have hhp : (s1.upd ups nx).hp.get = updF ups s1.hp.get := upsTr_get _ _ hk2
     obtain ⟨recs, s', ht, hs', g1, g2, g3, g6⟩ := opsR_run os (i + 1) _ _ (put_ok ou hd1 r) h2
     rw [put_sz, put_hp, put_nx, hhp, tmp_put (s := s1.upd ups nx) hd1 ou.size] at ht
     rw [hal.tmp, hal.hp, hal.nx] at hm
     have ht' : Txt P κ all s.size os (updT s.tmp o.dst r) (updF ups s.hp.get) nx recs s'.tmp s'.hp.get s'.nx := by
      rw [← hal.tmp, ← hal.hp, ← hal.size]; exact ht
     refine ⟨_ :: recs, s', .run hdN hw hm ht', hs', by rw [g1, put_sz]; exact hal.size, by rw [g2, put_rd]; exact hal.rd, ((hal.later.trans (upd_later hle hk2)).trans (put_later _ _ _)).trans g3, ?_⟩
     simpa [feet] using g6
   | false =>
    simp only [cond_false] at h1
    obtain ⟨recs, s', ht, hs', g1, g2, g3, g6⟩ := opsR_run os (i + 1) _ _ (put_ok hs1 hd1 (.tup [])) h1
    rw [put_sz, put_hp, put_nx, tmp_put hd1 hs1.size, hal.tmp, hal.hp, hal.nx, hal.size] at ht
    exact ⟨_ :: recs, s', .skip hdN hw ht, hs', by rw [g1, put_sz, hal.size], by rw [g2, put_rd, hal.rd], (hal.later.trans (put_later _ _ _)).trans g3, by simpa [feet] using g6⟩
omit hfl hrec hκ in
theorem cnt_le_n (D : Nat → Bool) : ∀ n, cnt D n ≤ n
 | 0 => Nat.le_refl _
 | n + 1 => by have := cnt_le_n D n; simp only [cnt]; split <;> omega
omit hfl hrec hκ in
theorem drew_same {Im : Nat → Prop} {w : World} : ∀ b, Im b → Im b ∧ ({ w with drawn := w.drawn + 1 } : World).heap[b]? = w.heap[b]? := fun _ hb => ⟨hb, rfl⟩
omit hfl hrec hκ in
theorem Ext.drew {new : Nat → Prop} {h : HpF} {w : World} {Im : Nat → Prop} {θ : Th} : Ext new h w Im θ h { w with drawn := w.drawn + 1 } Im θ where
 thOld _ _ := rfl
 thUp _ _ h := h
 imUp _ h := h
 size := Nat.le_refl _
 keep _ _ _ := rfl
 imNew _ h := .inl h
 ownNew x c _ N h1 h2 := .inl ⟨x, c, N, h1, h2⟩
 os := rfl
 output := rfl
 tape := rfl
omit hfl hrec hκ in
theorem SimF.drew {n : Nat} {T : Nat → SV} {h : HpF} {a : Act} {w : World} {Im : Nat → Prop} {θ : Th} (s : SimF P ω n T h a w Im θ) : SimF P ω n T h a { w with drawn := w.drawn + 1 } Im θ := by
 refine ⟨s.size, fun t ht => (s.tm t ht).mono drew_same (fun _ _ h => h), s.out, s.df.step (Ext.drew (new := fun _ => False)), ?_⟩
 exact ⟨fun x c hx => (s.hp.at_ x c hx).mono drew_same (fun _ _ h => h) rfl (fun _ _ _ => rfl), s.hp.inj, s.hp.own, s.hp.im, s.hp.gl.mono drew_same⟩
omit hfl hrec in
theorem txt_comes (hmix : P.follows .mixedOrders = true) {id : Nat} {ops : Array Oper} {draw : Bool} {s s' : St} {recs : List Rec} {T' : Nat → SV} (hs : StOk s) (hs' : StOk s') (hl : Later s s') (hz : s'.size = s.size) (hrd : s'.rd = s.rd)
  (ht : Txt P κ ops.toList s.size ops.toList s.tmp s.hp.get s.nx recs T' s'.hp.get s'.nx) (hT : ∀ t, s'.tmp t = .junk ∨ s'.tmp t = T' t)
  (hdr : draw = true → staticOk ops.toList (befAll ops.toList []) [] ops.toList 0 = true ∧ footsOk (befAll ops.toList []) (feet 0 recs []) = true) : Comes P (.region id ops draw) s .normal s' := by
 refine ⟨hl, hz, hrd, 0, fun ω ρ Q a w Im θ sim hA => ?_⟩
 have fin : ∀ (a' : Act) (w' : World) (Im' : Nat → Prop) (θ' : Th), SimF P ω s.size T' s'.hp.get a' w' Im' θ' → Fr s'.nx θ' s'.hp.get → a'.defers = a.defers → Ext (fun x => s.nx ≤ x) s.hp.get w Im θ s'.hp.get w' Im' θ' → Q .normal a' w' := by
  intro a' w' Im' θ' hS hF hdf hE
  refine hA a' w' Im' θ' ⟨hs', by rw [hz]; exact hS.weaken hT, hF, ?_⟩ hE (New.refl hdf)
  rw [hrd]
  rcases sim.rd with g | ⟨y, b, N, g1, g2, g3⟩
  · exact .inl g
  · exact .inr ⟨y, b, N, g1, hE.thUp _ _ g2, g3⟩
 show (Code.region id ops draw).wpIn (FR ρ) 0 P Q a w
 cases draw with
 | false =>
  refine wpIn_region ?_
  have hsnd := seq_sound (P := P) hκ (nx0 := s.nx) (ro := ρ) (Q := Q) (ds := a.defers) ht 0 a w Im θ (by simp) rfl sim.sf sim.fr (Nat.le_refl _) (w0 := w) (Im0 := Im) (θ0 := θ) (h0 := s.hp.get) (Ext.refl _) (fun a' w' Im' θ' hdf hS hF hn hE =>
   fin a' w' Im' θ' hS hF hdf hE)
  simpa [List.range_eq_range'] using hsnd
 | true =>
  obtain ⟨hst, hf⟩ := hdr rfl
  refine wpIn_region_any hmix ?_
  have hS := sim.sf.drew
  have hz' : ∀ j, 0 ≤ j → (fun _ : Nat => false) j = false := fun _ _ => rfl
  refine any_sound (P := P) (ω := ω) hκ (all := ops.toList) (nxs := s.nx) (ro := ρ) (ds := a.defers) ht hs.dom (Nat.le_refl _) (static_of hst) hf (Q := Q) (hs := s.hp.get) (ws := w) (Ims := Im) (θs := θ) ?_ ops.size (fun _ => false) (Array.replicate ops.size false) a { w with drawn := w.drawn + 1 } Im θ ?_ (by simp) ?_ (fun _ _ => rfl) (fun i hi => by cases hi) rfl ?_ ?_ ?_
  · intro a' w' Im' θ' hdf hS' hF hn hE'
    exact fin a' w' Im' θ' hS' hF hdf hE'
  · have := cnt_le_n (fun _ => false) ops.toList.length
    simpa using this
  · intro i hi
    simp at hi
    simp [hi]
  · rw [TD_none _ _ _ _ hz', HD_none _ _ _ _ hz']; exact hS
  · intro x hx
    left
    rw [HD_none _ _ _ _ hz'] at hx
    rcases Nat.lt_or_ge x s.nx with h1 | h1
    · exact h1
    · obtain ⟨f1, f2⟩ := sim.fr x h1
      rcases hx with hx | hx
      · exact absurd f1 hx
      · exact absurd f2 hx
  · rw [HD_none _ _ _ _ hz']; exact Ext.drew
theorem region_run (hmix : P.follows .mixedOrders = true) {id : Nat} {ops : Array Oper} {draw : Bool} {s : St} {k : St → R} {d : D} (hs : StOk s) (h : den (regionC fl P κ ι rec ops draw k s) = some d) :
  ∃ s', StOk s' ∧ Comes P (.region id ops draw) s .normal s' ∧ den (k s') = some d := by
 unfold regionC at h
 cases hsp : specRun P κ ops.toList draw s with
 | some s' =>
  simp only [hsp] at h
  obtain ⟨hst, recs, Ta, ht, hups, hs', g1, g2, g3, g4, g5, g6⟩ := specRun_run hs hsp
  have g7 : s'.rd = s.rd := specRun_rd hsp
  refine ⟨s', hs', txt_comes hκ hmix hs hs' (Later.of g4 g3 g2 g5) g1 g7 (by rw [g2, g3]; exact ht) g6 (fun hd => ⟨hst hd, footsOk_nil _ _ (feet_nil recs 0 [] hups (fun f h => by cases h))⟩), h⟩
 | none =>
  simp only [hsp] at h
  unfold regionB at h
  cases draw with
  | false =>
   simp only [cond_false] at h
   obtain ⟨s', hs', hl, hz, hr, h1, hwp⟩ := opsQ_run hfl hrec hκ ops.toList 0 s (by simp) hs h
   refine ⟨s', hs', ⟨hl, hz, hr, 0, fun ω ρ Q a w Im θ sim hA => ?_⟩, h1⟩
   show (Code.region id ops false).wpIn (FR ρ) 0 P Q a w
   refine wpIn_region ?_
   have := hwp ω ρ Q a w Im θ sim hA
   simpa [List.range_eq_range'] using this
  | true =>
   simp only [cond_true] at h
   cases hst : staticOk ops.toList (befAll ops.toList []) [] ops.toList 0 with
   | false => rw [hst] at h; exact (fl_no hfl h).elim
   | true =>
    rw [hst] at h
    simp only [cond_true] at h
    obtain ⟨recs, s', ht, hs', hz, hr, hl, h1⟩ := opsR_run hfl _ _ _ _ hs h
    cases hf : footsOk (befAll ops.toList []) (feet 0 recs []) with
    | false => rw [hf] at h1; exact (fl_no hfl h1).elim
    | true =>
     rw [hf] at h1
     simp only [cond_true] at h1
     exact ⟨s', hs', txt_comes hκ hmix hs hs' hl hz hr ht (fun t => .inr rfl) (fun _ => ⟨hst, hf⟩), h1⟩
end
end Go.Am
/- The abstract machine: a range over a function. -/
namespace Go.Am
variable {P : Program} {ω : Nat → Value}
theorem enter_range {ρ : Option Nat} {s : St} {a : Act} {w : World} {Im : Nat → Prop} {θ : Th} (sim : Sim P ω ρ s a w Im θ) (hrd : rdOk s = true) (hnx : s.nx + 1 < 1000000) (ps : Array Nat) (asg bdy : Code) (fn : FuncId) :
  ∃ (l : Nat) (mk : List Nat) (w1 : World) (θ1 : Th), (Instr.enterLoop fn a.tmps ps asg bdy ρ).run P w = .ok (l, mk.map mark) w1 ∧
   Sim P ω ρ (s.upd [(s.nx, some (.loopr .ready (listOfTr s s.size 0) ps asg bdy))] (s.nx + 1)) { a with defers := mk.map mark ++ a.defers } w1 Im θ1 ∧
   Ext (fun x => s.nx ≤ x) s.hp.get w Im θ (s.upd [(s.nx, some (.loopr .ready (listOfTr s s.size 0) ps asg bdy))] (s.nx + 1)).hp.get w1 Im θ1 ∧ θ1 s.nx = some (l, 0) ∧ ∀ r ∈ mk, w.heap.size ≤ r := by
 have hs := sim.ok
 have hk : ∀ p ∈ [(s.nx, some (Chunk.loopr .ready (listOfTr s s.size 0) ps asg bdy))], p.1 < s.nx + 1 := by
  intro p hp
  simp only [List.mem_singleton] at hp
  subst hp; exact Nat.lt_succ_self _
 have ou := upd_ok hs (Nat.le_succ _) hnx hk
 have hhp : (s.upd [(s.nx, some (.loopr .ready (listOfTr s s.size 0) ps asg bdy))] (s.nx + 1)).hp.get = updF [(s.nx, some (.loopr .ready (listOfTr s s.size 0) ps asg bdy))] s.hp.get :=
  upsTr_get _ _ (fun p hp => by have := hk p hp; omega)
 obtain ⟨f1, f2⟩ := sim.fr s.nx (Nat.le_refl _)
 -- what both ways have in common
 have core : ∀ (wA : World) (lp : Loop), Ext (fun _ => False) s.hp.get w Im θ s.hp.get wA Im θ → HRel P ω wA Im θ s.hp.get → lp.tmps = a.tmps → lp.params = ps → lp.assign = asg → lp.body = bdy → lp.state = .ready → lp.pending = none →
   ∃ θ1, Ext (fun x => s.nx ≤ x) s.hp.get w Im θ (s.upd [(s.nx, some (.loopr .ready (listOfTr s s.size 0) ps asg bdy))] (s.nx + 1)).hp.get (wA.alloc (.loop lp)) Im θ1 ∧
    HRel P ω (wA.alloc (.loop lp)) Im θ1 (s.upd [(s.nx, some (.loopr .ready (listOfTr s s.size 0) ps asg bdy))] (s.nx + 1)).hp.get ∧ θ1 s.nx = some (wA.heap.size, 0) ∧ (∀ x, x ≠ s.nx → θ1 x = θ x) ∧
    (∀ ds, Mk (wA.alloc (.loop lp)) Im θ1 (s.upd [(s.nx, some (.loopr .ready (listOfTr s s.size 0) ps asg bdy))] (s.nx + 1)).hp.get ds →
     Sim P ω ρ (s.upd [(s.nx, some (.loopr .ready (listOfTr s s.size 0) ps asg bdy))] (s.nx + 1)) { a with defers := ds } (wA.alloc (.loop lp)) Im θ1) := by
  intro wA lp hE hH h1 h2 h3 h4 h5 h6
  have hSA : SimF P ω s.size s.tmp s.hp.get a wA Im θ := sim.sf.step (dst := none) trivial hE (VRel'.junk (u := undef)) hH
  obtain ⟨θ1, g1, g2, g3⟩ := alloc_loop (st := .ready) hH f1 (lp := lp) (vs := listOfTr s s.size 0) (by rw [h1]; exact list_rel hSA) ⟨h5, h6⟩
  rw [h2, h3, h4, ← hhp] at g1 g2
  have hEE : Ext (fun x => s.nx ≤ x) s.hp.get w Im θ (s.upd [(s.nx, some (.loopr .ready (listOfTr s s.size 0) ps asg bdy))] (s.nx + 1)).hp.get (wA.alloc (.loop lp)) Im θ1 :=
   (hE.mono (fun _ h => h.elim)).trans (g1.mono (fun x hx => hx.1))
  refine ⟨θ1, hEE, g2, g3, fun x hx => g1.thOld x (fun hh => hx (by omega)), fun ds hds => ⟨ou, ⟨sim.sf.size, fun t ht => hEE.val sim.sf.hp (sim.sf.tm t ht), sim.sf.out, hds, g2⟩, ?_, ?_⟩⟩
  · rw [hhp]
    intro y hy
    have hy' : s.nx + 1 ≤ y := hy
    obtain ⟨k1, k2⟩ := sim.fr y (by omega)
    have hne : y ≠ s.nx := by omega
    refine ⟨by rw [g1.thOld y (fun hh => by omega)]; exact k1, by simp [updF, hne, k2]⟩
  · rcases sim.rd with h | ⟨y, b, N, k1, k2, k3⟩
    · exact .inl h
    · exact .inr ⟨y, b, N, k1, hEE.thUp _ _ k2, k3⟩
 rcases sim.rd with ⟨hr0, rfl⟩ | ⟨y, b, N, k1, k2, rfl⟩
 · -- the outermost
   obtain ⟨hE, hH⟩ := alloc_free sim.sf.hp (.deferred (some []))
   obtain ⟨θ1, g1, g2, g3, g4, g5⟩ := core _ { state := .ready, pending := none, fn := fn, tmps := a.tmps, params := ps, assign := asg, body := bdy, defers := w.heap.size } hE hH rfl rfl rfl rfl rfl rfl
   refine ⟨_, [w.heap.size], _, θ1, run_enterLoop_outer fn a.tmps ps asg bdy, g5 _ ?_, g1, by rw [g3]; simp, fun r hr => by simp at hr; omega⟩
   obtain ⟨rs, base, h1, hb, h2, h3⟩ := sim.sf.df.step g1
   refine ⟨w.heap.size :: rs, base, by simp [h1, mark], hb, List.nodup_cons.2 ⟨fun hh => ?_, h2⟩, fun r hr => ?_⟩
   · obtain ⟨rs', base', h1', hb', -, h3'⟩ := sim.sf.df
     have : mark w.heap.size ∈ a.defers := by rw [h1]; exact List.mem_append.2 (.inl (List.mem_map.2 ⟨_, hh, rfl⟩))
     rw [h1'] at this
     rcases List.mem_append.1 this with this | this
     case inr => exact (hb' _ this _ rfl).elim
     obtain ⟨q, hq, e⟩ := List.mem_map.1 this
     simp only [mark, Deferred.mk.injEq, Target.collected.injEq, and_true] at e
     have := heap_lt (h3' q hq).1
     omega
   · rcases List.mem_cons.1 hr with rfl | hr
     · refine ⟨?_, fun hi => ?_, fun x c M hx hθ => ?_⟩
       · rw [alloc_old _ _ _ (by simp), alloc_new]
       · have := sim.sf.hp.im _ hi; omega
       · by_cases hxn : x = s.nx
         · subst hxn
           rw [g3] at hθ
           simp only [Option.some.injEq, Prod.mk.injEq, World.size_alloc] at hθ
           omega
         · rw [g4 x hxn] at hθ
           rw [hhp] at hx
           simp only [updF, if_neg hxn] at hx
           have := (sim.sf.hp.own x c _ M hx hθ).2
           omega
     · exact h3 r hr
 · -- in a round
   have hl : ∃ lp : Loop, w.heap[b]? = some (.loop lp) := by
    unfold rdOk at hrd
    rw [k1] at hrd
    simp only [] at hrd
    split at hrd
    · rename_i hy
      obtain ⟨b', N', lp, j1, j2, -⟩ := sim.sf.hp.at_ y _ hy
      rw [k2] at j1
      simp only [Option.some.injEq, Prod.mk.injEq] at j1
      exact ⟨lp, by rw [j1.1]; exact j2⟩
    · cases hrd
   obtain ⟨lp, hlp⟩ := hl
   obtain ⟨θ1, g1, g2, g3, g4, g5⟩ := core w { state := .ready, pending := none, fn := fn, tmps := a.tmps, params := ps, assign := asg, body := bdy, defers := lp.defers } (Ext.refl _) sim.sf.hp rfl rfl rfl rfl rfl rfl
   exact ⟨_, [], _, θ1, run_enterLoop_inner hlp fn a.tmps ps asg bdy, g5 _ (sim.sf.df.step g1), g1, g3, fun r hr => by cases hr⟩
section
variable {R D : Type} {fl : R} {den : R → Option D} (hfl : den fl = none) {rec : Rcr R} (hrec : RcrOk P den rec) {κ : Nat → Option CSumm} {ι : Nat → Bool}
include hfl hrec
theorem range_run {g : Operand} {ps : Array Tmp} {asg bdy : Code} {s : St} {k : Ex → St → R} {d : D} (hs : StOk s) (h : den (execC fl P κ ι rec (.rangeFunc g ps asg bdy) s k) = some d) :
  ∃ e s2, StOk s2 ∧ Comes P (.rangeFunc g ps asg bdy) s e s2 ∧ den (k e s2) = some d := by
 simp only [execC] at h
 split at h
 case h_2 => exact (fl_no hfl h).elim
 rename_i f first caps hg
 cases hc : rdOk s && Nat.blt (s.nx + 1) 1000000 with
 | false => rw [hc] at h; exact (fl_no hfl h).elim
 | true =>
  rw [hc] at h
  simp only [cond_true] at h
  simp only [Bool.and_eq_true] at hc
  have hnx : s.nx + 1 < 1000000 := by have := hc.2; rwa [Nat.blt_eq] at this
  have hk : ∀ p ∈ [(s.nx, some (Chunk.loopr .ready (listOfTr s s.size 0) ps asg bdy))], p.1 < s.nx + 1 := by
   intro p hp
   simp only [List.mem_singleton] at hp
   subst hp; exact Nat.lt_succ_self _
  have ou := upd_ok hs (Nat.le_succ _) hnx hk
  have ol : Later s (s.upd [(s.nx, some (Chunk.loopr .ready (listOfTr s s.size 0) ps asg bdy))] (s.nx + 1)) := upd_later (Nat.le_succ _) (fun p hp => by have := hk p hp; omega)
  obtain ⟨r, s1, hs1, hl1, e1, e2, e3, h2, ⟨fnc, hfn, hn1, hn2⟩, hw⟩ := callIn_run hfl hrec ou h
  -- the end of it
  have fin : ∀ (st : LS) (e : Ex) (vs1 : List SV) (ps1 : Array Nat) (asg1 bdy1 : Code), s1.hp.get s.nx = some (.loopr st vs1 ps1 asg1 bdy1) → ((st = .ready ∧ e = .normal) ∨ st = .done e) →
    StOk (s1.upd [(s.nx, none)] s1.nx) ∧ Comes P (.rangeFunc g ps asg bdy) s e (s1.upd [(s.nx, none)] s1.nx) := by
   intro st e vs1 ps1 asg1 bdy1 hx1 hst
   obtain ⟨o2, l2, g2⟩ := turn_ok none hx1 hs1
   refine ⟨o2, (ol.trans hl1).trans l2, e2, e3, 0, fun ω ρ Q a w Im θ sim hA => ?_⟩
   show (Code.rangeFunc g ps asg bdy).wpIn (FR ρ) 0 P Q a w
   refine wpIn_rangeFunc (fun fn _ => ?_)
   obtain ⟨l, mk, w1, θ1, hen, sim0, hE0, hθ1, hmk⟩ := enter_range sim hc.1 hnx ps asg bdy fn
   have hf := sim.sf.eval g
   rw [← evT_ev, hg] at hf
   generalize hu : a.eval g = u at hf
   cases hf with
   | fn h1 h3 h4 h5 =>
    rename_i us vs
    have lift : ∀ {v : SV} {u : Value}, VRel P ω w Im θ v u → VRel P ω w1 Im θ1 v u := fun hv => hE0.val sim.sf.hp hv
    have hl : LRel P ω w1 Im θ1 (first ++ ([.yl s.nx] ++ caps)) (us.toList ++ ([.func (.yield l) #[] #[]] ++ vs.toList)) := by
     refine LRel.append ⟨by simpa using h1, fun i v u hv hu => lift (h4 i v u hv (by simpa using hu))⟩ (LRel.append ⟨rfl, fun i v u hv hu => ?_⟩ ⟨by simpa using h3, fun i v u hv hu => lift (h5 i v u hv (by simpa using hu))⟩)
     match i, hv, hu with
     | 0, hv, hu => cases hv; cases hu; exact .yl hθ1
    have ee : (us.toList ++ ([Value.func (.yield l) #[] #[]] ++ vs.toList)).toArray = us ++ #[Value.func (.yield l) #[] #[]] ++ vs := by
     apply Array.ext'
     simp
    have hn1' : ¬ fnc.name = "runtime.NumGoroutine" := by simpa using hn1
    have hn2' : ¬ fnc.body = none := by intro hh; simp [hh] at hn2
    refine ⟨l, mk.map mark, w1, { target := .fn (.func f) vs, args := us ++ #[.func (.yield l) #[] #[]] }, w1, f, (us.toList ++ ([Value.func (.yield l) #[] #[]] ++ vs.toList)).toArray, w1, hen, ?_, fun f' _ => FR_fn ρ f', ?_, FR_depth1 ρ, ?_⟩
    · have hcst : a.eval (.const (.func (.yield l) #[] #[])) = .func (.yield l) #[] #[] := rfl
      simp [resolve, hu, Deferred.ofValue, hcst]
    · rw [ee]
      simp [invoke, callFunc, hfn, hn1', hn2']
    · refine hw _ ρ { a with defers := mk.map mark ++ a.defers } w1 Im θ1 _ _ sim0 hl (fun v w' Im' θ' sim' hE hv => ?_)
      have hθ' : θ' s.nx = some (l, 0) := hE.thUp _ _ hθ1
      obtain ⟨b', N', lp', j1, j2, -, -, -, j3, -⟩ := sim'.sf.hp.at_ _ _ hx1
      rw [hθ'] at j1
      simp only [Option.some.injEq, Prod.mk.injEq] at j1
      obtain ⟨rfl, rfl⟩ := j1
      have hnb : lp'.state ≠ .busy := by
       rcases hst with ⟨rfl, -⟩ | rfl
       · rw [j3.1]; simp
       · rw [j3.1]; simp
      obtain ⟨hEd, hHd⟩ := put_block sim'.sf.hp hx1 hθ' (.loop { lp' with state := .exhausted }) none (fun _ d hd => by cases hd)
      obtain ⟨sim2, hE2⟩ := sim'.turn hx1 hEd hHd
      have hEall : Ext (fun x => s.nx ≤ x) s.hp.get w Im θ (s1.upd [(s.nx, none)] s1.nx).hp.get (w'.putObj l (.loop { lp' with state := .exhausted })) Im' θ' :=
       (hE0.trans (hE.mono (fun x hx => Nat.le_trans ol.nx hx))).trans (hE2.mono (fun x hx => Nat.le_trans (ol.trans hl1).nx hx))
      have hQ : Q (exitOf e) { a with defers := mk.map mark ++ a.defers } (w'.putObj l (.loop { lp' with state := .exhausted })) := hA _ _ Im' θ' sim2 hEall ⟨mk, rfl, hmk⟩
      refine ⟨lp'.pending, _, run_endLoop j2 hnb, ?_⟩
      rcases hst with ⟨rfl, rfl⟩ | rfl
      · rw [j3.2] at hQ ⊢; exact hQ
      · rw [j3.2.1] at hQ ⊢
        cases e with
        | normal => exact absurd j3.2.1 j3.2.2
        | ret => exact wpIn_ret hQ
        | exit id => exact wpIn_exit hQ
  split at h2
  · rename_i vs1 ps1 asg1 bdy1 hx1
    obtain ⟨o2, hcm⟩ := fin .ready .normal _ _ _ _ hx1 (.inl ⟨rfl, rfl⟩)
    exact ⟨.normal, _, o2, hcm, h2⟩
  · rename_i e vs1 ps1 asg1 bdy1 hx1
    obtain ⟨o2, hcm⟩ := fin (.done e) e _ _ _ _ hx1 (.inr rfl)
    exact ⟨e, _, o2, hcm, h2⟩
  · exact (fl_no hfl h2).elim
end
end Go.Am
/- The abstract machine: scopes that nothing jumps out of. -/
namespace Go
variable {F : Fence} {n : Nat} {P : Program} {Q : Exit → Act → World → Prop} {a : Act} {w : World}
theorem stepR_scopeA {b : Frame} {k : List Item} {cs : List Frame} {c : Code} : step P (lone (b.atR a (.code (.scope c) :: k)) cs w) = .next (lone (b.atR a (.code c :: .inScope c :: k)) cs w) := step_lone_go (by simp [stepG, stepG.exec, Frame.atR])
theorem stepR_inScopeA {b : Frame} {k : List Item} {cs : List Frame} {c : Code} : step P (lone (b.atR a (.inScope c :: k)) cs w) = .next (lone (b.atR a k) cs w) := step_lone_go (by simp [stepG, stepG.exec, Frame.atR])
theorem wpIn_scope_straight {c : Code} (h : c.wpIn F n P (Exit.noGoto Q) a w) : (Code.scope c).wpIn F n P Q a w := by
 intro b k cs hro hb hr
 have h0 : (lone (b.atR a (.code (.scope c) :: k)) cs w).fenced P F := fenced_calm hb hr rfl
 obtain ⟨e, a₁, w₁, hq, harr⟩ := h b (.inScope c :: k) cs hro hb hr
 cases e with
 | normal => exact ⟨.normal, a₁, w₁, hq, .head h0 stepR_scopeA (StepsIn.trans harr (.one (fenced_calm hb hr rfl) stepR_inScopeA))⟩
 | exit id =>
  have hx : exitTo id (.inScope c :: k) = exitTo id k := by simp [exitTo]
  exact ⟨.exit id, a₁, w₁, hq, fun k' hk => .head h0 stepR_scopeA (harr.1 k' (by rw [hx]; exact hk)), fun hr' hk => let ⟨k₁, h1, h2⟩ := harr.2 hr' (by rw [hx]; exact hk); ⟨k₁, h1, .head h0 stepR_scopeA h2⟩⟩
 | goto l => exact hq.elim
 | ret => exact ⟨_, a₁, w₁, hq, .of_steps (.one h0 stepR_scopeA) harr⟩
 | panic ch => exact ⟨_, a₁, w₁, hq, .of_steps (.one h0 stepR_scopeA) harr⟩
 | outgrown => exact ⟨_, a₁, w₁, hq, .of_steps (.one h0 stepR_scopeA) harr⟩
end Go
/- The abstract machine: code. -/
namespace Go.Am
variable {P : Program} {ω : Nat → Value}
theorem comes_self {c : Code} {s : St} {e : Ex} (h : ∀ (ρ : Option Nat) (Q : Exit → Act → World → Prop) (a : Act) (w : World), Q (exitOf e) a w → W P ρ 0 c Q a w) : Comes P c s e s :=
 ⟨Later.refl s, rfl, rfl, 0, fun _ ρ Q a w Im θ sim hA => h ρ Q a w (hA a w Im θ sim (Ext.refl _) (New.refl rfl))⟩
section
variable {R D : Type} {fl : R} {den : R → Option D} (hfl : den fl = none) {rec : Rcr R} (hrec : RcrOk P den rec) {κ : Nat → Option CSumm} {ι : Nat → Bool} (hκ : KOk P κ)
include hfl hrec hκ
theorem execC_ok (hmix : P.follows .mixedOrders = true) : RcrOk P den (execC fl P κ ι rec) := by
 intro c
 induction c with
 | skip => intro s k d hs h; exact ⟨.normal, s, hs, comes_self (fun ρ Q a w hq => wpIn_skip hq), h⟩
 | region id ops draw =>
  intro s k d hs h
  obtain ⟨s', hs', hc, h1⟩ := region_run hfl hrec hκ (id := id) hmix hs h
  exact ⟨.normal, s', hs', hc, h1⟩
 | seq x y ihx ihy =>
  intro s k d hs h
  simp only [execC] at h
  obtain ⟨e, s1, hs1, hc1, h1⟩ := ihx s _ d hs h
  cases e with
  | normal =>
   simp only [] at h1
   obtain ⟨e2, s2, hs2, hc2, h2⟩ := ihy s1 k d hs1 h1
   refine ⟨e2, s2, hs2, ⟨hc1.later.trans hc2.later, by rw [hc2.size, hc1.size], by rw [hc2.rd, hc1.rd], 0, fun ω ρ Q a w Im θ sim hA => ?_⟩, h2⟩
   refine wpIn_seq (hc1.wp ρ _ a w Im θ sim (fun a' w' Im' θ' sim' hE hN => ?_))
   exact hc2.wp ρ Q a' w' Im' θ' sim' (After.trans hc1.later hE hN hA)
  | exit id =>
   exact ⟨.exit id, s1, hs1, ⟨hc1.later, hc1.size, hc1.rd, 0, fun ω ρ Q a w Im θ sim hA => wpIn_seq (hc1.wp ρ _ a w Im θ sim (fun a' w' Im' θ' sim' hE hN => hA a' w' Im' θ' sim' hE hN))⟩, h1⟩
  | ret =>
   exact ⟨.ret, s1, hs1, ⟨hc1.later, hc1.size, hc1.rd, 0, fun ω ρ Q a w Im θ sim hA => wpIn_seq (hc1.wp ρ _ a w Im θ sim (fun a' w' Im' θ' sim' hE hN => hA a' w' Im' θ' sim' hE hN))⟩, h1⟩
 | cond c x y ihx ihy =>
  intro s k d hs h
  simp only [execC] at h
  split at h
  · rename_i b hb
    have hev : ∀ {ω : Nat → Value} {ρ : Option Nat} {a : Act} {w : World} {Im : Nat → Prop} {θ : Th}, Sim P ω ρ s a w Im θ → a.eval c = .bool b := by
     intro ω ρ a w Im θ sim
     have := sim.sf.eval c
     rw [← evT_ev, hb] at this
     generalize a.eval c = u at this
     cases this
     rfl
    cases b with
    | true =>
     obtain ⟨e, s1, hs1, hc1, h1⟩ := ihx s k d hs h
     exact ⟨e, s1, hs1, ⟨hc1.later, hc1.size, hc1.rd, 0, fun ω ρ Q a w Im θ sim hA => wpIn_cond_true (hev sim) (hc1.wp ρ Q a w Im θ sim hA)⟩, h1⟩
    | false =>
     obtain ⟨e, s1, hs1, hc1, h1⟩ := ihy s k d hs h
     exact ⟨e, s1, hs1, ⟨hc1.later, hc1.size, hc1.rd, 0, fun ω ρ Q a w Im θ sim hA => wpIn_cond_false (hev sim) (hc1.wp ρ Q a w Im θ sim hA)⟩, h1⟩
  · exact (fl_no hfl h).elim
 | block id c ih =>
  intro s k d hs h
  simp only [execC] at h
  obtain ⟨e, s1, hs1, hc1, h1⟩ := ih s _ d hs h
  cases e with
  | normal => exact ⟨.normal, s1, hs1, ⟨hc1.later, hc1.size, hc1.rd, 0, fun ω ρ Q a w Im θ sim hA => wpIn_block (hc1.wp ρ _ a w Im θ sim hA)⟩, h1⟩
  | ret => exact ⟨.ret, s1, hs1, ⟨hc1.later, hc1.size, hc1.rd, 0, fun ω ρ Q a w Im θ sim hA => wpIn_block (hc1.wp ρ _ a w Im θ sim hA)⟩, h1⟩
  | exit j =>
   simp only [] at h1
   cases hj : Nat.beq j id with
   | true =>
    rw [hj] at h1
    have hji : j = id := Nat.eq_of_beq_eq_true hj
    subst hji
    refine ⟨.normal, s1, hs1, ⟨hc1.later, hc1.size, hc1.rd, 0, fun ω ρ Q a w Im θ sim hA => wpIn_block (hc1.wp ρ _ a w Im θ sim (fun a' w' Im' θ' sim' hE hN => ?_))⟩, h1⟩
    simp only [exitOf, Exit.inBlock, if_true]
    exact hA a' w' Im' θ' sim' hE hN
   | false =>
    rw [hj] at h1
    have hji : ¬ j = id := fun e => by rw [nb_t e] at hj; cases hj
    refine ⟨.exit j, s1, hs1, ⟨hc1.later, hc1.size, hc1.rd, 0, fun ω ρ Q a w Im θ sim hA => wpIn_block (hc1.wp ρ _ a w Im θ sim (fun a' w' Im' θ' sim' hE hN => ?_))⟩, h1⟩
    simp only [exitOf, Exit.inBlock, if_neg hji]
    exact hA a' w' Im' θ' sim' hE hN
 | loop c ih =>
  intro s k d hs h
  simp only [execC] at h
  obtain ⟨e, s1, hs1, hc1, h1⟩ := ih s _ d hs h
  cases e with
  | normal =>
   simp only [] at h1
   obtain ⟨e2, s2, hs2, hc2, h2⟩ := hrec (.loop c) s1 k d hs1 h1
   obtain ⟨m, hm⟩ := hc2.wps
   refine ⟨e2, s2, hs2, ⟨hc1.later.trans hc2.later, by rw [hc2.size, hc1.size], by rw [hc2.rd, hc1.rd], m + 1, fun ω ρ Q a w Im θ sim hA => ?_⟩, h2⟩
   show Code.roundsIn (FR ρ) 0 P c Q (m + 1) a w
   rw [roundsIn_succ]
   refine hc1.wp ρ _ a w Im θ sim (fun a' w' Im' θ' sim' hE hN => ?_)
   exact hm ω ρ Q a' w' Im' θ' sim' (After.trans hc1.later hE hN hA)
  | exit id =>
   refine ⟨.exit id, s1, hs1, ⟨hc1.later, hc1.size, hc1.rd, 1, fun ω ρ Q a w Im θ sim hA => ?_⟩, h1⟩
   show Code.roundsIn (FR ρ) 0 P c Q 1 a w
   rw [roundsIn_succ]
   exact hc1.wp ρ _ a w Im θ sim (fun a' w' Im' θ' sim' hE hN => hA a' w' Im' θ' sim' hE hN)
  | ret =>
   refine ⟨.ret, s1, hs1, ⟨hc1.later, hc1.size, hc1.rd, 1, fun ω ρ Q a w Im θ sim hA => ?_⟩, h1⟩
   show Code.roundsIn (FR ρ) 0 P c Q 1 a w
   rw [roundsIn_succ]
   exact hc1.wp ρ _ a w Im θ sim (fun a' w' Im' θ' sim' hE hN => hA a' w' Im' θ' sim' hE hN)
 | exit id => intro s k d hs h; exact ⟨.exit id, s, hs, comes_self (fun ρ Q a w hq => wpIn_exit hq), h⟩
 | label l => intro s k d hs h; exact ⟨.normal, s, hs, comes_self (fun ρ Q a w hq => wpIn_label hq), h⟩
 | ret => intro s k d hs h; exact ⟨.ret, s, hs, comes_self (fun ρ Q a w hq => wpIn_ret hq), h⟩
 | rangeFunc f ps x y _ _ => intro s k d hs h; exact range_run hfl hrec hs h
 | scope c ih =>
  intro s k d hs h
  simp only [execC] at h
  obtain ⟨e, s1, hs1, hc1, h1⟩ := ih s k d hs h
  exact ⟨e, s1, hs1, ⟨hc1.later, hc1.size, hc1.rd, 0, fun ω ρ Q a w Im θ sim hA => wpIn_scope_straight (hc1.wp ρ _ a w Im θ sim (fun a' w' Im' θ' sim' hE hN => by
   cases e <;> exact hA a' w' Im' θ' sim' hE hN))⟩, h1⟩
 | goto l => intro s k d hs h; exact (fl_no hfl h).elim
 | refuse w => intro s k d hs h; exact (fl_no hfl h).elim
end
theorem exec_ok {R D : Type} {fl : R} {den : R → Option D} (hfl : den fl = none) {κ : Nat → Option CSumm} {ι : Nat → Bool} (hκ : KOk P κ) (hmix : P.follows .mixedOrders = true) : ∀ n, RcrOk P den (exec fl P κ ι n)
 | 0 => fun _ _ _ _ _ h => (fl_no hfl h).elim
 | n + 1 => execC_ok hfl (exec_ok hfl hκ hmix n) hκ hmix
end Go.Am
/- The abstract machine: a function's body tells of its calls. -/
namespace Go.Am
variable {P : Program} {ω : Nat → Value}
theorem reachNew_spec {h : Tr Chunk} {m : Nat} : ∀ (d : Nat) (todo acc ns : List Nat), reachNew h m d todo acc = some ns → acc.Nodup → (∀ x ∈ acc, m ≤ x ∧ ∃ c, h.get x = some c) →
  (∀ x ∈ acc, ∀ c, h.get x = some c → ∀ z ∈ namesC c, z < m ∨ z ∈ acc ∨ z ∈ todo) →
  ns.Nodup ∧ (∀ x ∈ ns, m ≤ x ∧ ∃ c, h.get x = some c) ∧ (∀ x ∈ ns, ∀ c, h.get x = some c → ∀ z ∈ namesC c, z < m ∨ z ∈ ns) ∧ (∀ z ∈ todo, z < m ∨ z ∈ ns) ∧ (∀ z ∈ acc, z ∈ ns)
 | 0, _, _, _, h, _, _, _ => by simp [reachNew] at h
 | d + 1, [], acc, ns, h, h1, h2, h3 => by
  simp only [reachNew, Option.some.injEq] at h
  subst h
  refine ⟨h1, h2, fun x hx c hc z hz => ?_, (fun z hz => by cases hz), fun z hz => hz⟩
  rcases h3 x hx c hc z hz with h4 | h4 | h4
  · exact .inl h4
  · exact .inr h4
  · cases h4
 | d + 1, x :: todo, acc, ns, hh, h1, h2, h3 => by
  simp only [reachNew] at hh
  cases hb : Nat.blt x m || memN x acc with
  | true =>
   rw [hb] at hh
   simp only [cond_true] at hh
   have hx : x < m ∨ x ∈ acc := by
    simp only [Bool.or_eq_true] at hb
    rcases hb with hb | hb
    · left; rwa [Nat.blt_eq] at hb
    · right; exact (memN_iff _ _).1 hb
   obtain ⟨g1, g2, g3, g4, g5⟩ := reachNew_spec d todo acc ns hh h1 h2 (fun y hy c hc z hz => by
    rcases h3 y hy c hc z hz with h4 | h4 | h4
    · exact .inl h4
    · exact .inr (.inl h4)
    · rcases List.mem_cons.1 h4 with rfl | h4
      · rcases hx with hx | hx
        · exact .inl hx
        · exact .inr (.inl hx)
      · exact .inr (.inr h4))
   refine ⟨g1, g2, g3, fun z hz => ?_, g5⟩
   rcases List.mem_cons.1 hz with rfl | hz
   · rcases hx with hx | hx
     · exact .inl hx
     · exact .inr (g5 _ hx)
   · exact g4 z hz
  | false =>
   rw [hb] at hh
   simp only [cond_false] at hh
   simp only [Bool.or_eq_false_iff] at hb
   have hxm : m ≤ x := by
    rcases Nat.lt_or_ge x m with h4 | h4
    · rw [← Nat.blt_eq] at h4; rw [h4] at hb; exact absurd hb.1 (by simp)
    · exact h4
   have hxa : x ∉ acc := fun h4 => by rw [(memN_iff _ _).2 h4] at hb; exact absurd hb.2 (by simp)
   cases hx : h.get x with
   | none => simp [hx] at hh
   | some c =>
    simp only [hx] at hh
    obtain ⟨g1, g2, g3, g4, g5⟩ := reachNew_spec d (namesC c ++ todo) (acc ++ [x]) ns hh
     (by rw [List.nodup_append]; exact ⟨h1, by simp, fun a ha b hb => by simp at hb; subst hb; intro e; subst e; exact hxa ha⟩)
     (fun y hy => by
      rcases List.mem_append.1 hy with hy | hy
      · exact h2 y hy
      · simp at hy; subst hy; exact ⟨hxm, c, hx⟩)
     (fun y hy c' hc' z hz => by
      rcases List.mem_append.1 hy with hy | hy
      · rcases h3 y hy c' hc' z hz with h4 | h4 | h4
        · exact .inl h4
        · exact .inr (.inl (by simp [h4]))
        · rcases List.mem_cons.1 h4 with rfl | h4
          · exact .inr (.inl (by simp))
          · exact .inr (.inr (by simp [h4]))
      · simp at hy; subst hy
        rw [hx] at hc'
        cases hc'
        exact .inr (.inr (by simp [hz])))
    refine ⟨g1, g2, g3, fun z hz => ?_, fun z hz => g5 z (by simp [hz])⟩
    rcases List.mem_cons.1 hz with rfl | hz
    · exact .inr (g5 _ (by simp))
    · exact g4 z (by simp [hz])
theorem dirtyNames_mem {h : Tr Chunk} : ∀ {l : List Nat} {x : Nat} {c : Chunk}, x ∈ l → h.get x = some c → ∀ z ∈ namesC c, z ∈ dirtyNames h l
 | [], _, _, hx, _, _, _ => by cases hx
 | y :: l, x, c, hx, hc, z, hz => by
  simp only [dirtyNames]
  rcases List.mem_cons.1 hx with rfl | hx
  · rw [hc]; simp [hz]
  · have := dirtyNames_mem hx hc z hz
    cases h.get y with
    | none => exact this
    | some d => simp [this]
theorem outOld_keys (h : Tr Chunk) (f : Nat → Nat) : ∀ (l : List Nat), (outOld h f l).map (·.1) = l
 | [] => rfl
 | x :: l => by simp [outOld, outOld_keys h f l]
theorem outNew_keys (h : Tr Chunk) (f : Nat → Nat) : ∀ (l : List Nat), (∀ x ∈ l, ∃ c, h.get x = some c) → (outNew h f l).map (·.1) = l.map f
 | [], _ => rfl
 | x :: l, hl => by
  obtain ⟨c, hc⟩ := hl x (by simp)
  simp [outNew, hc, outNew_keys h f l (fun y hy => hl y (by simp [hy]))]
theorem updF_append (a b : List (Nat × Option Chunk)) (h : HpF) : updF (a ++ b) h = updF b (updF a h) := by
 induction a generalizing h with
 | nil => rfl
 | cons p a ih => obtain ⟨x, c⟩ := p; simp only [List.cons_append, updF]; exact ih _
theorem updF_outOld {h : Tr Chunk} {f : Nat → Nat} : ∀ {l : List Nat} {h0 : HpF} {y : Nat}, y ∈ l → updF (outOld h f l) h0 y = (h.get y).map (renC f)
 | [], _, _, hy => by cases hy
 | x :: l, h0, y, hy => by
  simp only [outOld, updF]
  by_cases hyl : y ∈ l
  · exact updF_outOld hyl
  · have : y = x := by rcases List.mem_cons.1 hy with h1 | h1; exact h1; exact absurd h1 hyl
    subst this
    rw [updF_not (by rw [outOld_keys]; exact hyl)]
    simp only [if_true]
    cases h.get y <;> rfl
theorem updF_outNew {h : Tr Chunk} {f : Nat → Nat}   : ∀ {l : List Nat} {h0 : HpF} {x : Nat}, (∀ z ∈ l, ∃ c, h.get z = some c) → (∀ a ∈ l, ∀ b ∈ l, f a = f b → a = b) → x ∈ l → updF (outNew h f l) h0 (f x) = (h.get x).map (renC f)
 | [], _, _, _, _, hx => by cases hx
 | z :: l, h0, x, hl, hi, hx => by
  obtain ⟨c, hc⟩ := hl z (by simp)
  simp only [outNew, hc, updF]
  by_cases hxl : x ∈ l
  · exact updF_outNew (fun y hy => hl y (by simp [hy])) (fun a ha b hb => hi a (by simp [ha]) b (by simp [hb])) hxl
  · have : x = z := by rcases List.mem_cons.1 hx with h1 | h1; exact h1; exact absurd h1 hxl
    subst this
    rw [updF_not]
    · simp [hc]
    · rw [outNew_keys _ _ _ (fun y hy => hl y (by simp [hy]))]
      intro hm
      obtain ⟨b, hb, e⟩ := List.mem_map.1 hm
      have := hi b (by simp [hb]) x (by simp) e
      subst this
      exact hxl hb
theorem canonB_spec : ∀ (H : HpL) (i : Nat), canonB H i = true → ∀ (j : Nat) p, H[j]? = some p → p.1 = i + j
 | [], _, _, _, _, h => by simp at h
 | (x, c) :: l, i, hc, j, p, h => by
  simp only [canonB, Bool.and_eq_true] at hc
  cases j with
  | zero => simp at h; subst h; simpa using Nat.eq_of_beq_eq_true hc.1
  | succ j =>
   have := canonB_spec l (i + 1) hc.2 j p (by simpa using h)
   omega
theorem HpL_get_some : ∀ (H : HpL) (x : Nat) (c : Chunk), H.get x = some c → (x, c) ∈ H
 | [], _, _, h => by cases h
 | (y, d) :: l, x, c, h => by
  simp only [HpL.get] at h
  cases hb : Nat.beq y x with
  | true => rw [hb] at h; simp at h; subst h; rw [Nat.eq_of_beq_eq_true hb]; simp
  | false => rw [hb] at h; have := HpL_get_some l x c h; simp [this]
theorem canon_lt {H : HpL} (hc : canonB H 0 = true) {x : Nat} {c : Chunk} (h : H.get x = some c) : x < H.length := by
 have hm := HpL_get_some H x c h
 obtain ⟨j, hj, e⟩ := List.getElem_of_mem hm
 have := canonB_spec H 0 hc j _ (by rw [List.getElem?_eq_getElem hj, e])
 simp at this
 omega
theorem closedB_spec {m : Nat} : ∀ (H : HpL), closedB m H = true → ∀ p ∈ H, ∀ z ∈ namesC p.2, z < m
 | [], _, _, h => by cases h
 | (y, d) :: l, h, p, hp => by
  simp only [closedB, Bool.and_eq_true] at h
  rcases List.mem_cons.1 hp with rfl | hp
  · exact lowB_spec _ h.1
  · exact closedB_spec l h.2 p hp
theorem heapTr_get : ∀ (H : HpL) (i : Nat) (t : Tr Chunk) (y : Nat), canonB H i = true → i + H.length ≤ 1000000 → (heapTr H t).get y = if i ≤ y ∧ y < i + H.length then (H[y - i]?).map (·.2) else t.get y
 | [], i, t, y, _, _ => by
  simp only [heapTr, List.length_nil, Nat.add_zero]
  rw [if_neg (by omega)]
 | (x, c) :: l, i, t, y, hc, h => by
  simp only [canonB, Bool.and_eq_true] at hc
  have hx : x = i := Nat.eq_of_beq_eq_true hc.1
  subst hx
  simp only [heapTr, List.length_cons] at h ⊢
  rw [heapTr_get l (x + 1) _ y hc.2 (by omega), Tr.get_set 20 t x (some c) y (by omega)]
  by_cases hj : y = x
  · subst hj
    rw [if_neg (by omega), if_pos rfl, if_pos (by omega)]
    simp
  · by_cases h2 : x + 1 ≤ y ∧ y < x + 1 + l.length
    · rw [if_pos h2, if_pos (by omega)]
      have : y - x = (y - (x + 1)) + 1 := by omega
      rw [this]; simp
    · rw [if_neg h2, if_neg hj, if_neg (by omega)]
theorem HpL_get_canon : ∀ (H : HpL) (i y : Nat), canonB H i = true → H.get y = if i ≤ y ∧ y < i + H.length then (H[y - i]?).map (·.2) else none
 | [], i, y, _ => by
  simp only [HpL.get, List.length_nil, Nat.add_zero]
  rw [if_neg (by omega)]
 | (x, c) :: l, i, y, hc => by
  simp only [canonB, Bool.and_eq_true] at hc
  have hx : x = i := Nat.eq_of_beq_eq_true hc.1
  subst hx
  simp only [HpL.get, List.length_cons]
  by_cases hj : x = y
  · subst hj
    rw [nb_t rfl, if_pos (by omega)]
    simp
  · rw [nb_f hj]
    simp only [cond_false]
    rw [HpL_get_canon l (x + 1) y hc.2]
    by_cases h2 : x + 1 ≤ y ∧ y < x + 1 + l.length
    · rw [if_pos h2, if_pos (by omega)]
      have : y - x = (y - (x + 1)) + 1 := by omega
      rw [this]; simp
    · rw [if_neg h2, if_neg (by omega)]
theorem heapTr_init {H : HpL} (hc : canonB H 0 = true) (h : H.length ≤ 1000000) : (heapTr H .lf).get = H.get := by
 funext y
 rw [heapTr_get H 0 .lf y hc (by omega), HpL_get_canon H 0 y hc]
 rfl
mutual
theorem renS_fix (f : Nat → Nat) : ∀ (v : SV), (∀ x ∈ namesS v, f x = x) → renS f v = v
 | .ptr x o, h => by simp only [renS]; rw [h x (by simp [namesS])]
 | .sl x sz o l, h => by simp only [renS]; rw [h x (by simp [namesS])]
 | .qs x sz o l, h => by simp only [renS]; rw [h x (by simp [namesS])]
 | .qp x sz o l, h => by simp only [renS]; rw [h x (by simp [namesS])]
 | .qo x sz o, h => by simp only [renS]; rw [h x (by simp [namesS])]
 | .qop x sz o l, h => by simp only [renS]; rw [h x (by simp [namesS])]
 | .mp x, h => by simp only [renS]; rw [h x (by simp [namesS])]
 | .yl x, h => by simp only [renS]; rw [h x (by simp [namesS])]
 | .fn k a b, h => by
  simp only [namesS, List.mem_append] at h
  simp only [renS]
  rw [renL_fix f a (fun x hx => h x (.inl hx)), renL_fix f b (fun x hx => h x (.inr hx))]
 | .iface t v, h => by simp only [renS]; rw [renS_fix f v (by simpa [namesS] using h)]
 | .agg cs, h => by simp only [renS]; rw [renL_fix f cs (by simpa [namesS] using h)]
 | .tup cs, h => by simp only [renS]; rw [renL_fix f cs (by simpa [namesS] using h)]
 | .junk, _ | .pnn _ _, _ | .opq _, _ | .emp, _ | .bool _, _ | .int _ _, _ | .str _, _ | .nilp, _ | .pel _ _, _ | .nils, _ | .psl _ _, _ | .nilm, _ | .nilf, _ | .nili, _ | .gp _ _, _ => rfl
theorem renL_fix (f : Nat → Nat) : ∀ (vs : List SV), (∀ x ∈ namesL vs, f x = x) → renL f vs = vs
 | [], _ => rfl
 | v :: vs, h => by
  simp only [namesL, List.mem_append] at h
  simp only [renL]
  rw [renS_fix f v (fun x hx => h x (.inl hx)), renL_fix f vs (fun x hx => h x (.inr hx))]
end
theorem renC_fix (f : Nat → Nat) (c : Chunk) (h : ∀ x ∈ namesC c, f x = x) : renC f c = c := by
 cases c with
 | cells T vs => simp only [renC]; rw [renL_fix f vs h]
 | seq e es => rfl
 | loopr st vs ps asg bdy => simp only [renC]; rw [renL_fix f vs h]
 | mpc ks vs => simp only [renC]; rw [renL_fix f ks (fun x hx => h x (List.mem_append.2 (.inl hx))), renL_fix f vs (fun x hx => h x (List.mem_append.2 (.inr hx)))]
 | mpb kd kvs => rfl
 | mpn bs cl ks vs => simp only [renC]; rw [renL_fix f ks (fun x hx => h x (List.mem_append.2 (.inl hx))), renL_fix f vs (fun x hx => h x (List.mem_append.2 (.inr hx)))]
 | mit z since seen last => simp only [renC]; rw [h z (by simp [namesC])]
 | sqo e es => rfl
 | sqp e es => simp only [renC]; rw [renL_fix f es h]
theorem finish_gen {H : HpL} (c1 : canonB H 0 = true) (c2 : closedB H.length H = true) {θ : Th} {Im : Nat → Prop} {w : World} (hfr : ∀ x, H.length ≤ x → θ x = none) {s2 : St} (hm2 : s2.m = H.length) (hsame : ∀ x, x < H.length → s2.hp.get x = H.get x ∨ x ∈ s2.dirty)
  (hdl : ∀ x ∈ s2.dirty, x < H.length) {vv : SV} {ns : List Nat} (hre : reachNew s2.hp s2.m 2000 (namesS vv ++ dirtyNames s2.hp s2.dirty) [] = some ns) {w' : World} {Im' : Nat → Prop} {θ' : Th} (hH2 : HRel P ω w' Im' θ' s2.hp.get)
  (hext : Ext (fun x => H.length ≤ x) H.get w Im θ s2.hp.get w' Im' θ') {u : Value} (hvu : VRel P ω w' Im' θ' vv u) :
  ∃ θ3, Ext (fun x => H.length ≤ x) H.get w Im θ (updF (outOld s2.hp (outName ns H.length) s2.dirty ++ outNew s2.hp (outName ns H.length) ns) H.get) w' Im' θ3 ∧ VRel P ω w' Im' θ3 (renS (outName ns H.length) vv) u ∧
   HRel P ω w' Im' θ3 (updF (outOld s2.hp (outName ns H.length) s2.dirty ++ outNew s2.hp (outName ns H.length) ns) H.get) ∧
   ∀ y c b N, updF (outOld s2.hp (outName ns H.length) s2.dirty ++ outNew s2.hp (outName ns H.length) ns) H.get y = some c → θ3 y = some (b, N) → ∃ x c0, s2.hp.get x = some c0 ∧ θ' x = some (b, N) := by
 obtain ⟨n1, n2, n3, n4, -⟩ := reachNew_spec _ _ _ _ hre List.nodup_nil (fun x hx => by cases hx) (fun x hx => by cases hx)
 rw [hm2] at n2 n4
 simp only [hm2] at n3
 -- the names behind the call
 let θ2 : Th := fun y => if y < H.length then θ' y else match ns[y - H.length]? with
  | some x => θ' x
  | none => none
 generalize hfd : outName ns H.length = f
 have hf1 : ∀ x, x < H.length → f x = x := by
  intro x hx
  rw [← hfd]
  have : Nat.blt x H.length = true := by rw [Nat.blt_eq]; exact hx
  simp [outName, this]
 have hf2 : ∀ x, x ∈ ns → f x = H.length + idxN ns x := by
  intro x hx
  rw [← hfd]
  have : Nat.blt x H.length = false := by
   cases hh : Nat.blt x H.length with
   | false => rfl
   | true => rw [Nat.blt_eq] at hh; have := (n2 x hx).1; omega
  simp [outName, this]
 have hθ2 : ∀ x, (x < H.length ∨ x ∈ ns) → θ2 (f x) = θ' x := by
  intro x hx
  by_cases hlt : x < H.length
  · rw [hf1 x hlt]; simp [θ2, hlt]
  · have hxn : x ∈ ns := by rcases hx with h | h; exact absurd h hlt; exact h
    rw [hf2 x hxn]
    have hs := (idxN_spec ns x hxn).2
    have h1 : ¬ H.length + idxN ns x < H.length := by omega
    have h2 : H.length + idxN ns x - H.length = idxN ns x := by omega
    simp only [θ2, if_neg h1, h2, hs]
 have hlow : ∀ y, y < H.length → θ2 y = θ' y := fun y hy => by simp [θ2, hy]
 have hcl : ∀ y c, H.get y = some c → ∀ z ∈ namesC c, z < H.length := fun y c hy => closedB_spec H c2 (y, c) (HpL_get_some H y c hy)
 generalize hU : outOld s2.hp f s2.dirty ++ outNew s2.hp f ns = U
 -- what the heap holds
 have hUget : ∀ y c, updF U H.get y = some c → ∃ x c0, (x < H.length ∨ x ∈ ns) ∧ f x = y ∧ s2.hp.get x = some c0 ∧ c = renC f c0 ∧ ∀ z ∈ namesC c0, z < H.length ∨ z ∈ ns := by
  intro y c hy
  rw [← hU, updF_append] at hy
  by_cases hyk : y ∈ (outNew s2.hp f ns).map (·.1)
  · rw [outNew_keys _ _ _ (fun x hx => (n2 x hx).2)] at hyk
    obtain ⟨x, hx, rfl⟩ := List.mem_map.1 hyk
    rw [updF_outNew (fun z hz => (n2 z hz).2) (fun a ha b hb e => by
     rw [hf2 a ha, hf2 b hb] at e
     have e1 := (idxN_spec ns a ha).2
     have e2 := (idxN_spec ns b hb).2
     have : idxN ns a = idxN ns b := by omega
     rw [this, e2] at e1
     exact (Option.some.inj e1).symm) hx, Option.map_eq_some_iff] at hy
    obtain ⟨c0, hc0, rfl⟩ := hy
    exact ⟨x, c0, .inr hx, rfl, hc0, rfl, n3 x hx c0 hc0⟩
  · rw [updF_not hyk] at hy
    by_cases hyd : y ∈ s2.dirty
    · rw [updF_outOld hyd, Option.map_eq_some_iff] at hy
      obtain ⟨c0, hc0, rfl⟩ := hy
      have hyl := hdl y hyd
      refine ⟨y, c0, .inl hyl, hf1 y hyl, hc0, rfl, fun z hz => n4 z ?_⟩
      exact List.mem_append.2 (.inr (dirtyNames_mem hyd hc0 z hz))
    · rw [updF_not (by rw [outOld_keys]; exact hyd)] at hy
      have hyl := canon_lt c1 hy
      have hs2y : s2.hp.get y = some c := by
       rcases hsame y hyl with h | h
       · rw [h, hy]
       · exact absurd h hyd
      have hcz := hcl y c hy
      refine ⟨y, c, .inl hyl, hf1 y hyl, hs2y, ?_, fun z hz => .inl (hcz z hz)⟩
      exact (renC_fix f c (fun z hz => hf1 z (hcz z hz))).symm
 refine ⟨θ2, ?_, ?_, ?_, ?_⟩
 · refine ⟨?_, ?_, hext.imUp, hext.size, hext.keep, hext.imNew, ?_, hext.os, hext.output, hext.tape⟩
   · intro x hx
     rw [hlow x (by omega)]
     exact hext.thOld x hx
   · intro x p hp
     have hxl : x < H.length := by
      rcases Nat.lt_or_ge x H.length with h | h
      · exact h
      · rw [hfr x h] at hp; cases hp
     rw [hlow x hxl]
     exact hext.thUp x p hp
   · intro y c b N hy hb
     obtain ⟨x, c0, hx, rfl, hc0, -, -⟩ := hUget y c hy
     rw [hθ2 x hx] at hb
     exact hext.ownNew x c0 b N hc0 hb
 · refine hvu.ren f (fun x hx p hp => ?_)
   rw [hθ2 x (n4 x (List.mem_append.2 (.inl hx)))]
   exact hp
 · refine ⟨?_, ?_, ?_, hH2.im, hH2.gl⟩
   · intro y c hy
     obtain ⟨x, c0, hx, rfl, hc0, rfl, hz⟩ := hUget y c hy
     exact (hH2.at_ x c0 hc0).ren f (fun z hzm p hp => by rw [hθ2 z (hz z hzm)]; exact hp) (hθ2 x hx)
   · intro y y' c c' b N N2 hy hy' hb hb'
     obtain ⟨x, c0, hx, rfl, hc0, -, -⟩ := hUget y c hy
     obtain ⟨x', c0', hx', rfl, hc0', -, -⟩ := hUget y' c' hy'
     rw [hθ2 x hx] at hb
     rw [hθ2 x' hx'] at hb'
     rw [hH2.inj x x' c0 c0' b N N2 hc0 hc0' hb hb']
   · intro y c b N hy hb
     obtain ⟨x, c0, hx, rfl, hc0, -, -⟩ := hUget y c hy
     rw [hθ2 x hx] at hb
     exact hH2.own x c0 b N hc0 hb
 · intro y c b N hy hb
   obtain ⟨x, c0, hx, rfl, hc0, -, -⟩ := hUget y c hy
   rw [hθ2 x hx] at hb
   exact ⟨x, c0, hc0, hb⟩
theorem body_valid {κ : Nat → Option CSumm} (hκ : KOk P κ) (hmix : P.follows .mixedOrders = true) {f : FuncId} {fn : Func} (hf : P.funcs[f]? = some fn) {ι : Nat → Bool} {sp : Bool} {fuel : Nat} : ValidC P f (bodyC P κ ι sp fuel fn) := by
 intro args H v ups hrun _ ω θ Im w us hargs hH hfr
 unfold bodyC at hrun
 cases hb : fn.body with
 | none => rw [hb] at hrun; simp [crun] at hrun
 | some c =>
  rw [hb] at hrun
  simp only [] at hrun
  cases hc : canonB H 0 && closedB H.length H && Nat.ble args.length fn.ntmps && Nat.blt fn.ntmps 16000 && Nat.blt H.length 1000000 with
  | false => rw [hc] at hrun; simp [crun] at hrun
  | true =>
   rw [hc] at hrun
   simp only [cond_true] at hrun
   simp only [Bool.and_eq_true] at hc
   obtain ⟨⟨⟨⟨c1, c2⟩, c3⟩, c4⟩, c5⟩ := hc
   have hal : args.length ≤ fn.ntmps := by rwa [Nat.ble_eq] at c3
   have hnt : fn.ntmps < 16000 := by rwa [Nat.blt_eq] at c4
   have hHl : H.length < 1000000 := by rwa [Nat.blt_eq] at c5
   have hhp : (initSt sp fn args H).hp.get = H.get := heapTr_init c1 (by omega)
   have hs0 : StOk { initSt sp fn args H with tm := .lf, size := 0 } := by
    refine ⟨by show 0 < 16000; omega, hHl, fun t _ => rfl, ?_, Nat.le_refl _⟩
    intro x c hx
    have hx' : (initSt sp fn args H).hp.get x = some c := hx
    rw [hhp] at hx'
    exact canon_lt c1 hx'
   have hst : StOk (initSt sp fn args H) := enter_ok hs0 hal hnt
   obtain ⟨e, s2, hs2, hcomes, hfin⟩ := exec_ok (den := crun) rfl hκ hmix fuel c _ _ _ hst hrun
   have hm2 : s2.m = H.length := hcomes.later.m
   have he : ∀ id, e ≠ .exit id := by
    rintro id rfl
    simp [crun] at hfin
   have hfin' : crun (finishC P fn s2) = some (v, ups) := by
    cases e with
    | exit id => exact absurd rfl (he id)
    | normal => exact hfin
    | ret => exact hfin
   unfold finishC at hfin'
   cases hrs : resultsS P s2 fn.results.toList with
   | none => rw [hrs] at hfin'; simp [crun] at hfin'
   | some vs =>
    rw [hrs] at hfin'
    simp only [] at hfin'
    cases hre : reachNew s2.hp s2.m 2000 (namesS (oneOrTup vs) ++ dirtyNames s2.hp s2.dirty) [] with
    | none => rw [hre] at hfin'; simp [crun] at hfin'
    | some ns =>
      rw [hre] at hfin'
      simp only [crun, Option.some.injEq, Prod.mk.injEq] at hfin'
      rw [hm2] at hfin'
      obtain ⟨rfl, rfl⟩ := hfin'
      have hfr0 : Fr (initSt sp fn args H).nx θ (initSt sp fn args H).hp.get := by
       intro x hx
       have hx' : H.length ≤ x := hx
       refine ⟨hfr x hx', ?_⟩
       rw [hhp]
       cases hg : H.get x with
       | none => rfl
       | some c => have := canon_lt c1 hg; omega
      have sim0 := enter_sim (P := P) hs0 (args := args) (us := us) hal hnt (w := w) (Im := Im) (θ := θ) (by show HRel P ω w Im θ (initSt sp fn args H).hp.get; rw [hhp]; exact hH) hfr0 hargs
      refine (callsIn_wide (n := 0)).1 (body_calls (ρ := none) hf hb he hcomes sim0 hrs (fun u w' Im' θ' hH2 _ hE hvu => ?_))
      have hsame : ∀ x, x < H.length → s2.hp.get x = H.get x ∨ x ∈ s2.dirty := by
       intro x hx
       have := hcomes.later.same x hx
       rwa [hhp] at this
      have hdl : ∀ x ∈ s2.dirty, x < H.length := by
       intro x hx
       rcases hcomes.later.low x hx with h | h
       · cases h
       · exact h
      have hext : Ext (fun x => H.length ≤ x) H.get w Im θ s2.hp.get w' Im' θ' := by
       rw [← hhp]; exact hE
      obtain ⟨θ3, g1, g2, g3, -⟩ := finish_gen c1 c2 hfr hm2 hsame hdl hre hH2 hext hvu
      exact ⟨u, θ3, Im', rfl, g1, g2, g3⟩
end Go.Am
/- The abstract machine: tables of what is known of callees; closed runs. -/
namespace Go.Am
variable {P : Program} {ω : Nat → Value}
def noNum (P : Program) : Prop := (P.funcs.all fun fn => !(fn.name == "runtime.NumGoroutine")) = true
theorem noNum_at (h : noNum P) {f : FuncId} {fn : Func} (hf : P.funcs[f]? = some fn) : (fn.name == "runtime.NumGoroutine") = false := by
 have := Array.all_eq_true'.1 h fn (Array.mem_of_getElem? hf)
 simpa using this
def tbl : List (Nat × CSumm) → Nat → Option CSumm
 | [], _ => none
 | (g, s) :: l, f => bif Nat.beq g f then some s else tbl l f
structure Known (P : Program) (f : FuncId) (s : CSumm) : Prop where
 fn : ∃ fn, P.funcs[f]? = some fn ∧ (fn.name == "runtime.NumGoroutine") = false ∧ fn.body.isNone = false
 ok : ValidC P f s
theorem tbl_nil : KOk P (tbl []) := ⟨(fun _ _ h => by cases h), (fun _ _ h => by cases h)⟩
theorem tbl_cons {g : Nat} {s : CSumm} {l : List (Nat × CSumm)} (h1 : Known P g s) (h2 : KOk P (tbl l)) : KOk P (tbl ((g, s) :: l)) := by
 constructor
 · intro f t ht
   simp only [tbl] at ht
   cases hb : Nat.beq g f with
   | true => rw [hb] at ht; have := Nat.eq_of_beq_eq_true hb; subst this; exact h1.fn
   | false => rw [hb] at ht; exact h2.fn f t ht
 · intro f t ht
   simp only [tbl] at ht
   cases hb : Nat.beq g f with
   | true => rw [hb] at ht; have := Nat.eq_of_beq_eq_true hb; subst this; simp at ht; subst ht; exact h1.ok
   | false => rw [hb] at ht; exact h2.ok f t ht
def inl (κ : Nat → Option CSumm) (f : Nat) : Bool := match κ f with
 | some _ => false
 | none => true
abbrev bodyS (P : Program) (κ : Nat → Option CSumm) (f : Func) : CSumm := bodyC P κ (inl κ) true 1000 f
def hasBody (P : Program) (f : Nat) : Bool := match P.funcs[f]? with
 | some fn => !fn.body.isNone
 | none => false
def callK (κ : Nat → Option CSumm) (f : Nat) (args : List SV) (H : HpL) : Option (SV × List (Nat × Option Chunk)) := match κ f with
 | some s => crun (s args H)
 | none => none
end Go.Am
/- The abstract machine: from a call's outcome to a row's statement. -/
namespace Go.Am
open Go.ChangeShapes Go.WideShapes
variable {P : Program} {ω : Nat → Value}
theorem Ext.kept {new : Nat → Prop} {h h' : HpF} {w w' : World} {Im Im' : Nat → Prop} {θ θ' : Th} (e : Ext new h w Im θ h' w' Im' θ') (hh : ∀ x c, h x ≠ some c) (may : MemPlace → Prop) :
  w.keptBut w' may ∧ ∀ a : Addr, a.block < w.heap.size → w'.frozen? a = w.frozen? a := by
 have key : ∀ b, b < w.heap.size → w'.heap[b]? = w.heap[b]? := fun b hb => e.keep b hb (fun x c N hx => absurd hx (hh x c))
 refine ⟨⟨e.os, e.output, fun i hi => ?_⟩, fun a ha => ?_⟩
 · rw [key i hi]
   cases w.heap[i]? with
   | none => rfl
   | some o =>
    cases o with
    | cells c t fr => exact ⟨rfl, rfl, rfl, fun _ _ => rfl⟩
    | map es clock => exact .inr ⟨rfl, rfl⟩
    | _ => rfl
 · simp only [World.frozen?, key a.block ha]
section
variable {H : Type} {enc : TypeId × Value → H} {w : World} {base : Nat} {spare : Nat → Bool} {held : Bool}
theorem post_kept {f : Func} {s : ChangeSpec} {apart fresh handsOn again : Bool} {W W' : World} {args : Array Value} {v : Value} {ds gs : List (DataW H)} {before pa pv : List MemPlace}
  (hW : DataW.Whole enc P f.params.toList s.vars apart W args.toList ds gs before)
  (hres : ∀ (b : Nat) (sp : Nat → Bool) (hd : Bool), DataW.TrodAll enc P W' b sp hd f.resultTypes.toList (v.resultList f.resultTypes.size) (s.fn H (ds ++ gs)).results [])
  (hargs : ∀ sp : Nat → Bool, (∀ p ∈ before, sp p.block = true) → DataW.TrodAll enc P W' 0 sp true f.params.toList args.toList (s.fn H (ds ++ gs)).args pa)
  (hvars : ∀ sp : Nat → Bool, (∀ p ∈ before, sp p.block = true) → DataW.TrodVars enc P W' sp s.vars (s.fn H (ds ++ gs)).vars pv)
  (hps : before = pa ++ pv) (hk : W.keptBut W' (· ∈ before)) (hfz : ∀ a : Addr, a.block < W.heap.size → W'.frozen? a = W.frozen? a)
  (hok : ∀ (j : Nat) (t : TypeId) (r : Value), f.resultTypes[j]? = some t → (v.resultList f.resultTypes.size)[j]? = some r → Value.okWide P W' .any 0 t r) :
  s.post enc P f apart fresh handsOn again W args v W' := by
 have hold : ∀ p ∈ before, (fun b => decide (b < W.heap.size)) p.block = true := fun p hp => by simpa using hW.lt p hp
 have hlt : ∀ p ∈ before, p.block < W.heap.size := fun p hp => hW.lt p hp
 refine ⟨ds, gs, before, [], pa, pv, hW, hres _ _ _, hargs _ hold, hvars _ hold, World.keptBut_mono (fun p hp => ⟨hp, ?_⟩) hk, fun _ => ?_⟩
 · rw [hps, List.mem_append] at hp
   exact Or.inr hp
 · obtain ⟨_, _, _, _, _, hz, hn⟩ := hW
   refine ⟨hok, _, _, ([] ++ pa) ++ pv, ⟨[] ++ pa, pv, trodAll_append (hargs _ (fun _ _ => rfl)) (hres _ _ _), hvars _ (fun _ _ => rfl), rfl, ?_, ?_⟩, ?_⟩
   · intro b off hp
     have hp' : MemPlace.cell b off ∈ before := by rw [hps]; simpa using hp
     rw [hfz _ (hlt _ hp')]
     exact hz b off hp'
   · intro ha
     have := hn ha
     rw [hps] at this
     simpa using this
   · intro p hp _
     rw [hps]
     simpa using hp
end
theorem GlobR.empty {P : Program} {w : World} {Im : Nat → Prop} (h : gtab P = []) : GlobR P w Im := fun e he => by rw [h] at he; cases he
theorem pure_call {f : FuncId} {s : CSumm} (hgt : gtab P = []) (hs : Known P f s) {args : List SV} {v : SV} {ups : List (Nat × Option Chunk)} (hr : crun (s args []) = some (v, ups)) {us : List Value} {w : World}
  (ha : LRel P om0 w (fun _ => False) noTh args us) :
  Calls P f us.toArray w fun e w' => ∃ u θ' Im', e = .returned u ∧ VRel P om0 w' Im' θ' v u ∧ (∀ may, w.keptBut w' may) ∧ ∀ a : Addr, a.block < w.heap.size → w'.frozen? a = w.frozen? a := by
 have hg : ∀ x c, HpL.get [] x ≠ some c := fun x c h => by simp [HpL.get] at h
 refine (hs.ok args [] v ups hr (fun i p h => by simp at h) om0 noTh (fun _ => False) w us ha ⟨fun x c h => absurd h (hg x c), fun x y c c' b N N' h => absurd h (hg x c), fun x c b N h => absurd h (hg x c), fun b h => h.elim, .empty hgt⟩ (fun x _ => rfl)).mono ?_
 rintro e w' ⟨u, θ', Im', rfl, he, hv, _⟩
 exact ⟨u, θ', Im', rfl, hv, fun may => (he.kept (fun x c => hg x c) may).1, (he.kept (fun x c => hg x c) (fun _ => True)).2⟩
end Go.Am
namespace Go.Am
variable {P : Program} {ω : Nat → Value}
def constS (r : SV) : CSumm
 | [], [] => .ret r []
 | _, _ => .fail
end Go.Am
/- The abstract machine: closed runs in parts: what single calls came to, by their arguments. -/
namespace Go.Am
variable {P : Program}
def eqB : List UInt8 → List UInt8 → Bool
 | [], [] => true
 | a :: l, b :: m => Nat.beq a.toNat b.toNat && eqB l m
 | _, _ => false
theorem eqB_eq : ∀ {l m : List UInt8}, eqB l m = true → l = m
 | [], [], _ => rfl
 | [], _ :: _, h => by cases h
 | _ :: _, [], h => by cases h
 | a :: l, b :: m, h => by
  simp only [eqB, Bool.and_eq_true] at h
  rw [eqB_eq h.2, UInt8.toNat_inj.1 (Nat.eq_of_beq_eq_true h.1)]
mutual
def eqSV : SV → SV → Bool
 | .junk, .junk => true
 | .bool a, .bool b => a == b
 | .int k a, .int k' b => ikEq k k' && (a == b)
 | .str a, .str b => eqB a b
 | .ptr a b, .ptr c d => Nat.beq a c && Nat.beq b d
 | .nilp, .nilp => true
 | .sl a b c d, .sl a' b' c' d' => Nat.beq a a' && Nat.beq b b' && Nat.beq c c' && Nat.beq d d'
 | .nils, .nils => true
 | .psl e es, .psl e' es' => Nat.beq e e' && eqLS es es'
 | .pnn e es, .pnn e' es' => Nat.beq e e' && eqLS es es'
 | .emp, .emp => true
 | .qs a b c d, .qs a' b' c' d' => Nat.beq a a' && Nat.beq b b' && Nat.beq c c' && Nat.beq d d'
 | .qp a b c d, .qp a' b' c' d' => Nat.beq a a' && Nat.beq b b' && Nat.beq c c' && Nat.beq d d'
 | .qo a b c, .qo a' b' c' => Nat.beq a a' && Nat.beq b b' && Nat.beq c c'
 | .qop a b c d, .qop a' b' c' d' => Nat.beq a a' && Nat.beq b b' && Nat.beq c c' && Nat.beq d d'
 | .mp a, .mp b => Nat.beq a b
 | .nilm, .nilm => true
 | .fn (.func f) a b, .fn (.func g) c d => Nat.beq f g && eqLS a c && eqLS b d
 | .nilf, .nilf => true
 | .iface t v, .iface t' v' => Nat.beq t t' && eqSV v v'
 | .nili, .nili => true
 | .agg a, .agg b => eqLS a b
 | .tup a, .tup b => eqLS a b
 | _, _ => false
def eqLS : List SV → List SV → Bool
 | [], [] => true
 | a :: l, b :: m => eqSV a b && eqLS l m
 | _, _ => false
end
mutual
theorem eqSV_eq : ∀ {a b : SV}, eqSV a b = true → a = b
 | .junk, b, h => by cases b <;> first | rfl | cases h
 | .opq _, b, h => by cases b <;> cases h
 | .bool x, b, h => by cases b <;> simp [eqSV] at h; rw [h]
 | .int k x, b, h => by cases b <;> simp [eqSV] at h; rw [ikEq_eq h.1, h.2]
 | .str x, b, h => by cases b <;> simp [eqSV] at h; rw [eqB_eq h]
 | .ptr _ _, b, h => by cases b <;> simp [eqSV] at h; rw [h.1, h.2]
 | .nilp, b, h => by cases b <;> first | rfl | cases h
 | .pel _ _, b, h => by cases b <;> cases h
 | .gp _ _, b, h => by cases b <;> cases h
 | .sl _ _ _ _, b, h => by cases b <;> simp [eqSV] at h; obtain ⟨⟨⟨rfl, rfl⟩, rfl⟩, rfl⟩ := h; rfl
 | .nils, b, h => by cases b <;> first | rfl | cases h
 | .psl _ es, b, h => by cases b <;> simp [eqSV] at h; rw [h.1, eqLS_eq h.2]
 | .pnn _ es, b, h => by cases b <;> simp [eqSV] at h; rw [h.1, eqLS_eq h.2]
 | .emp, b, h => by cases b <;> first | rfl | cases h
 | .qs _ _ _ _, b, h => by cases b <;> simp [eqSV] at h; obtain ⟨⟨⟨rfl, rfl⟩, rfl⟩, rfl⟩ := h; rfl
 | .qp _ _ _ _, b, h => by cases b <;> simp [eqSV] at h; obtain ⟨⟨⟨rfl, rfl⟩, rfl⟩, rfl⟩ := h; rfl
 | .qo _ _ _, b, h => by cases b <;> simp [eqSV] at h; obtain ⟨⟨rfl, rfl⟩, rfl⟩ := h; rfl
 | .qop _ _ _ _, b, h => by cases b <;> simp [eqSV] at h; obtain ⟨⟨⟨rfl, rfl⟩, rfl⟩, rfl⟩ := h; rfl
 | .mp _, b, h => by cases b <;> simp [eqSV] at h; rw [h]
 | .nilm, b, h => by cases b <;> first | rfl | cases h
 | .yl _, b, h => by cases b <;> cases h
 | .fn f x y, b, h => by
  cases b
  case fn g u v =>
   cases f <;> cases g <;> simp [eqSV] at h
   obtain ⟨⟨rfl, h1⟩, h2⟩ := h
   rw [eqLS_eq h1, eqLS_eq h2]
  all_goals (cases f <;> cases h)
 | .nilf, b, h => by cases b <;> first | rfl | cases h
 | .iface _ v, b, h => by cases b <;> simp [eqSV] at h; rw [h.1, eqSV_eq h.2]
 | .nili, b, h => by cases b <;> first | rfl | cases h
 | .agg a, b, h => by cases b <;> simp [eqSV] at h; rw [eqLS_eq h]
 | .tup a, b, h => by cases b <;> simp [eqSV] at h; rw [eqLS_eq h]
theorem eqLS_eq : ∀ {a b : List SV}, eqLS a b = true → a = b
 | [], [], _ => rfl
 | [], _ :: _, h => by cases h
 | _ :: _, [], h => by cases h
 | a :: l, b :: m, h => by
  simp only [eqLS, Bool.and_eq_true] at h
  rw [eqSV_eq h.1, eqLS_eq h.2]
end
def eqNL : List Nat → List Nat → Bool
 | [], [] => true
 | a :: l, b :: m => Nat.beq a b && eqNL l m
 | _, _ => false
theorem eqNL_eq : ∀ {a b : List Nat}, eqNL a b = true → a = b
 | [], [], _ => rfl
 | [], _ :: _, h => by cases h
 | _ :: _, [], h => by cases h
 | a :: l, b :: m, h => by
  simp only [eqNL, Bool.and_eq_true] at h
  rw [Nat.eq_of_beq_eq_true h.1, eqNL_eq h.2]
def eqCh : Chunk → Chunk → Bool
 | .cells T a, .cells T' b => Nat.beq T T' && eqLS a b
 | .seq T a, .seq T' b => Nat.beq T T' && eqLS a b
 | .mpc a b, .mpc a' b' => eqLS a a' && eqLS b b'
 | .sqp T a, .sqp T' b => Nat.beq T T' && eqLS a b
 | .mpn bs cl a b, .mpn bs' cl' a' b' => eqNL bs bs' && Nat.beq cl cl' && eqLS a a' && eqLS b b'
 | _, _ => false
theorem eqCh_eq {a b : Chunk} (h : eqCh a b = true) : a = b := by
 cases a <;> cases b <;> simp [eqCh] at h
 · rw [h.1, eqLS_eq h.2]
 · rw [h.1, eqLS_eq h.2]
 · rw [eqLS_eq h.1, eqLS_eq h.2]
 · rw [eqNL_eq h.1.1.1, h.1.1.2, eqLS_eq h.1.2, eqLS_eq h.2]
 · rw [h.1, eqLS_eq h.2]
def eqHp : HpL → HpL → Bool
 | [], [] => true
 | (x, c) :: l, (y, d) :: m => Nat.beq x y && eqCh c d && eqHp l m
 | _, _ => false
theorem eqHp_eq : ∀ {a b : HpL}, eqHp a b = true → a = b
 | [], [], _ => rfl
 | [], _ :: _, h => by cases h
 | _ :: _, [], h => by cases h
 | (x, c) :: l, (y, d) :: m, h => by
  simp only [eqHp, Bool.and_eq_true] at h
  rw [Nat.eq_of_beq_eq_true h.1.1, eqCh_eq h.1.2, eqHp_eq h.2]
structure MEnt where
 args : List SV
 H : HpL
 v : SV
 ups : List (Nat × Option Chunk)
def memoS : List MEnt → CSumm
 | [], _, _ => .fail
 | m :: l, args, H => bif eqLS m.args args && eqHp m.H H then .ret m.v m.ups else memoS l args H
def ranOk (κ : Nat → Option CSumm) (f : Nat) : List MEnt → Prop
 | [] => True
 | m :: l => callK κ f m.args m.H = some (m.v, m.ups) ∧ ranOk κ f l
theorem memo_valid {κ : Nat → Option CSumm} (hκ : KOk P κ) {f : Nat} : ∀ {l : List MEnt}, ranOk κ f l → ValidC P f (memoS l)
 | [], _ => fun args H v ups hr => by cases hr
 | m :: l, h => by
  intro args H v ups hr
  simp only [memoS] at hr
  cases hb : eqLS m.args args && eqHp m.H H with
  | false => rw [hb] at hr; exact memo_valid hκ h.2 args H v ups hr
  | true =>
   rw [hb] at hr
   simp only [Bool.and_eq_true] at hb
   obtain rfl := eqLS_eq hb.1
   obtain rfl := eqHp_eq hb.2
   simp only [cond_true, crun, Option.some.injEq, Prod.mk.injEq] at hr
   obtain ⟨rfl, rfl⟩ := hr
   have hc := h.1
   simp only [callK] at hc
   cases hk : κ f with
   | none => rw [hk] at hc; cases hc
   | some s =>
    rw [hk] at hc
    exact hκ.ok f s hk _ _ _ _ hc
theorem known_memo {κ : Nat → Option CSumm} (hκ : KOk P κ) (hn : noNum P) {f : Nat} {fn : Func} (hf : P.funcs[f]? = some fn) (hb : fn.body.isNone = false) {l : List MEnt} (h : ranOk κ f l) : Known P f (memoS l) :=
 ⟨⟨fn, hf, noNum_at hn hf, hb⟩, memo_valid hκ h⟩
def closedT (P : Program) (T : Nat → Option CSumm) (fuel : Nat) : Nat → Nat → Option CSumm
 | 0, f => T f
 | n + 1, f =>
  match T f with
  | some s => some s
  | none => match P.funcs[f]? with
   | some fn => bif fn.body.isNone then none else some (bodyC P (closedT P T fuel n) (fun g => inl T g && hasBody P g) false fuel fn)
   | none => none
theorem closedT_ok (hn : noNum P) (hmix : P.follows .mixedOrders = true) {T : Nat → Option CSumm} (hT : KOk P T) (fuel : Nat) : ∀ n, KOk P (closedT P T fuel n) := by
 intro n
 induction n with
 | zero => exact hT
 | succ n ih =>
  have key : ∀ f s, closedT P T fuel (n + 1) f = some s → T f = some s ∨ ∃ fn, P.funcs[f]? = some fn ∧ fn.body.isNone = false ∧ s = bodyC P (closedT P T fuel n) (fun g => inl T g && hasBody P g) false fuel fn := by
   intro f s h
   simp only [closedT] at h
   cases hT : T f with
   | some s' => rw [hT] at h; exact .inl h
   | none =>
    simp only [hT] at h
    cases hf : P.funcs[f]? with
    | none => simp [hf] at h
    | some fn =>
     simp only [hf] at h
     cases hb : fn.body.isNone with
     | true => simp [hb] at h
     | false =>
      simp only [hb, cond_false, Option.some.injEq] at h
      exact .inr ⟨fn, rfl, hb, h.symm⟩
  constructor
  · intro f s h
    rcases key f s h with h | ⟨fn, hf, hb, rfl⟩
    · exact hT.fn f s h
    · exact ⟨fn, hf, noNum_at hn hf, hb⟩
  · intro f s h
    rcases key f s h with h | ⟨fn, hf, hb, rfl⟩
    · exact hT.ok f s h
    · exact body_valid ih hmix hf
theorem known_closedT (hn : noNum P) (hmix : P.follows .mixedOrders = true) {T : Nat → Option CSumm} (hT : KOk P T) {fuel n f : Nat} {fn : Func} (hf : P.funcs[f]? = some fn) (hb : fn.body.isNone = false) {r : SV} (h : callK (closedT P T fuel n) f [] [] = some (r, [])) : Known P f (constS r) := by
 have hk := closedT_ok hn hmix hT fuel n
 refine ⟨⟨fn, hf, noNum_at hn hf, hb⟩, ?_⟩
 simp only [callK] at h
 cases hc : closedT P T fuel n f with
 | none => rw [hc] at h; cases h
 | some s =>
  rw [hc] at h
  intro args H v ups hr
  have hs := hk.ok f s hc
  have : args = [] ∧ H = [] ∧ v = r ∧ ups = [] := by
   unfold constS at hr
   split at hr
   · simp only [crun, Option.some.injEq, Prod.mk.injEq] at hr
     exact ⟨rfl, rfl, hr.1.symm, hr.2.symm⟩
   · cases hr
  obtain ⟨rfl, rfl, rfl, rfl⟩ := this
  exact hs [] [] _ [] h
end Go.Am
/- The abstract machine: weaker summaries; nil slices where a summary asks for lists known by content. -/
namespace Go.Am
variable {P : Program}
end Go.Am
/- The abstract machine: loops, by what is known of them. -/
namespace Go.Am
variable {P : Program} {ω : Nat → Value}
section
variable {R D : Type} {fl : R} {den : R → Option D} (hfl : den fl = none)
include hfl
end
end Go.Am
/- The abstract machine: loops, round by round. -/
namespace Go.Am
variable {P : Program} {ω : Nat → Value}
def RcrOkL {R D : Type} (P : Program) (T : LTab) (den : R → Option D) (rec : Rcr R) : Prop :=
 ∀ (c : Code) (s : St) (k : Ex → St → R) (d : D), StOk s → den (rec c s k) = some d → ∃ e s2, StOk s2 ∧ Comes P (fillC T c) s e s2 ∧ den (k e s2) = some d
section
variable {R D : Type} {fl : R} {den : R → Option D} (hfl : den fl = none) {T : LTab} {recL rec : Rcr R} (hrecL : RcrOkL P T den recL) (hrec : RcrOk P den rec) {κ : Nat → Option CSumm} {ι : Nat → Bool} (hκ : KOk P κ)
include hfl hrecL hrec hκ
end
mutual
theorem noOpq_ren (f : Nat → Nat) : ∀ (v : SV), noOpq (renS f v) = noOpq v
 | .fn g a b => by simp only [renS, noOpq, noOpqL_ren f a, noOpqL_ren f b]
 | .iface t v => by simp only [renS, noOpq, noOpq_ren f v]
 | .agg cs => by simp only [renS, noOpq, noOpqL_ren f cs]
 | .tup vs => by simp only [renS, noOpq, noOpqL_ren f vs]
 | .junk | .pnn _ _ | .opq _ | .bool _ | .int _ _ | .str _ | .ptr _ _ | .nilp | .pel _ _ | .sl _ _ _ _ | .nils | .psl _ _ | .emp | .qs _ _ _ _ | .qp _ _ _ _ | .qo _ _ _ | .qop _ _ _ _ | .mp _ | .nilm | .yl _ | .nilf | .nili | .gp _ _ => rfl
theorem noOpqL_ren (f : Nat → Nat) : ∀ (vs : List SV), noOpqL (renL f vs) = noOpqL vs
 | [] => rfl
 | v :: vs => by simp only [renL, noOpqL, noOpq_ren f v, noOpqL_ren f vs]
end
theorem LRel.om {ω' : Nat → Value} {w : World} {Im : Nat → Prop} {θ : Th} {vs : List SV} {us : List Value} (h : LRel P ω w Im θ vs us) (hn : noOpqL vs = true) : LRel P ω' w Im θ vs us :=
 ⟨h.len, fun i v u hv hu => (h.at_ i v u hv hu).om (noOpqL_at hn hv)⟩
theorem noOpq_keysB (kd : IntKind) : ∀ kvs : List (Int × Bool), noOpqL (keysB kd kvs) = true
 | [] => rfl
 | _ :: l => noOpq_keysB kd l
theorem noOpq_valsB : ∀ kvs : List (Int × Bool), noOpqL (valsB kvs) = true
 | [] => rfl
 | _ :: l => noOpq_valsB l
theorem CRel.om {ω' : Nat → Value} {w : World} {Im : Nat → Prop} {θ : Th} {x : Nat} {c : Chunk} (h : CRel P ω w Im θ x c) (hn : noOpqC c = true) : CRel P ω' w Im θ x c := by
 cases c with
 | cells T vs =>
  obtain ⟨b, cs, fr, h1, h2, h3, h4⟩ := h
  exact ⟨b, cs, fr, h1, h2, h3, h4.om hn⟩
 | seq e es => exact h
 | loopr st vs ps asg bdy =>
  obtain ⟨b, N, lp, h1, h2, h3, h4, h5, h6, h7⟩ := h
  exact ⟨b, N, lp, h1, h2, h3, h4, h5, h6, h7.om hn⟩
 | mpc ks vs =>
  obtain ⟨b, N, es, cl, h1, h2, h3, h4, h5⟩ := h
  simp only [noOpqC, Bool.and_eq_true] at hn
  exact ⟨b, N, es, cl, h1, h2, h3.om hn.1, h4.om hn.2, h5⟩
 | mpb kd kvs =>
  obtain ⟨b, N, es, cl, h1, h2, h3, h4, h5⟩ := h
  exact ⟨b, N, es, cl, h1, h2, h3.om (noOpq_keysB kd kvs), h4.om (noOpq_valsB kvs), h5⟩
 | mpn bs cl ks vs =>
  obtain ⟨b, N, es, h1, h2, h3, h4, h5⟩ := h
  simp only [noOpqC, Bool.and_eq_true] at hn
  exact ⟨b, N, es, h1, h2, h3.om hn.1, h4.om hn.2, h5⟩
 | mit z since seen last => exact h
 | sqo e es => exact h
 | sqp e es =>
  obtain ⟨b, N, cs, fr, h1, h2, h3, h4, h5, h6⟩ := h
  exact ⟨b, N, cs, fr, h1, h2, h3, h4, h5, h6.om hn⟩
theorem HRel.om {ω' : Nat → Value} {w : World} {Im : Nat → Prop} {θ : Th} {h : HpF} (hr : HRel P ω w Im θ h) (hn : ∀ x c, h x = some c → noOpqC c = true) : HRel P ω' w Im θ h :=
 ⟨fun x c hx => (hr.at_ x c hx).om (hn x c hx), hr.inj, hr.own, hr.im, hr.gl⟩
end Go.Am
/- The abstract machine: a body with loops that are known. -/
namespace Go.Am
variable {P : Program} {ω : Nat → Value}
end Go.Am
/- The abstract machine: a copy of a list is the list. -/
namespace Go.Am
variable {P : Program} {ω : Nat → Value}
def bndE (b : Nat) (es : List SV) : Bool := decide (es.length ≤ 9223372036854775807) && decide (es.length * b ≤ 140737488355328)
def cloneS (e b : Nat) : CSumm
 | [.psl e' es], [] => .ite (Nat.beq e e' && bndE b es) (.ret (.psl e es) []) .fail
 | _, _ => .fail
theorem known_clone (hn : noNum P) (hmix : P.follows .mixedOrders = true) {f : FuncId} {fn : Func} (hf : P.funcs[f]? = some fn) (hb : fn.body.isNone = false) {e b sz : Nat} {body : CSumm} (hv : ValidC P f body)
  (h1 : crun (body [.nils] []) = some (.nils, [])) (h2 : ∀ es, bndE b es = true → crun (body [.pnn e es] []) = some (.qs 0 sz 0 (0 + es.length), [(0, some (.seq e ([] ++ es)))])) : Known P f (cloneS e b) := by
 refine ⟨⟨fn, hf, noNum_at hn hf, hb⟩, ?_⟩
 intro args H v ups hrun hcanon ω θ Im w us hl hH hfr
 unfold cloneS at hrun
 split at hrun
 case h_2 => simp [crun] at hrun
 rename_i e' es
 cases hc : Nat.beq e e' && bndE b es with
 | false => rw [hc] at hrun; simp [crun] at hrun
 | true =>
  rw [hc] at hrun
  simp only [if_true, crun, Option.some.injEq, Prod.mk.injEq] at hrun
  obtain ⟨rfl, rfl⟩ := hrun
  simp only [Bool.and_eq_true] at hc
  have : e = e' := Nat.eq_of_beq_eq_true hc.1
  subst this
  match us, hl with
  | [u], hl =>
   have hu := hl.at_ 0 _ u rfl rfl
   have one : ∀ {v : SV}, VRel P ω w Im θ v u → LRel P ω w Im θ [v] [u] := fun hv => ⟨rfl, fun i x y hx hy => by
    cases i with
    | zero => simp at hx hy; subst hx; subst hy; exact hv
    | succ i => simp at hx⟩
   have hu2 := hu
   cases hu with
   | psl uf g1 g0 g2 g3 g4 =>
    rename_i p n cap
    cases p with
    | none =>
     have hc0 : cap = 0 := g0.2 rfl
     subst hc0
     have hn0 : n = 0 := by omega
     subst hn0
     have he : es = [] := List.eq_nil_of_length_eq_zero g1
     subst he
     refine (hv [.nils] [] _ _ h1 hcanon ω θ Im w _ (one .nils) hH hfr).mono ?_
     rintro o w' ⟨z, θ', Im', rfl, hE, hz, hH'⟩
     refine ⟨z, θ', Im', rfl, hE, ?_, hH'⟩
     cases hz
     exact .psl (fun _ => undef) rfl ⟨Nat.le_refl _, by simp⟩ (fun v hv => by cases hv) (fun i v hv => by simp at hv) (fun hn => absurd rfl hn)
    | some a =>
     refine (hv [.pnn e es] [] _ _ (h2 es hc.2) hcanon ω θ Im w _ (one (.pnn hu2)) hH hfr).mono ?_
     rintro o w' ⟨z, θ', Im', rfl, hE, hz, hH'⟩
     have hget : updF [(0, some (.seq e ([] ++ es)))] (HpL.get []) 0 = some (.seq e es) := by simp [updF]
     have hp := seq_psl hH' hget (by simp) hz
     obtain ⟨hE2, hH2⟩ := drop_step hH' (new := fun x => ([] : HpL).length ≤ x) [0]
     have hfun : updF (drops [0]) (updF [(0, some (.seq e ([] ++ es)))] (HpL.get [])) = updF [] (HpL.get []) := by
      funext x
      by_cases hx : x = 0
      · subst hx; simp [updF, drops, HpL.get]
      · simp [updF, drops, HpL.get, hx]
     rw [hfun] at hE2 hH2
     exact ⟨z, θ', _, rfl, hE.trans hE2, hp, hH2⟩
end Go.Am
/- The abstract machine: code without loops, what it defers told exactly. -/
namespace Go.Am
variable {P : Program} {ω : Nat → Value}
def After0 (P : Program) (ω : Nat → Value) (ρ : Option Nat) (s s2 : St) (a : Act) (w : World) (Im : Nat → Prop) (θ : Th) (K : Act → World → Prop) : Prop :=
 ∀ a' w' Im' θ', Sim P ω ρ s2 a' w' Im' θ' → Ext (fun x => s.nx ≤ x) s.hp.get w Im θ s2.hp.get w' Im' θ' → a'.defers = a.defers → K a' w'
theorem After0.trans {ρ : Option Nat} {s s1 s2 : St} {a a1 : Act} {w w1 : World} {Im Im1 : Nat → Prop} {θ θ1 : Th} {K : Act → World → Prop} (hl : Later s s1)
  (hE : Ext (fun x => s.nx ≤ x) s.hp.get w Im θ s1.hp.get w1 Im1 θ1) (hN : a1.defers = a.defers) (h : After0 P ω ρ s s2 a w Im θ K) : After0 P ω ρ s1 s2 a1 w1 Im1 θ1 K :=
 fun a' w' Im' θ' sim hE' hN' => h a' w' Im' θ' sim (hE.trans (hE'.mono (fun _ hx => Nat.le_trans hl.nx hx))) (hN'.trans hN)
structure Comes0 (P : Program) (c : Code) (s : St) (e : Ex) (s2 : St) : Prop where
 later : Later s s2
 size : s2.size = s.size
 rd : s2.rd = s.rd
 wp : ∀ (ω : Nat → Value) (ρ : Option Nat) (Q : Exit → Act → World → Prop) (a : Act) (w : World) (Im : Nat → Prop) (θ : Th), Sim P ω ρ s a w Im θ → After0 P ω ρ s s2 a w Im θ (Q (exitOf e)) → c.wpIn (FR ρ) 0 P Q a w
theorem comes0_self {c : Code} {s : St} {e : Ex} (h : ∀ (ρ : Option Nat) (Q : Exit → Act → World → Prop) (a : Act) (w : World), Q (exitOf e) a w → c.wpIn (FR ρ) 0 P Q a w) : Comes0 P c s e s :=
 ⟨Later.refl s, rfl, rfl, fun _ ρ Q a w Im θ sim hA => h ρ Q a w (hA a w Im θ sim (Ext.refl _) rfl)⟩
section
variable {R D : Type} {fl : R} {den : R → Option D} (hfl : den fl = none) {κ : Nat → Option CSumm} (hκ : KOk P κ)
include hfl hκ
omit hfl in
theorem txt_comes0 {id : Nat} {ops : Array Oper} {s s' : St} {recs : List Rec} {T' : Nat → SV} (hs' : StOk s') (hl : Later s s') (hz : s'.size = s.size) (hrd : s'.rd = s.rd)
  (ht : Txt P κ ops.toList s.size ops.toList s.tmp s.hp.get s.nx recs T' s'.hp.get s'.nx) (hT : ∀ t, s'.tmp t = .junk ∨ s'.tmp t = T' t) : Comes0 P (.region id ops false) s .normal s' := by
 refine ⟨hl, hz, hrd, fun ω ρ Q a w Im θ sim hA => ?_⟩
 refine wpIn_region ?_
 have hsnd := seq_sound (P := P) hκ (nx0 := s.nx) (ro := ρ) (Q := Q) (ds := a.defers) ht 0 a w Im θ (by simp) rfl sim.sf sim.fr (Nat.le_refl _) (w0 := w) (Im0 := Im) (θ0 := θ) (h0 := s.hp.get) (Ext.refl _) (fun a' w' Im' θ' hdf hS hF hn hE => by
  refine hA a' w' Im' θ' ⟨hs', by rw [hz]; exact hS.weaken hT, hF, ?_⟩ hE hdf
  rw [hrd]
  rcases sim.rd with g | ⟨y, b, N, g1, g2, g3⟩
  · exact .inl g
  · exact .inr ⟨y, b, N, g1, hE.thUp _ _ g2, g3⟩)
 simpa [List.range_eq_range'] using hsnd
end
end Go.Am
/- The abstract machine: a function that puts off one call of a function to its end. -/
namespace Go.Am
variable {P : Program} {ω : Nat → Value}
section
variable {R : Type} (fl : R)
def loopF (run : St → (Ex → St → R) → R) : Nat → St → (Ex → St → R) → R
 | 0, _, _ => fl
 | n + 1, s, k => run s (fun e s1 => match e with
  | .normal => loopF run n s1 k
  | e => k e s1)
def lineF (P : Program) (κ : Nat → Option CSumm) (n : Nat) : Code → St → (Ex → St → R) → R
 | .skip, s, k => k .normal s
 | .region _ ops draw, s, k => bif draw then fl else opsR fl P κ ops.toList (fun s _ => k .normal s) ops.toList 0 s []
 | .seq a b, s, k => lineF P κ n a s (fun e s => match e with
  | .normal => lineF P κ n b s k
  | e => k e s)
 | .cond c t e, s, k =>
  match s.ev c with
  | .bool b => bif b then lineF P κ n t s k else lineF P κ n e s k
  | _ => fl
 | .block id c, s, k => lineF P κ n c s (fun e s => match e with
  | .exit j => bif Nat.beq j id then k .normal s else k (.exit j) s
  | e => k e s)
 | .loop c, s, k => loopF fl (lineF P κ n c) n s k
 | .exit id, s, k => k (.exit id) s
 | .ret, s, k => k .ret s
 | _, _, _ => fl
end
section
variable {R D : Type} {fl : R} {den : R → Option D} (hfl : den fl = none) {κ : Nat → Option CSumm} (hκ : KOk P κ)
include hfl hκ
omit hκ in
theorem loopF_ok {c : Code} {run : St → (Ex → St → R) → R} (hrun : ∀ (s : St) (k : Ex → St → R) (d : D), StOk s → den (run s k) = some d → ∃ e s2, StOk s2 ∧ Comes0 P c s e s2 ∧ den (k e s2) = some d) :
  ∀ (n : Nat) (s : St) (k : Ex → St → R) (d : D), StOk s → den (loopF fl run n s k) = some d → ∃ e s2, StOk s2 ∧ den (k e s2) = some d ∧ Later s s2 ∧ s2.size = s.size ∧ s2.rd = s.rd ∧
   ∃ m, ∀ (ω : Nat → Value) (ρ : Option Nat) (Q : Exit → Act → World → Prop) (a : Act) (w : World) (Im : Nat → Prop) (θ : Th), Sim P ω ρ s a w Im θ → After0 P ω ρ s s2 a w Im θ (Q (exitOf e)) → Code.roundsIn (FR ρ) 0 P c Q m a w := by
 intro n
 induction n with
 | zero => intro s k d hs h; exact (by rw [show loopF fl run 0 s k = fl from rfl, hfl] at h; cases h)
 | succ n ih =>
  intro s k d hs h
  obtain ⟨e, s1, hs1, hc1, h1⟩ := hrun s _ d hs h
  cases e with
  | normal =>
   simp only [] at h1
   obtain ⟨e2, s2, hs2, h2, hl, hz, hr, m, hm⟩ := ih s1 k d hs1 h1
   refine ⟨e2, s2, hs2, h2, hc1.later.trans hl, by rw [hz, hc1.size], by rw [hr, hc1.rd], m + 1, fun ω ρ Q a w Im θ sim hA => ?_⟩
   rw [roundsIn_succ]
   refine hc1.wp ω ρ _ a w Im θ sim (fun a' w' Im' θ' sim' hE hN => ?_)
   exact hm ω ρ Q a' w' Im' θ' sim' (After0.trans hc1.later hE hN hA)
  | exit id =>
   refine ⟨.exit id, s1, hs1, h1, hc1.later, hc1.size, hc1.rd, 1, fun ω ρ Q a w Im θ sim hA => ?_⟩
   rw [roundsIn_succ]
   exact hc1.wp ω ρ _ a w Im θ sim (fun a' w' Im' θ' sim' hE hN => hA a' w' Im' θ' sim' hE hN)
  | ret =>
   refine ⟨.ret, s1, hs1, h1, hc1.later, hc1.size, hc1.rd, 1, fun ω ρ Q a w Im θ sim hA => ?_⟩
   rw [roundsIn_succ]
   exact hc1.wp ω ρ _ a w Im θ sim (fun a' w' Im' θ' sim' hE hN => hA a' w' Im' θ' sim' hE hN)
theorem lineF_ok {n : Nat} : ∀ (c : Code) (s : St) (k : Ex → St → R) (d : D), StOk s → den (lineF fl P κ n c s k) = some d → ∃ e s2, StOk s2 ∧ Comes0 P c s e s2 ∧ den (k e s2) = some d := by
 intro c
 induction c with
 | skip => intro s k d hs h; exact ⟨.normal, s, hs, comes0_self (fun ρ Q a w hq => wpIn_skip hq), h⟩
 | region id ops draw =>
  intro s k d hs h
  cases draw with
  | true => exact (fl_no hfl h).elim
  | false =>
   simp only [lineF, cond_false] at h
   obtain ⟨recs, s', ht, hs', hz, hr, hl, h1⟩ := opsR_run hfl _ _ _ _ hs h
   exact ⟨.normal, s', hs', txt_comes0 hκ hs' hl hz hr ht (fun t => .inr rfl), h1⟩
 | seq x y ihx ihy =>
  intro s k d hs h
  simp only [lineF] at h
  obtain ⟨e, s1, hs1, hc1, h1⟩ := ihx s _ d hs h
  cases e with
  | normal =>
   simp only [] at h1
   obtain ⟨e2, s2, hs2, hc2, h2⟩ := ihy s1 k d hs1 h1
   refine ⟨e2, s2, hs2, ⟨hc1.later.trans hc2.later, by rw [hc2.size, hc1.size], by rw [hc2.rd, hc1.rd], fun ω ρ Q a w Im θ sim hA => ?_⟩, h2⟩
   refine wpIn_seq (hc1.wp ω ρ _ a w Im θ sim (fun a' w' Im' θ' sim' hE hN => ?_))
   exact hc2.wp ω ρ Q a' w' Im' θ' sim' (After0.trans hc1.later hE hN hA)
  | exit id =>
   exact ⟨.exit id, s1, hs1, ⟨hc1.later, hc1.size, hc1.rd, fun ω ρ Q a w Im θ sim hA => wpIn_seq (hc1.wp ω ρ _ a w Im θ sim (fun a' w' Im' θ' sim' hE hN => hA a' w' Im' θ' sim' hE hN))⟩, h1⟩
  | ret =>
   exact ⟨.ret, s1, hs1, ⟨hc1.later, hc1.size, hc1.rd, fun ω ρ Q a w Im θ sim hA => wpIn_seq (hc1.wp ω ρ _ a w Im θ sim (fun a' w' Im' θ' sim' hE hN => hA a' w' Im' θ' sim' hE hN))⟩, h1⟩
 | cond c x y ihx ihy =>
  intro s k d hs h
  simp only [lineF] at h
  split at h
  · rename_i b hb
    have hev : ∀ {ω : Nat → Value} {ρ : Option Nat} {a : Act} {w : World} {Im : Nat → Prop} {θ : Th}, Sim P ω ρ s a w Im θ → a.eval c = .bool b := by
     intro ω ρ a w Im θ sim
     have := sim.sf.eval c
     rw [← evT_ev, hb] at this
     generalize a.eval c = u at this
     cases this
     rfl
    cases b with
    | true =>
     obtain ⟨e, s1, hs1, hc1, h1⟩ := ihx s k d hs h
     exact ⟨e, s1, hs1, ⟨hc1.later, hc1.size, hc1.rd, fun ω ρ Q a w Im θ sim hA => wpIn_cond_true (hev sim) (hc1.wp ω ρ Q a w Im θ sim hA)⟩, h1⟩
    | false =>
     obtain ⟨e, s1, hs1, hc1, h1⟩ := ihy s k d hs h
     exact ⟨e, s1, hs1, ⟨hc1.later, hc1.size, hc1.rd, fun ω ρ Q a w Im θ sim hA => wpIn_cond_false (hev sim) (hc1.wp ω ρ Q a w Im θ sim hA)⟩, h1⟩
  · exact (fl_no hfl h).elim
 | block id c ih =>
  intro s k d hs h
  simp only [lineF] at h
  obtain ⟨e, s1, hs1, hc1, h1⟩ := ih s _ d hs h
  cases e with
  | normal => exact ⟨.normal, s1, hs1, ⟨hc1.later, hc1.size, hc1.rd, fun ω ρ Q a w Im θ sim hA => wpIn_block (hc1.wp ω ρ _ a w Im θ sim hA)⟩, h1⟩
  | ret => exact ⟨.ret, s1, hs1, ⟨hc1.later, hc1.size, hc1.rd, fun ω ρ Q a w Im θ sim hA => wpIn_block (hc1.wp ω ρ _ a w Im θ sim hA)⟩, h1⟩
  | exit j =>
   simp only [] at h1
   cases hj : Nat.beq j id with
   | true =>
    rw [hj] at h1
    have hji : j = id := Nat.eq_of_beq_eq_true hj
    subst hji
    refine ⟨.normal, s1, hs1, ⟨hc1.later, hc1.size, hc1.rd, fun ω ρ Q a w Im θ sim hA => wpIn_block (hc1.wp ω ρ _ a w Im θ sim (fun a' w' Im' θ' sim' hE hN => ?_))⟩, h1⟩
    simp only [exitOf, Exit.inBlock, if_true]
    exact hA a' w' Im' θ' sim' hE hN
   | false =>
    rw [hj] at h1
    have hji : ¬ j = id := fun e => by rw [nb_t e] at hj; cases hj
    refine ⟨.exit j, s1, hs1, ⟨hc1.later, hc1.size, hc1.rd, fun ω ρ Q a w Im θ sim hA => wpIn_block (hc1.wp ω ρ _ a w Im θ sim (fun a' w' Im' θ' sim' hE hN => ?_))⟩, h1⟩
    simp only [exitOf, Exit.inBlock, if_neg hji]
    exact hA a' w' Im' θ' sim' hE hN
 | loop c ih =>
  intro s k d hs h
  simp only [lineF] at h
  obtain ⟨e, s2, hs2, h2, hl, hz, hr, m, hm⟩ := loopF_ok hfl (c := c) ih n s k d hs h
  exact ⟨e, s2, hs2, ⟨hl, hz, hr, fun ω ρ Q a w Im θ sim hA => wpIn_loop_rounds m (hm ω ρ Q a w Im θ sim hA)⟩, h2⟩
 | exit id => intro s k d hs h; exact ⟨.exit id, s, hs, comes0_self (fun ρ Q a w hq => wpIn_exit hq), h⟩
 | ret => intro s k d hs h; exact ⟨.ret, s, hs, comes0_self (fun ρ Q a w hq => wpIn_ret hq), h⟩
 | _ => intro s k d hs h; exact (fl_no hfl h).elim
end
def chain : List Code → Code → Code
 | [], x => x
 | a :: l, x => .seq a (chain l x)
def chainF {R : Type} (fl : R) (P : Program) (κ : Nat → Option CSumm) (n : Nat) : List Code → St → (Ex → St → R) → R
 | [], s, k => k .normal s
 | a :: l, s, k => lineF fl P κ n a s (fun e s1 => match e with
  | .normal => chainF fl P κ n l s1 k
  | e => k e s1)
structure ComesCh (P : Program) (l : List Code) (s : St) (e : Ex) (s2 : St) : Prop where
 later : Later s s2
 size : s2.size = s.size
 rd : s2.rd = s.rd
 wp : ∀ (ω : Nat → Value) (ρ : Option Nat) (X : Code) (Q : Exit → Act → World → Prop) (a : Act) (w : World) (Im : Nat → Prop) (θ : Th), Sim P ω ρ s a w Im θ →
  After0 P ω ρ s s2 a w Im θ (fun a' w' => match e with | .normal => X.wpIn (FR ρ) 0 P Q a' w' | e => Q (exitOf e) a' w') → (chain l X).wpIn (FR ρ) 0 P Q a w
theorem chainF_ok {R D : Type} {fl : R} {den : R → Option D} (hfl : den fl = none) {κ : Nat → Option CSumm} (hκ : KOk P κ) {n : Nat} : ∀ (l : List Code) (s : St) (k : Ex → St → R) (d : D), StOk s → den (chainF fl P κ n l s k) = some d →
  ∃ e s2, StOk s2 ∧ ComesCh P l s e s2 ∧ den (k e s2) = some d := by
 intro l
 induction l with
 | nil => intro s k d hs h; exact ⟨.normal, s, hs, ⟨Later.refl s, rfl, rfl, fun ω ρ X Q a w Im θ sim hA => hA a w Im θ sim (Ext.refl _) rfl⟩, h⟩
 | cons c l ih =>
  intro s k d hs h
  simp only [chainF] at h
  obtain ⟨e, s1, hs1, hc1, h1⟩ := lineF_ok hfl hκ c s _ d hs h
  cases e with
  | normal =>
   simp only [] at h1
   obtain ⟨e2, s2, hs2, hc2, h2⟩ := ih s1 k d hs1 h1
   refine ⟨e2, s2, hs2, ⟨hc1.later.trans hc2.later, by rw [hc2.size, hc1.size], by rw [hc2.rd, hc1.rd], fun ω ρ X Q a w Im θ sim hA => ?_⟩, h2⟩
   refine wpIn_seq (hc1.wp ω ρ _ a w Im θ sim (fun a' w' Im' θ' sim' hE hN => ?_))
   exact hc2.wp ω ρ X Q a' w' Im' θ' sim' (After0.trans hc1.later hE hN hA)
  | exit id =>
   exact ⟨.exit id, s1, hs1, ⟨hc1.later, hc1.size, hc1.rd, fun ω ρ X Q a w Im θ sim hA => wpIn_seq (hc1.wp ω ρ _ a w Im θ sim (fun a' w' Im' θ' sim' hE hN => hA a' w' Im' θ' sim' hE hN))⟩, h1⟩
  | ret =>
   exact ⟨.ret, s1, hs1, ⟨hc1.later, hc1.size, hc1.rd, fun ω ρ X Q a w Im θ sim hA => wpIn_seq (hc1.wp ω ρ _ a w Im θ sim (fun a' w' Im' θ' sim' hE hN => hA a' w' Im' θ' sim' hE hN))⟩, h1⟩
end Go.Am
/- The abstract machine: a function that puts off one call of a function to its end: what it comes to. -/
namespace Go.Am
variable {P : Program} {ω : Nat → Value}
def MarksD (P : Program) (K : World → Prop) : List Deferred → World → Prop
 | [], w => K w
 | d :: ds, w => ∃ r w', d.target = .collected r ∧ (Instr.takeDeferred r).run P w = .ok [] w' ∧ MarksD P K ds w'
theorem marksD_steps {F : Fence} {n : Nat} {K : World → Prop} : ∀ (ds : List Deferred) (w : World) (fr : Frame) (cs : List Frame), fr.mode = .returning → fr.defers = ds → F.fn fr.fn → F.room (cs.length + 1 + n) → MarksD P K ds w →
  ∃ w', K w' ∧ StepsIn (Machine.fenced P F) P (lone fr cs w) (lone { fr with defers := [] } cs w') := by
 intro ds
 induction ds with
 | nil =>
  intro w fr cs hm hd hb hr h
  refine ⟨w, h, ?_⟩
  have : ({ fr with defers := [] } : Frame) = fr := by rw [← hd]
  rw [this]
  exact StepsIn.refl _
 | cons d ds ih =>
  intro w fr cs hm hd hb hr h
  obtain ⟨r, w1, ht, hk, h1⟩ := h
  have hne : fr.mode ≠ .run := by rw [hm]; simp
  have s1 := step_collected (P := P) (cs := cs) hne hd ht hk
  have i1 : (lone fr cs w).fenced P F := fenced_out hb hr hne hd (fun g hg => by rw [ht] at hg; simp [Target.leads] at hg)
  obtain ⟨w', hK, hs⟩ := ih w1 { fr with defers := [] ++ ds } cs hm rfl hb hr h1
  exact ⟨w', hK, .head i1 s1 hs⟩
def bodyPostMD (P : Program) (fn : Func) (R : Ending → World → Prop) : Exit → Act → World → Prop
 | .normal, a, w | .ret, a, w => MarksD P (fun w' => ∃ v, (results fn a.tmps).run P w' = .ok v w' ∧ R (.returned v) w') a.defers w
 | _, _, _ => False
theorem callsDIn_of_wp_marks {F : Fence} {n : Nat} {f : FuncId} {fn : Func} {c : Code} {args : Array Value} {u : FrameMode} {w : World} {R : Ending → World → Prop}
  (hf : P.funcs[f]? = some fn) (hb : fn.body = some c) (hF : F.fn f)
  (h : c.wpIn F n P (bodyPostMD P fn R) { tmps := args ++ Array.replicate (fn.ntmps - args.size) undef, defers := [] } w) (hro : F.round = none := by rfl) :
  CallsDIn F n P f args u w fun e u' w' => u' = u ∧ R e w' := by
 refine ⟨hF, fun c₀ cs hu hr => ?_⟩
 let b : Frame := { (default : Frame) with fn := f, kind := .deferred, roundOf := none }
 have henter : Frame.enter P f args .deferred =
   b.atR { tmps := args ++ Array.replicate (fn.ntmps - args.size) undef, defers := [] } [.code c] := by
  simp [Frame.enter, Frame.atR, hf, hb, b]
 have hc : ({ c₀ with mode := u } : Frame) = c₀ := by subst hu; rfl
 obtain ⟨e, a', w', hq, harr⟩ := h b [] (c₀ :: cs) hro.symm hF hr
 rw [← henter] at harr
 cases e with
 | normal =>
  obtain ⟨w2, ⟨v, hv, hR⟩, hs⟩ := marksD_steps a'.defers w' { b.atR a' [] with mode := .returning } (c₀ :: cs) rfl rfl hF hr hq
  refine ⟨.returned v, u, w2, { { b.atR a' [] with mode := .returning } with defers := [] }, ⟨rfl, hR⟩, ?_, rfl, rfl, rfl, rfl, fn, hf, hv⟩
  rw [hc]
  exact StepsIn.trans (StepsIn.trans harr (.one (fenced_calm (fr := b.atR a' []) hF hr rfl) (stepR_end rfl))) hs
 | ret =>
  obtain ⟨todo, hs0⟩ := harr.1 rfl
  obtain ⟨w2, ⟨v, hv, hR⟩, hs⟩ := marksD_steps a'.defers w' { b.atR a' todo with mode := .returning } (c₀ :: cs) rfl rfl hF hr hq
  refine ⟨.returned v, u, w2, { { b.atR a' todo with mode := .returning } with defers := [] }, ⟨rfl, hR⟩, ?_, rfl, rfl, rfl, rfl, fn, hf, hv⟩
  rw [hc]
  exact StepsIn.trans hs0 hs
 | panic chain => exact hq.elim
 | exit id => exact hq.elim
 | goto l => exact hq.elim
 | outgrown => exact hq.elim
theorem marksD_of {K : World → Prop} : ∀ (rs : List Nat) (w : World), rs.Nodup → (∀ r ∈ rs, w.heap[r]? = some (.deferred (some []))) →
  (∀ w', w'.heap.size = w.heap.size → (∀ b, b ∉ rs → w'.heap[b]? = w.heap[b]?) → w'.os = w.os → w'.output = w.output → w'.tape = w.tape → K w') →
  MarksD P K (rs.map fun r => { target := .collected r, args := #[] }) w
 | [], w, _, _, hR => hR w rfl (fun _ _ => rfl) rfl rfl rfl
 | r :: rs, w, hnd, hat, hR => by
  rw [List.nodup_cons] at hnd
  refine ⟨r, _, rfl, run_takeDeferred (hat r (by simp)), ?_⟩
  refine marksD_of rs _ hnd.2 (fun q hq => ?_) (fun w' h1 h2 h3 h4 h5 => hR w' (by simpa using h1) (fun b hb => ?_) h3 h4 h5)
  · rw [World.putObj_heap_other (show q ≠ r from fun e => hnd.1 (by rw [← e]; exact hq))]; exact hat q (by simp [hq])
  · simp only [List.mem_cons, not_or] at hb
    rw [h2 b hb.2, World.putObj_heap_other hb.1]
theorem leaves_marksT {fn : Func} {tmps : Array Value} {ro : Option Nat} {R : Ending → World → Prop} {tail : List Deferred} : ∀ (rs : List Nat) (w : World), rs.Nodup → (∀ r ∈ rs, w.heap[r]? = some (.deferred (some []))) →
  (∀ w', w'.heap.size = w.heap.size → (∀ b, b ∉ rs → w'.heap[b]? = w.heap[b]?) → w'.os = w.os → w'.output = w.output → w'.tape = w.tape → LeavesInM (FR ro) 0 P fn tmps R tail .returning w') →
  LeavesInM (FR ro) 0 P fn tmps R (rs.map (fun r => { target := .collected r, args := #[] }) ++ tail) .returning w
 | [], w, _, _, hR => hR w rfl (fun _ _ => rfl) rfl rfl rfl
 | r :: rs, w, hnd, hat, hR => by
  rw [List.nodup_cons] at hnd
  refine ⟨by simp, .inl ⟨r, _, rfl, run_takeDeferred (hat r (by simp)), ?_⟩⟩
  refine leaves_marksT rs _ hnd.2 (fun q hq => ?_) (fun w' h1 h2 h3 h4 h5 => hR w' (by simpa using h1) (fun b hb => ?_) h3 h4 h5)
  · rw [World.putObj_heap_other (show q ≠ r from fun e => hnd.1 (by rw [← e]; exact hq))]; exact hat q (by simp [hq])
  · simp only [List.mem_cons, not_or] at hb
    rw [h2 b hb.2, World.putObj_heap_other hb.1]
theorem marks_gone {s0 s2 : St} {a' : Act} {w w' w3 : World} {Im Im' : Nat → Prop} {θ θ' : Th} {rs : List Nat}
  (h3 : ∀ r ∈ rs, w'.heap[r]? = some (.deferred (some [])) ∧ ¬ Im' r ∧ ∀ x c N, s2.hp.get x = some c → θ' x ≠ some (r, N))
  (hge : ∀ r ∈ rs, w.heap.size ≤ r)
  (hH0 : HRel P ω w' Im' θ' s2.hp.get) (hE : Ext (fun x => s0.nx ≤ x) s0.hp.get w Im θ s2.hp.get w' Im' θ')
  (g1 : w3.heap.size = w'.heap.size) (g2 : ∀ b, b ∉ rs → w3.heap[b]? = w'.heap[b]?) (g3 : w3.os = w'.os) (g4 : w3.output = w'.output) (g5 : w3.tape = w'.tape) :
  HRel P ω w3 Im' θ' s2.hp.get ∧ Ext (fun x => s0.nx ≤ x) s0.hp.get w Im θ s2.hp.get w3 Im' θ' ∧ (∀ v u, VRel P ω w' Im' θ' v u → VRel P ω w3 Im' θ' v u) := by
 have hI : ∀ b, Im' b → Im' b ∧ w3.heap[b]? = w'.heap[b]? := fun b hb => ⟨hb, g2 b (fun hr => (h3 b hr).2.1 hb)⟩
 refine ⟨?_, ?_, ?_⟩
 · refine ⟨fun x c hx => (hH0.at_ x c hx).mono hI (fun _ _ h => h) rfl (fun b N hb => g2 b (fun hr => (h3 b hr).2.2 x c N hx hb)), hH0.inj, fun x c b N hx hb => ?_, fun b hb => by rw [g1]; exact hH0.im b hb, hH0.gl.mono hI⟩
   rw [g1]; exact hH0.own x c b N hx hb
 · refine ⟨hE.thOld, hE.thUp, hE.imUp, by rw [g1]; exact hE.size, fun b hb hno => ?_, hE.imNew, hE.ownNew, g3.trans hE.os, g4.trans hE.output, g5.trans hE.tape⟩
   rw [g2 b (fun hr => by have := hge b hr; omega)]
   exact hE.keep b hb hno
 · exact fun v u h => h.mono hI (fun _ _ h => h)
theorem body_callsD {f : FuncId} {fn : Func} {c : Code} (hf : P.funcs[f]? = some fn) (hb : fn.body = some c) {s0 s2 : St} {e : Ex} (he : ∀ id, e ≠ .exit id) (hc : Comes P c s0 e s2) {us : List Value} {w : World} {Im : Nat → Prop} {θ : Th}
  (sim : Sim P ω none s0 { tmps := us.toArray ++ Array.replicate (fn.ntmps - us.toArray.size) undef, defers := [] } w Im θ) {vs : List SV} (hvs : resultsS P s2 fn.results.toList = some vs) {um : FrameMode} {R : Ending → World → Prop}
  (hR : ∀ u w' Im' θ', HRel P ω w' Im' θ' s2.hp.get → Fr s2.nx θ' s2.hp.get → Ext (fun x => s0.nx ≤ x) s0.hp.get w Im θ s2.hp.get w' Im' θ' → VRel P ω w' Im' θ' (oneOrTup vs) u → R (.returned u) w') :
  CallsDIn (FR none) 0 P f us.toArray um w fun e u' w' => u' = um ∧ R e w' := by
 refine callsDIn_of_wp_marks hf hb trivial (hc.wp none _ _ w Im θ sim (fun a' w' Im' θ' sim' hE hN => ?_)) rfl
 have key : MarksD P (fun w' => ∃ v, (results fn a'.tmps).run P w' = .ok v w' ∧ R (.returned v) w') a'.defers w' := by
  obtain ⟨rs, base, h1, hb, h2, h3⟩ := sim'.sf.df
  obtain ⟨rs', h4, h5⟩ := hN
  have hbase : base = [] := by
   refine List.eq_nil_iff_forall_not_mem.2 (fun d hd => ?_)
   have hm : d ∈ a'.defers := by rw [h1]; exact List.mem_append.2 (.inr hd)
   rw [h4] at hm
   simp only [List.append_nil, List.mem_map] at hm
   obtain ⟨q, _, e⟩ := hm
   exact hb d hd q e.symm
  subst hbase
  rw [List.append_nil] at h1
  have hge : ∀ r ∈ rs, w.heap.size ≤ r := by
   intro r hr
   have : mark r ∈ a'.defers := by rw [h1]; exact List.mem_map.2 ⟨r, hr, rfl⟩
   rw [h4] at this
   simp only [List.append_nil, List.mem_map] at this
   obtain ⟨q, hq, e⟩ := this
   simp only [mark, Deferred.mk.injEq, Target.collected.injEq, and_true] at e
   rw [← e]; exact h5 q hq
  rw [h1]
  refine marksD_of rs w' h2 (fun r hr => (h3 r hr).1) (fun w3 g1 g2 g3 g4 g5 => ?_)
  obtain ⟨hH, hE3, hV⟩ := marks_gone (P := P) (ω := ω) (a' := a') h3 hge sim'.sf.hp hE g1 g2 g3 g4 g5
  have hS : SimF P ω s2.size s2.tmp s2.hp.get { a' with defers := [] } w3 Im' θ' :=
   ⟨sim'.sf.size, fun t ht => hV _ _ (sim'.sf.tm t ht), sim'.sf.out, Mk.nil, hH⟩
  obtain ⟨u, hu1, hu2⟩ := run_results (f := fn) hS hvs
  exact ⟨u, hu1, hR u w3 Im' θ' hH sim'.fr hE3 hu2⟩
 cases e with
 | normal => exact key
 | ret => exact key
 | exit id => exact absurd rfl (he id)
end Go.Am
