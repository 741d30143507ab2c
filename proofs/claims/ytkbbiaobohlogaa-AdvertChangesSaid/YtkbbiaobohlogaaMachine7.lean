/- The abstract machine: a round of a range over a function. -/
import Derived.Test.YtkbbiaobohlogaaMachine6
import Derived.RangeFuncNested
import Derived.LoopNIn
import Derived.Scope
import Derived.ChangeSame
import Derived.ProofKit
import Derived.OpenShut
import Derived.Deep.Slices
import Derived.Lib.SmallJoins
set_option linter.unusedVariables false
set_option linter.unusedSimpArgs false
namespace Go.Am
variable {P : Program} {ω : Nat → Value}
theorem listOfTr_get (s : St) : ∀ (n i j : Nat), (listOfTr s n i)[j]? = if j < n then some (s.tmp (i + j)) else none
 | 0, i, j => by simp [listOfTr]
 | n + 1, i, j => by
  cases j with
  | zero => simp [listOfTr]
  | succ j =>
   simp only [listOfTr, List.getElem?_cons_succ]
   rw [listOfTr_get s n (i + 1) j]
   have : i + 1 + j = i + (j + 1) := by omega
   rw [this]
   simp only [Nat.add_lt_add_iff_right]
theorem listOfTr_len (s : St) : ∀ (n i : Nat), (listOfTr s n i).length = n
 | 0, _ => rfl
 | n + 1, i => by simp [listOfTr, listOfTr_len s n (i + 1)]
theorem list_rel {s : St} {a : Act} {w : World} {Im : Nat → Prop} {θ : Th} {h : HpF} (hS : SimF P ω s.size s.tmp h a w Im θ) : LRel P ω w Im θ (listOfTr s s.size 0) a.tmps.toList := by
 refine ⟨by rw [listOfTr_len]; simp [hS.size], fun i v u hv hu => ?_⟩
 rw [listOfTr_get] at hv
 split at hv
 · rename_i hi
   simp only [Nat.zero_add, Option.some.injEq] at hv
   subst hv
   have := hS.tm i hi
   have e : a.tmps.getD i undef = u := by
    simp only [Array.getElem?_toList] at hu
    simp [Array.getD_eq_getD_getElem?, hu]
   rwa [e] at this
 · cases hv
def setL : List Nat → List Value → Array Value → Array Value
 | p :: ps, u :: us, a => setL ps us (a.setIfInBounds p u)
 | _, _, a => a
theorem setL_eq (ps : Array Nat) (us : Array Value) (a : Array Value) : (ps.zip us).foldl (fun tmps (t, a) => tmps.setIfInBounds t a) a = setL ps.toList us.toList a := by
 rw [← Array.foldl_toList]
 rw [Array.toList_zip]
 generalize ps.toList = l
 generalize us.toList = m
 induction l generalizing m a with
 | nil => simp [setL]
 | cons p l ih =>
  cases m with
  | nil => simp [setL]
  | cons u m => simp [setL, ih]
theorem setPs_rel {n : Nat} (hn : n < 16000) {w : World} {Im : Nat → Prop} {θ : Th} : ∀ (ps : List Nat) (vs : List SV) (us : List Value) (t : Tr SV) (a : Array Value), lowB n ps = true → ps.length = vs.length → LRel P ω w Im θ vs us →
  a.size = n → (∀ j, j < n → VRel P ω w Im θ (match t.get j with
   | some v => v
   | none => .junk) (a.getD j undef)) → (∀ j, n ≤ j → t.get j = none) →
  (setL ps us a).size = n ∧ (∀ j, j < n → VRel P ω w Im θ (match (setPs ps vs t).get j with
   | some v => v
   | none => .junk) ((setL ps us a).getD j undef)) ∧ ∀ j, n ≤ j → (setPs ps vs t).get j = none
 | [], vs, us, t, a, _, _, _, hs, h1, h2 => by
  have e1 : setPs [] vs t = t := by cases vs <;> rfl
  have e2 : setL [] us a = a := by cases us <;> rfl
  rw [e1, e2]
  exact ⟨hs, h1, h2⟩
 | p :: ps, [], us, t, a, _, hlen, _, _, _, _ => by simp at hlen
 | p :: ps, v :: vs, us, t, a, hlow, hlen, hl, hs, h1, h2 => by
  cases us with
  | nil => have := hl.len; simp at this
  | cons u us =>
   simp only [lowB, Bool.and_eq_true] at hlow
   have hp : p < n := by have := hlow.1; rwa [Nat.blt_eq] at this
   simp only [setPs, setL]
   refine setPs_rel hn ps vs us _ _ hlow.2 (by simpa using hlen) ⟨by have := hl.len; simpa using this, fun i x y hx hy => hl.at_ (i + 1) x y (by simpa using hx) (by simpa using hy)⟩ (by simpa using hs) (fun j hj => ?_) (fun j hj => ?_)
   · rw [Tr.get_set 14 t p (some v) j (by omega)]
     by_cases e : j = p
     · subst e
       have : j < a.size := by omega
       simp only [if_pos, Array.getD_eq_getD_getElem?, Array.getElem?_setIfInBounds, this, Option.getD_some]
       exact hl.at_ 0 v u rfl rfl
     · have := h1 j hj
       rw [if_neg e]
       have e2 : (a.setIfInBounds p u).getD j undef = a.getD j undef := by
        simp [Array.getD_eq_getD_getElem?, Ne.symm e]
       rw [e2]; exact this
   · rw [Tr.get_set 14 t p (some v) j (by omega), if_neg (by omega)]
     exact h2 j hj
theorem round_sim {s : St} (hs : StOk s) {x b N : Nat} {w : World} {Im : Nat → Prop} {θ : Th} (hr : HRel P ω w Im θ s.hp.get) (hf : Fr s.nx θ s.hp.get) (hθ : θ x = some (b, N)) {vs args : List SV} {us : List Value} {tmps : Array Value} {ps : Array Nat}
  (h1 : ps.size = args.length) (h2 : lowB vs.length ps.toList = true) (h3 : vs.length < 16000) (hv : LRel P ω w Im θ vs tmps.toList) (hl : LRel P ω w Im θ args us) :
  StOk { s with tm := setPs ps.toList args (argsTr vs 0 .lf), size := vs.length, rd := some x } ∧
  Sim P ω (some b) { s with tm := setPs ps.toList args (argsTr vs 0 .lf), size := vs.length, rd := some x } { tmps := (ps.zip us.toArray).foldl (fun tmps (t, a) => tmps.setIfInBounds t a) tmps, defers := [] } w Im θ := by
 have hsz : tmps.size = vs.length := by have := hv.len; simp at this; omega
 obtain ⟨k1, k2, k3⟩ := setPs_rel (P := P) h3 ps.toList args us (argsTr vs 0 .lf) tmps h2 (by simpa using h1) hl hsz (fun j hj => by
  rw [argsTr_get vs 0 .lf j (by omega), if_pos (by omega)]
  have e : vs[j - 0]? = some vs[j] := by simp [hj]
  rw [e]
  refine hv.at_ j _ _ (by simp [hj]) ?_
  have : j < tmps.size := by omega
  simp [Array.getD_eq_getD_getElem?, this]) (fun j hj => by
  rw [argsTr_get vs 0 .lf j (by omega), if_neg (by omega)]; rfl)
 have hok : StOk { s with tm := setPs ps.toList args (argsTr vs 0 .lf), size := vs.length, rd := some x } := by
  refine ⟨h3, hs.nx, fun t ht => ?_, hs.dom, hs.m⟩
  have ht' : vs.length ≤ t := ht
  simp only [St.tmp]
  rw [k3 t ht']
 refine ⟨hok, hok, ⟨?_, ?_, hok.out, Mk.nil, hr⟩, hf, .inr ⟨x, b, N, rfl, hθ, rfl⟩⟩
 · show ((ps.zip us.toArray).foldl (fun tmps (t, a) => tmps.setIfInBounds t a) tmps).size = _
   rw [setL_eq]; exact k1
 · intro t ht
   show VRel P ω w Im θ _ (((ps.zip us.toArray).foldl (fun tmps (t, a) => tmps.setIfInBounds t a) tmps).getD t undef)
   rw [setL_eq]
   exact k2 t ht
end Go.Am
/- The abstract machine: a round of a range over a function; operations one after the other. -/
namespace Go.Am
variable {P : Program} {ω : Nat → Value}
theorem setPs_out {n : Nat} (hn : n < 16000) : ∀ (ps : List Nat) (vs : List SV) (t : Tr SV), lowB n ps = true → (∀ j, n ≤ j → t.get j = none) → ∀ j, n ≤ j → (setPs ps vs t).get j = none
 | [], vs, t, _, h => by
  have e1 : setPs [] vs t = t := by cases vs <;> rfl
  rw [e1]; exact h
 | p :: ps, [], t, _, h => h
 | p :: ps, v :: vs, t, hl, h => by
  simp only [lowB, Bool.and_eq_true] at hl
  have hp : p < n := by have := hl.1; rwa [Nat.blt_eq] at this
  simp only [setPs]
  refine setPs_out hn ps vs _ hl.2 (fun j hj => ?_)
  rw [Tr.get_set 14 t p (some v) j (by omega), if_neg (by omega)]
  exact h j hj
theorem round_ok {s : St} (hs : StOk s) {x : Nat} {vs args : List SV} {ps : List Nat} (h2 : lowB vs.length ps = true) (h3 : vs.length < 16000) : StOk { s with tm := setPs ps args (argsTr vs 0 .lf), size := vs.length, rd := some x } := by
 refine ⟨h3, hs.nx, fun t ht => ?_, hs.dom, hs.m⟩
 have ht' : vs.length ≤ t := ht
 simp only [St.tmp]
 rw [setPs_out h3 ps args _ h2 (fun j hj => by rw [argsTr_get vs 0 .lf j (by omega), if_neg (by omega)]; rfl) t ht']
theorem turn_ok {s : St} {x : Nat} {c : Chunk} (c' : Option Chunk) (hx : s.hp.get x = some c) (hs : StOk s) :
  StOk (s.upd [(x, c')] s.nx) ∧ Later s (s.upd [(x, c')] s.nx) ∧ (s.upd [(x, c')] s.nx).hp.get = updF [(x, c')] s.hp.get := by
 have hlt := hs.dom x _ hx
 have hk : ∀ p ∈ [(x, c')], p.1 < s.nx := by
  intro p hp
  simp only [List.mem_singleton] at hp
  subst hp; exact hlt
 exact ⟨upd_ok hs (Nat.le_refl _) hs.nx hk, upd_later (Nat.le_refl _) (fun p hp => by have := hk p hp; have := hs.nx; omega), upsTr_get _ _ (fun p hp => by have := hk p hp; have := hs.nx; omega)⟩
theorem Sim.turn {ρ : Option Nat} {s : St} {a : Act} {w w' : World} {Im : Nat → Prop} {θ : Th} (sim : Sim P ω ρ s a w Im θ) {x : Nat} {c : Chunk} {c' : Option Chunk} (hx : s.hp.get x = some c)
  (hE : Ext (fun _ => False) s.hp.get w Im θ (updF [(x, c')] s.hp.get) w' Im θ) (hH : HRel P ω w' Im θ (updF [(x, c')] s.hp.get)) : Sim P ω ρ (s.upd [(x, c')] s.nx) a w' Im θ ∧ Ext (fun x => s.nx ≤ x) s.hp.get w Im θ (s.upd [(x, c')] s.nx).hp.get w' Im θ := by
 obtain ⟨h1, h2, h3⟩ := turn_ok c' hx sim.ok
 have hlt := sim.ok.dom x _ hx
 refine ⟨⟨h1, ?_, ?_, sim.rd⟩, by rw [h3]; exact hE.mono (fun _ h => h.elim)⟩
 · have := sim.sf.step (dst := none) trivial hE (VRel'.junk (u := undef)) hH
   rw [h3]
   exact this
 · rw [h3]
   intro y hy
   have hy' : s.nx ≤ y := hy
   obtain ⟨g1, g2⟩ := sim.fr y hy'
   refine ⟨g1, ?_⟩
   have : ¬ y = x := by omega
   simp [updF, this, g2]
section
variable {R D : Type} {fl : R} {den : R → Option D} (hfl : den fl = none) {rec : Rcr R} (hrec : RcrOk P den rec)
include hfl hrec
theorem roundIn_run {x : Nat} {args : List SV} {s : St} {k : Bool → St → R} {d : D} (hs : StOk s) (h : den (roundIn fl rec x args s k) = some d) :
  ∃ r s', StOk s' ∧ Later s s' ∧ s'.tm = s.tm ∧ s'.size = s.size ∧ s'.rd = s.rd ∧ den (k r s') = some d ∧
   ∀ (ω : Nat → Value) (ρ : Option Nat) (a : Act) (w : World) (Im : Nat → Prop) (θ : Th) (us : List Value) (b N : Nat) (R' : Ending → World → Prop), Sim P ω ρ s a w Im θ → LRel P ω w Im θ args us → θ x = some (b, N) →
    (∀ w' Im' θ', Sim P ω ρ s' a w' Im' θ' → Ext (fun x => s.nx ≤ x) s.hp.get w Im θ s'.hp.get w' Im' θ' → R' (.returned (.bool r)) w') →
    ∃ lp : Loop, w.heap[b]? = some (.loop lp) ∧ us.length = lp.params.size ∧ RoundIn (FR ρ) 0 P b lp.fn ((lp.params.zip us.toArray).foldl (fun tmps (t, a) => tmps.setIfInBounds t a) lp.tmps) lp.assign lp.body w R' := by
 unfold roundIn at h
 split at h
 case h_2 => exact (fl_no hfl h).elim
 rename_i vs ps asg bdy hx
 cases hc : Nat.beq ps.size args.length && lowB vs.length ps.toList && Nat.blt vs.length 16000 with
 | false => rw [hc] at h; exact (fl_no hfl h).elim
 | true =>
  rw [hc] at h
  simp only [cond_true] at h
  simp only [Bool.and_eq_true] at hc
  obtain ⟨⟨c1, c2⟩, c3⟩ := hc
  have h1 : ps.size = args.length := Nat.eq_of_beq_eq_true c1
  have h3 : vs.length < 16000 := by rwa [Nat.blt_eq] at c3
  obtain ⟨e, s1, hs1, hcA, h4⟩ := hrec _ _ _ _ (round_ok hs (x := x) (args := args) c2 h3) h
  cases e with
  | exit id => exact (fl_no hfl h4).elim
  | ret => exact (fl_no hfl h4).elim
  | normal =>
   simp only [] at h4
   split at h4
   case h_2 => exact (fl_no hfl h4).elim
   rename_i vs1 ps1 asg1 bdy1 hx1
   obtain ⟨o1, l1, g1⟩ := turn_ok (some (.loopr .busy vs1 ps1 asg1 bdy1)) hx1 hs1
   obtain ⟨e2, s2, hs2, hcB, h5⟩ := hrec _ _ _ _ o1 h4
   split at h5
   case h_2 => exact (fl_no hfl h5).elim
   rename_i vs2 ps2 asg2 bdy2 hx2
   obtain ⟨o2, l2, g2⟩ := turn_ok (some (.loopr (endSt e2) vs2 ps2 asg2 bdy2)) hx2 hs2
   have lA : Later s s1 := ⟨hcA.later.m, hcA.later.nx, hcA.later.same, hcA.later.up, hcA.later.low⟩
   have lAll : Later s (s2.upd [(x, some (.loopr (endSt e2) vs2 ps2 asg2 bdy2))] s2.nx) := ((lA.trans l1).trans hcB.later).trans l2
   refine ⟨isNormal e2, { s2.upd [(x, some (.loopr (endSt e2) vs2 ps2 asg2 bdy2))] s2.nx with tm := s.tm, size := s.size, rd := s.rd }, ⟨hs.size, o2.nx, hs.out, o2.dom, o2.m⟩, frame_later s _ _ _ _ lAll, rfl, rfl, rfl, h5, ?_⟩
   intro ω ρ a w Im θ us b N R' sim hl hθ hR
   obtain ⟨lp, hw, e1, e2', e3, e4, hv, -⟩ := put_loop (st' := .busy) sim.sf.hp hx hθ
   refine ⟨lp, hw, by rw [e1, h1, hl.len], ?_⟩
   rw [e1, e2', e3]
   have simA := (round_sim hs sim.sf.hp sim.fr hθ h1 c2 h3 hv hl).2
   refine roundIn_of_wpIn (FR_fn ρ _) ?_
   show asg.wpIn (FR (some b)) 0 P _ _ w
   refine hcA.wp (some b) _ _ w Im θ simA (fun a1 w1 Im1 θ1 sim1 hE1 _ => ?_)
   have hθ1 : θ1 x = some (b, N) := hE1.thUp _ _ hθ
   obtain ⟨lp1, hw1, -, -, -, f4, -, hput1⟩ := put_loop (st' := .busy) sim1.sf.hp hx1 hθ1
   obtain ⟨hEb, hHb⟩ := hput1 .busy none ⟨rfl, rfl⟩
   have hlp : ({ lp1 with state := .busy, pending := none } : Loop) = { lp1 with state := .busy } := by
    have := f4.2
    rw [← this]
   rw [hlp] at hEb hHb
   obtain ⟨simB, hEB⟩ := sim1.turn hx1 hEb hHb
   refine ⟨_, run_beginRound hw1 f4.1, ?_⟩
   show bdy.wpIn (FR (some b)) 0 P _ _ _
   refine hcB.wp (some b) _ _ _ _ _ simB (fun a2 w2 Im2 θ2 sim2 hE2 _ => ?_)
   have hθ2 : θ2 x = some (b, N) := hE2.thUp _ _ hθ1
   obtain ⟨lp2, hw2, -, -, -, -, -, hput2⟩ := put_loop (st' := endSt e2) sim2.sf.hp hx2 hθ2
   have fin : ∀ (st : LoopState) (pe : Option Code), stRel (endSt e2) st pe → R' (.returned (.bool (isNormal e2))) (w2.putObj b (.loop { lp2 with state := st, pending := pe })) := by
    intro st pe hst
    obtain ⟨hEc, hHc⟩ := hput2 st pe hst
    obtain ⟨simC, hEC⟩ := sim2.turn hx2 hEc hHc
    have hE : Ext (fun x => s.nx ≤ x) s.hp.get w Im θ (s2.upd [(x, some (.loopr (endSt e2) vs2 ps2 asg2 bdy2))] s2.nx).hp.get (w2.putObj b (.loop { lp2 with state := st, pending := pe })) Im2 θ2 := by
     have m1 : ∀ y, s1.nx ≤ y → s.nx ≤ y := fun y hy => Nat.le_trans lA.nx hy
     have m2 : ∀ y, s2.nx ≤ y → s.nx ≤ y := fun y hy => Nat.le_trans lAll.nx hy
     exact ((hE1.trans (hEB.mono m1)).trans (hE2.mono m1)).trans (hEC.mono m2)
    exact hR _ Im2 θ2 (frame_sim sim o2 lAll simC.sf.hp simC.fr hE) hE
   cases e2 with
   | normal =>
    exact ⟨_, _, run_endRound none hw2, fin .ready none ⟨rfl, rfl⟩⟩
   | ret =>
    exact ⟨_, _, run_endRound (some .ret) hw2, fin .done (some .ret) ⟨rfl, rfl, by simp⟩⟩
   | exit id =>
    exact ⟨_, _, run_endRound (some (.exit id)) hw2, fin .done (some (.exit id)) ⟨rfl, rfl, by simp⟩⟩
end
end Go.Am
/- The abstract machine: operations one after the other, regions, code. -/
namespace Go.Am
variable {P : Program} {ω : Nat → Value}
theorem args_rel {s : St} {a : Act} {w : World} {Im : Nat → Prop} {θ : Th} (hS : SimF P ω s.size s.tmp s.hp.get a w Im θ) (l : Array Operand) : LRel P ω w Im θ (l.toList.map s.ev) (l.map a.eval).toList := by
 refine ⟨by simp, fun i v u hv hu => ?_⟩
 simp only [List.getElem?_map, Array.getElem?_toList, Option.map_eq_some_iff] at hv
 obtain ⟨c, hc, rfl⟩ := hv
 simp only [Array.toList_map, List.getElem?_map, Array.getElem?_toList, hc, Option.map_some, Option.some.injEq] at hu
 subst hu
 rw [evT_ev]
 exact hS.eval c
theorem put_sim {ρ : Option Nat} {s : St} {a : Act} {w : World} {Im : Nat → Prop} {θ : Th} (sim : Sim P ω ρ s a w Im θ) {dst : Option Nat} (hd : dstN s.size dst) {r : SV} {v : Value} (hv : VRel P ω w Im θ r v) : Sim P ω ρ (s.put dst r) (a.put dst v) w Im θ := by
 refine ⟨put_ok sim.ok hd r, ?_, by rw [put_nx, put_hp]; exact sim.fr, by rw [put_rd]; exact sim.rd⟩
 rw [put_sz, put_hp, tmp_put hd sim.ok.size]
 exact sim.sf.step hd (Ext.refl (fun _ => False)) hv sim.sf.hp
theorem put_later (s : St) (d : Option Nat) (v : SV) : Later s (s.put d v) := Later.of (put_m s d v) (put_nx s d v) (put_hp s d v) (put_dirty s d v)
section
variable {R D : Type} {fl : R} {den : R → Option D} (hfl : den fl = none) {rec : Rcr R} (hrec : RcrOk P den rec) {κ : Nat → Option CSumm} {ι : Nat → Bool} (hκ : KOk P κ)
include hfl hrec hκ
theorem step_run {o : Oper} {s : St} {k : St → R} {d : D} (hs : StOk s) (hd : dstN s.size o.dst) (h : den (stepR fl P κ ι rec o s k) = some d) :
  ∃ s', StOk s' ∧ Later s s' ∧ s'.size = s.size ∧ s'.rd = s.rd ∧ den (k s') = some d ∧
   ∀ (ω : Nat → Value) (ρ : Option Nat) (K : Act → World → Prop) (Q : Exit → Act → World → Prop) (a : Act) (w : World) (Im : Nat → Prop) (θ : Th), Sim P ω ρ s a w Im θ → After P ω ρ s s' a w Im θ K → o.wpIn (FR ρ) 0 P a w K Q := by
 unfold stepR at h
 split at h
 · -- plain
   obtain ⟨r, ups, nx, rs', hm, h2⟩ := interp_run hfl _ _ h
   cases hb : Nat.blt nx 1000000 with
   | false => rw [hb] at h2; exact (fl_no hfl h2).elim
   | true =>
    rw [hb] at h2
    simp only [cond_true] at h2
    have hnx : nx < 1000000 := by rw [Nat.blt_eq] at hb; exact hb
    rw [evT_ev] at hm
    obtain ⟨hle, hkeys⟩ := opM_wf hm
    have hk : ∀ p ∈ ups, p.1 < nx := by
     intro p hp
     rcases hkeys p hp with h3 | h3
     · obtain ⟨c, hc⟩ := mrun_reads _ _ hm p.1 h3
       have := hs.dom _ c hc; omega
     · exact h3.2
    have hk2 : ∀ p ∈ ups, p.1 < 1000000 := fun p hp => by have := hk p hp; omega
    have ou := upd_ok hs hle hnx hk
    have hhp : (s.upd ups nx).hp.get = updF ups s.hp.get := upsTr_get _ _ hk2
    refine ⟨_, put_ok ou hd r, (upd_later hle hk2).trans (put_later _ _ _), by rw [put_sz]; rfl, by rw [put_rd]; rfl, h2, ?_⟩
    intro ω ρ K Q a w Im θ sim hA
    refine op_good hκ sim.sf.hp (fun x _ => sim.sf.eval x) (fun x h1 _ => sim.fr x h1) hm ρ K Q (fun v w' Im' θ' hE hv hH => ?_)
    have hE' : Ext (fun x => s.nx ≤ x) s.hp.get w Im θ (updF ups s.hp.get) w' Im' θ' := hE.mono (fun x hx => hx.1)
    refine hA _ w' Im' θ' ⟨put_ok ou hd r, ?_, ?_, ?_⟩ ?_ (New.refl (put_defers _ _ _))
    · rw [put_sz, put_hp, hhp, tmp_put (s := s.upd ups nx) hd ou.size]
      exact sim.sf.step hd hE hv hH
    · rw [put_nx, put_hp, hhp]
      exact sim.fr.step hle hkeys (mrun_reads _ _ hm) hE
    · rw [put_rd]
      rcases sim.rd with g | ⟨y, b, N, g1, g2, g3⟩
      · exact .inl g
      · exact .inr ⟨y, b, N, g1, hE.thUp _ _ g2, g3⟩
    · rw [put_hp, hhp]; exact hE'
 · -- a call
   rename_i f args hck
   obtain ⟨r, s1, hs1, hl1, e1, e2, e3, h2, ⟨fn, hfn, hn1, hn2⟩, hw⟩ := callIn_run hfl hrec hs h
   have hd1 : dstN s1.size o.dst := by rw [e2]; exact hd
   refine ⟨_, put_ok hs1 hd1 r, hl1.trans (put_later _ _ _), by rw [put_sz, e2], by rw [put_rd, e3], h2, ?_⟩
   intro ω ρ K Q a w Im θ sim hA
   obtain ⟨dst, op, type, pos, after, guard⟩ := o
   unfold callKind at hck
   simp only at hck hd hA hd1
   split at hck
   case h_2 => cases hck
   rename_i c
   split at hck
   case h_3 => cases hck
   case h_2 =>
    rename_i ro m hcal
    split at hck
    case h_2 => cases hck
    rename_i t v hev
    split at hck
    case h_2 => cases hck
    rename_i g hmeth
    cases hi : ι g with
    | false => rw [hi] at hck; cases hck
    | true =>
     rw [hi] at hck
     simp only [cond_true, CallKind.fn.injEq] at hck
     obtain ⟨rfl, rfl⟩ := hck
     obtain ⟨callee, cargs, argTypes⟩ := c
     simp only at hcal
     subst hcal
     have hf := sim.sf.eval ro
     rw [← evT_ev, hev] at hf
     generalize hu : a.eval ro = u at hf
     cases hf with
     | iface hv =>
      rename_i u'
      have hl : LRel P ω w Im θ (v :: cargs.toList.map s.ev) (u' :: (cargs.map a.eval).toList) := by
       refine ⟨by simp, fun i x y hx hy => ?_⟩
       cases i with
       | zero => cases hx; cases hy; exact hv
       | succ i => exact (args_rel sim.sf cargs).at_ i x y hx hy
      have hrun : (execOp a.eval { dst := dst, op := .call { callee := .invoke ro m, args := cargs, argTypes := argTypes }, type := type, pos := pos, after := after, guard := guard }).run P w = .ok (.enter g (u' :: (cargs.map a.eval).toList).toArray) w := by
       have e : (u' :: (cargs.map a.eval).toList).toArray = #[u'] ++ cargs.map a.eval := by
        apply Array.ext'
        simp
       rw [e]
       have hi := run_invoke hmeth hfn hn1 hn2 u' (cargs.map a.eval) w
       simp only [execOp, resolve, hu, pure_bind]
       exact hi
      refine ⟨fun f _ => FR_fn ρ f, ?_⟩
      rw [Oper.semAt_eq _ _ _ (fun c hc => by cases hc), hrun, Oper.uponIn_enter]
      refine ⟨FR_depth1 ρ, ?_⟩
      refine hw _ ρ a w Im θ _ _ sim hl (fun v w' Im' θ' sim' hE hv => ?_)
      exact hA _ w' Im' θ' (put_sim sim' hd1 hv) (by rw [put_hp]; exact hE) (New.refl (put_defers _ _ _))
   rename_i fo hcal
   split at hck
   case h_1 => cases hck
   case h_3 => cases hck
   rename_i g first caps hev
   cases hi : ι g with
   | false => rw [hi] at hck; cases hck
   | true =>
    rw [hi] at hck
    simp only [cond_true, CallKind.fn.injEq] at hck
    obtain ⟨rfl, rfl⟩ := hck
    obtain ⟨callee, cargs, argTypes⟩ := c
    simp only at hcal
    subst hcal
    have hf := sim.sf.eval fo
    rw [← evT_ev, hev] at hf
    generalize hu : a.eval fo = u at hf
    cases hf with
    | fn h1 h2 h3 h4 =>
     rename_i us vs
     have hl : LRel P ω w Im θ (first ++ (cargs.toList.map s.ev ++ caps)) (us.toList ++ ((cargs.map a.eval).toList ++ vs.toList)) :=
      LRel.append ⟨by simpa using h1, fun i v u hv hu => h3 i v u hv (by simpa using hu)⟩ (LRel.append (args_rel sim.sf cargs) ⟨by simpa using h2, fun i v u hv hu => h4 i v u hv (by simpa using hu)⟩)
     have hrun : (execOp a.eval { dst := dst, op := .call { callee := .value fo, args := cargs, argTypes := argTypes }, type := type, pos := pos, after := after, guard := guard }).run P w = .ok (.enter g (us.toList ++ ((cargs.map a.eval).toList ++ vs.toList)).toArray) w := by
      have e : (us.toList ++ ((cargs.map a.eval).toList ++ vs.toList)).toArray = us ++ cargs.map a.eval ++ vs := by
       apply Array.ext'
       simp
      rw [e]
      have hn1' : ¬ fn.name = "runtime.NumGoroutine" := by simpa using hn1
      have hn2' : ¬ fn.body = none := by intro hh; simp [hh] at hn2
      simp [execOp, resolve, hu, Deferred.ofValue, invoke, callFunc, hfn, hn1', hn2']
     refine ⟨fun f _ => FR_fn ρ f, ?_⟩
     rw [Oper.semAt_eq _ _ _ (fun c hc => by cases hc), hrun, Oper.uponIn_enter]
     refine ⟨FR_depth1 ρ, ?_⟩
     refine hw _ ρ a w Im θ _ _ sim hl (fun v w' Im' θ' sim' hE hv => ?_)
     exact hA _ w' Im' θ' (put_sim sim' hd1 hv) (by rw [put_hp]; exact hE) (New.refl (put_defers _ _ _))
 · -- a round
   rename_i x args hck
   obtain ⟨r, s1, hs1, hl1, e1, e2, e3, h2, hw⟩ := roundIn_run hfl hrec hs h
   have hd1 : dstN s1.size o.dst := by rw [e2]; exact hd
   refine ⟨_, put_ok hs1 hd1 (.bool r), hl1.trans (put_later _ _ _), by rw [put_sz, e2], by rw [put_rd, e3], h2, ?_⟩
   intro ω ρ K Q a w Im θ sim hA
   obtain ⟨dst, op, type, pos, after, guard⟩ := o
   unfold callKind at hck
   simp only at hck hd hA hd1
   split at hck
   case h_2 => cases hck
   rename_i c
   split at hck
   case h_3 => cases hck
   case h_2 =>
    split at hck
    case h_2 => cases hck
    split at hck
    case h_2 => cases hck
    rename_i g hmeth
    cases hi : ι g <;> rw [hi] at hck <;> cases hck
   rename_i fo hcal
   split at hck
   case h_3 => cases hck
   case h_2 =>
    rename_i g first caps hev
    cases hi : ι g <;> rw [hi] at hck <;> cases hck
   rename_i x' hev
   simp only [CallKind.yl.injEq] at hck
   obtain ⟨rfl, rfl⟩ := hck
   obtain ⟨callee, cargs, argTypes⟩ := c
   simp only at hcal
   subst hcal
   have hf := sim.sf.eval fo
   rw [← evT_ev, hev] at hf
   generalize hu : a.eval fo = u at hf
   cases hf with
   | yl hθ =>
    rename_i b N
    obtain ⟨lp, hlp, hsz, hround⟩ := hw _ ρ a w Im θ (cargs.map a.eval).toList b N (fun
     | .returned v, w'' => K (a.put dst v) w''
     | .panicked chain, w'' => Q (.panic chain) a w''
     | .outgrown, _ => LetsOut Q) sim (args_rel sim.sf cargs) hθ (fun w' Im' θ' sim' hE => hA _ w' Im' θ' (put_sim sim' hd1 .bool) (by rw [put_hp]; exact hE) (New.refl (put_defers _ _ _)))
    have hrun : (execOp a.eval { dst := dst, op := .call { callee := .value fo, args := cargs, argTypes := argTypes }, type := type, pos := pos, after := after, guard := guard }).run P w =
      .ok (.round b lp.fn ((lp.params.zip (cargs.map a.eval)).foldl (fun tmps (t, a) => tmps.setIfInBounds t a) lp.tmps) lp.assign lp.body) w := by
     have hy := run_yield (P := P) (args := cargs.map a.eval) hlp (by simpa using hsz)
     simp [execOp, resolve, hu, Deferred.ofValue, invoke, hy]
    refine ⟨fun f _ => FR_fn ρ f, ?_⟩
    rw [Oper.semAt_eq _ _ _ (fun c hc => by cases hc), hrun, Oper.uponIn_round]
    refine ⟨FR_depth1 ρ, ?_⟩
    have e : ((cargs.map a.eval).toList).toArray = cargs.map a.eval := Array.toArray_toList ..
    rw [e] at hround
    exact hround
end
end Go.Am
/- The abstract machine: regions and code: what is carried out is right. -/
namespace Go.Am
variable {P : Program} {ω : Nat → Value}
section
variable {R D : Type} {fl : R} {den : R → Option D} (hfl : den fl = none) {rec : Rcr R} (hrec : RcrOk P den rec) {κ : Nat → Option CSumm} {ι : Nat → Bool} (hκ : KOk P κ)
include hfl hrec hκ
theorem opsQ_run {all : List Oper} {k : St → R} {d : D} : ∀ (os : List Oper) (i : Nat) (s : St), all.drop i = os → StOk s → den (opsQ fl P κ ι rec all k os s) = some d →
  ∃ s', StOk s' ∧ Later s s' ∧ s'.size = s.size ∧ s'.rd = s.rd ∧ den (k s') = some d ∧
   ∀ (ω : Nat → Value) (ρ : Option Nat) (Q : Exit → Act → World → Prop) (a : Act) (w : World) (Im : Nat → Prop) (θ : Th), Sim P ω ρ s a w Im θ → After P ω ρ s s' a w Im θ (Q .normal) → wpOpsIn (FR ρ) 0 P all.toArray Q (List.range' i os.length) a w
 | [], i, s, _, hs, h => ⟨s, hs, Later.refl s, rfl, rfl, h, fun ω ρ Q a w Im θ sim hA => hA a w Im θ sim (Ext.refl _) (New.refl rfl)⟩
 | o :: os, i, s, hall, hs, h => by
  simp only [opsQ] at h
  have ho : all[i]? = some o := by
   have := congrArg (·[0]?) hall
   simpa using this
  have hall' : all.drop (i + 1) = os := by
   have := congrArg List.tail hall
   simpa using this
  cases hd : dstOk s o.dst with
  | false => rw [hd] at h; exact (fl_no hfl h).elim
  | true =>
   rw [hd] at h
   simp only [cond_true] at h
   have hdN := dstOk_N hd
   obtain ⟨s1, go, hal, hw, h1⟩ := guard_run hfl hs.size h
   have hs1 := hal.ok hs
   have hd1 : dstN s1.size o.dst := by rw [hal.size]; exact hdN
   cases go with
   | true =>
    simp only [cond_true] at h1
    obtain ⟨s2, hs2, hl2, z2, r2, h2, hwp⟩ := step_run hfl hrec hκ hs1 hd1 h1
    obtain ⟨s3, hs3, hl3, z3, r3, h3, hwp3⟩ := opsQ_run os (i + 1) s2 hall' hs2 h2
    refine ⟨s3, hs3, (hal.later.trans hl2).trans hl3, by rw [z3, z2, hal.size], by rw [r3, r2, hal.rd], h3, fun ω ρ Q a w Im θ sim hA => ?_⟩
    simp only [List.length_cons, List.range'_succ, wpOpsIn, List.getElem?_toArray, ho]
    rw [wanted_eq sim.sf hw]
    simp only [if_true]
    have hA1 : After P ω ρ s1 s3 a w Im θ (Q .normal) := After.trans hal.later (by rw [hal.hp]; exact Ext.refl _) (New.refl rfl) hA
    refine hwp ω ρ _ Q a w Im θ (hal.sim sim) (fun a' w' Im' θ' sim' hE hN => ?_)
    exact hwp3 ω ρ Q a' w' Im' θ' sim' (After.trans hl2 hE hN hA1)
   | false =>
    simp only [cond_false] at h1
    obtain ⟨s3, hs3, hl3, z3, r3, h3, hwp3⟩ := opsQ_run os (i + 1) _ hall' (put_ok hs1 hd1 (.tup [])) h1
    refine ⟨s3, hs3, (hal.later.trans (put_later _ _ _)).trans hl3, by rw [z3, put_sz, hal.size], by rw [r3, put_rd, hal.rd], h3, fun ω ρ Q a w Im θ sim hA => ?_⟩
    simp only [List.length_cons, List.range'_succ, wpOpsIn, List.getElem?_toArray, ho]
    rw [wanted_eq sim.sf hw]
    simp only [Bool.false_eq_true, if_false]
    refine ⟨fun f _ => FR_fn ρ f, ?_⟩
    refine hwp3 ω ρ Q _ w Im θ (put_sim (hal.sim sim) hd1 (.tup rfl (fun i v u hv _ => by simp at hv))) ?_
    exact After.trans (hal.later.trans (put_later _ _ _)) (by rw [put_hp, hal.hp]; exact Ext.refl _) (New.refl (put_defers _ _ _)) hA
omit hrec hκ in
theorem opsR_run {all : List Oper} {k : St → List Foot → R} {d : D} : ∀ (os : List Oper) (i : Nat) (s : St) (acc : List Foot), StOk s → den (opsR fl P κ all k os i s acc) = some d →
  ∃ recs s', Txt P κ all s.size os s.tmp s.hp.get s.nx recs s'.tmp s'.hp.get s'.nx ∧ StOk s' ∧ s'.size = s.size ∧ s'.rd = s.rd ∧ Later s s' ∧ den (k s' (feet i recs acc)) = some d
 | [], i, s, acc, hs, h => ⟨[], s, .nil, hs, rfl, rfl, Later.refl s, h⟩
 | o :: os, i, s, acc, hs, h => by
  simp only [opsR] at h
  cases hd : dstOk s o.dst with
  | false => rw [hd] at h; exact (fl_no hfl h).elim
  | true =>
   rw [hd] at h
   simp only [cond_true] at h
   have hdN := dstOk_N hd
   obtain ⟨s1, go, hal, hw, h1⟩ := guard_run hfl hs.size h
   have hs1 := hal.ok hs
   have hd1 : dstN s1.size o.dst := by rw [hal.size]; exact hdN
   cases go with
   | true =>
    simp only [cond_true] at h1
    obtain ⟨r, ups, nx, rs', hm, h2⟩ := interp_run hfl _ _ h1
    cases hb : Nat.blt nx 1000000 with
    | false => rw [hb] at h2; exact (fl_no hfl h2).elim
    | true =>
     rw [hb] at h2
     simp only [cond_true, List.nil_append] at h2
     have hnx : nx < 1000000 := by rw [Nat.blt_eq] at hb; exact hb
     rw [evT_ev] at hm
     obtain ⟨hle, hkeys⟩ := opM_wf hm
     have hk : ∀ p ∈ ups, p.1 < nx := by
      intro p hp
      rcases hkeys p hp with h3 | h3
      · obtain ⟨c, hc⟩ := mrun_reads _ _ hm p.1 h3
        have := hs1.dom _ c hc; omega
      · exact h3.2
     have hk2 : ∀ p ∈ ups, p.1 < 1000000 := fun p hp => by have := hk p hp; omega
     have ou := upd_ok hs1 hle hnx hk
     have hhp : (s1.upd ups nx).hp.get = updF ups s1.hp.get := upsTr_get _ _ hk2
     obtain ⟨recs, s', ht, hs', g1, g2, g3, g6⟩ := opsR_run os (i + 1) _ _ (put_ok ou hd1 r) h2
     rw [put_sz, put_hp, put_nx, hhp, tmp_put (s := s1.upd ups nx) hd1 ou.size] at ht
     rw [hal.tmp, hal.hp, hal.nx] at hm
     have ht' : Txt P κ all s.size os (updT s.tmp o.dst r) (updF ups s.hp.get) nx recs s'.tmp s'.hp.get s'.nx := by
      rw [← hal.tmp, ← hal.hp, ← hal.size]; exact ht
     refine ⟨_ :: recs, s', .run hdN hw hm ht', hs', by rw [g1, put_sz]; exact hal.size, by rw [g2, put_rd]; exact hal.rd, ((hal.later.trans (upd_later hle hk2)).trans (put_later _ _ _)).trans g3, ?_⟩
     simpa [feet] using g6
   | false =>
    simp only [cond_false] at h1
    obtain ⟨recs, s', ht, hs', g1, g2, g3, g6⟩ := opsR_run os (i + 1) _ _ (put_ok hs1 hd1 (.tup [])) h1
    rw [put_sz, put_hp, put_nx, tmp_put hd1 hs1.size, hal.tmp, hal.hp, hal.nx, hal.size] at ht
    exact ⟨_ :: recs, s', .skip hdN hw ht, hs', by rw [g1, put_sz, hal.size], by rw [g2, put_rd, hal.rd], (hal.later.trans (put_later _ _ _)).trans g3, by simpa [feet] using g6⟩
omit hfl hrec hκ in
theorem cnt_le_n (D : Nat → Bool) : ∀ n, cnt D n ≤ n
 | 0 => Nat.le_refl _
 | n + 1 => by have := cnt_le_n D n; simp only [cnt]; split <;> omega
omit hfl hrec hκ in
theorem drew_same {Im : Nat → Prop} {w : World} : ∀ b, Im b → Im b ∧ ({ w with drawn := w.drawn + 1 } : World).heap[b]? = w.heap[b]? := fun _ hb => ⟨hb, rfl⟩
omit hfl hrec hκ in
theorem Ext.drew {new : Nat → Prop} {h : HpF} {w : World} {Im : Nat → Prop} {θ : Th} : Ext new h w Im θ h { w with drawn := w.drawn + 1 } Im θ where
 thOld _ _ := rfl
 thUp _ _ h := h
 imUp _ h := h
 size := Nat.le_refl _
 keep _ _ _ := rfl
 imNew _ h := .inl h
 ownNew x c _ N h1 h2 := .inl ⟨x, c, N, h1, h2⟩
 os := rfl
 output := rfl
 tape := rfl
 drawn := Nat.le_succ _
omit hfl hrec hκ in
theorem SimF.drew {n : Nat} {T : Nat → SV} {h : HpF} {a : Act} {w : World} {Im : Nat → Prop} {θ : Th} (s : SimF P ω n T h a w Im θ) : SimF P ω n T h a { w with drawn := w.drawn + 1 } Im θ := by
 refine ⟨s.size, fun t ht => (s.tm t ht).mono drew_same (fun _ _ h => h), s.out, s.df.step (Ext.drew (new := fun _ => False)), ?_⟩
 exact ⟨fun x c hx => (s.hp.at_ x c hx).mono drew_same (fun _ _ h => h) rfl (fun _ _ _ => rfl), s.hp.inj, s.hp.own, s.hp.im, s.hp.gl.mono drew_same⟩
omit hfl hrec in
theorem txt_comes (hmix : P.follows .mixedOrders = true) {id : Nat} {ops : Array Oper} {draw : Bool} {s s' : St} {recs : List Rec} {T' : Nat → SV} (hs : StOk s) (hs' : StOk s') (hl : Later s s') (hz : s'.size = s.size) (hrd : s'.rd = s.rd)
  (ht : Txt P κ ops.toList s.size ops.toList s.tmp s.hp.get s.nx recs T' s'.hp.get s'.nx) (hT : ∀ t, s'.tmp t = .junk ∨ s'.tmp t = T' t)
  (hdr : draw = true → staticOk ops.toList (befAll ops.toList []) [] ops.toList 0 = true ∧ footsOk (befAll ops.toList []) (feet 0 recs []) = true) : Comes P (.region id ops draw) s .normal s' := by
 refine ⟨hl, hz, hrd, 0, fun ω ρ Q a w Im θ sim hA => ?_⟩
 have fin : ∀ (a' : Act) (w' : World) (Im' : Nat → Prop) (θ' : Th), SimF P ω s.size T' s'.hp.get a' w' Im' θ' → Fr s'.nx θ' s'.hp.get → a'.defers = a.defers → Ext (fun x => s.nx ≤ x) s.hp.get w Im θ s'.hp.get w' Im' θ' → Q .normal a' w' := by
  intro a' w' Im' θ' hS hF hdf hE
  refine hA a' w' Im' θ' ⟨hs', by rw [hz]; exact hS.weaken hT, hF, ?_⟩ hE (New.refl hdf)
  rw [hrd]
  rcases sim.rd with g | ⟨y, b, N, g1, g2, g3⟩
  · exact .inl g
  · exact .inr ⟨y, b, N, g1, hE.thUp _ _ g2, g3⟩
 show (Code.region id ops draw).wpIn (FR ρ) 0 P Q a w
 cases draw with
 | false =>
  refine wpIn_region ?_
  have hsnd := seq_sound (P := P) hκ (nx0 := s.nx) (ro := ρ) (Q := Q) (ds := a.defers) ht 0 a w Im θ (by simp) rfl sim.sf sim.fr (Nat.le_refl _) (w0 := w) (Im0 := Im) (θ0 := θ) (h0 := s.hp.get) (Ext.refl _) (fun a' w' Im' θ' hdf hS hF hn hE =>
   fin a' w' Im' θ' hS hF hdf hE)
  simpa [List.range_eq_range'] using hsnd
 | true =>
  obtain ⟨hst, hf⟩ := hdr rfl
  refine wpIn_region_any hmix ?_
  have hS := sim.sf.drew
  have hz' : ∀ j, 0 ≤ j → (fun _ : Nat => false) j = false := fun _ _ => rfl
  refine any_sound (P := P) (ω := ω) hκ (all := ops.toList) (nxs := s.nx) (ro := ρ) (ds := a.defers) ht hs.dom (Nat.le_refl _) (static_of hst) hf (Q := Q) (hs := s.hp.get) (ws := w) (Ims := Im) (θs := θ) ?_ ops.size (fun _ => false) (Array.replicate ops.size false) a { w with drawn := w.drawn + 1 } Im θ ?_ (by simp) ?_ (fun _ _ => rfl) (fun i hi => by cases hi) rfl ?_ ?_ ?_
  · intro a' w' Im' θ' hdf hS' hF hn hE'
    exact fin a' w' Im' θ' hS' hF hdf hE'
  · have := cnt_le_n (fun _ => false) ops.toList.length
    simpa using this
  · intro i hi
    simp at hi
    simp [hi]
  · rw [TD_none _ _ _ _ hz', HD_none _ _ _ _ hz']; exact hS
  · intro x hx
    left
    rw [HD_none _ _ _ _ hz'] at hx
    rcases Nat.lt_or_ge x s.nx with h1 | h1
    · exact h1
    · obtain ⟨f1, f2⟩ := sim.fr x h1
      rcases hx with hx | hx
      · exact absurd f1 hx
      · exact absurd f2 hx
  · rw [HD_none _ _ _ _ hz']; exact Ext.drew
theorem region_run (hmix : P.follows .mixedOrders = true) {id : Nat} {ops : Array Oper} {draw : Bool} {s : St} {k : St → R} {d : D} (hs : StOk s) (h : den (regionC fl P κ ι rec ops draw k s) = some d) :
  ∃ s', StOk s' ∧ Comes P (.region id ops draw) s .normal s' ∧ den (k s') = some d := by
 unfold regionC at h
 cases hsp : specRun P κ ops.toList draw s with
 | some s' =>
  simp only [hsp] at h
  obtain ⟨hst, recs, Ta, ht, hups, hs', g1, g2, g3, g4, g5, g6⟩ := specRun_run hs hsp
  have g7 : s'.rd = s.rd := specRun_rd hsp
  refine ⟨s', hs', txt_comes hκ hmix hs hs' (Later.of g4 g3 g2 g5) g1 g7 (by rw [g2, g3]; exact ht) g6 (fun hd => ⟨hst hd, footsOk_nil _ _ (feet_nil recs 0 [] hups (fun f h => by cases h))⟩), h⟩
 | none =>
  simp only [hsp] at h
  unfold regionB at h
  cases draw with
  | false =>
   simp only [cond_false] at h
   obtain ⟨s', hs', hl, hz, hr, h1, hwp⟩ := opsQ_run hfl hrec hκ ops.toList 0 s (by simp) hs h
   refine ⟨s', hs', ⟨hl, hz, hr, 0, fun ω ρ Q a w Im θ sim hA => ?_⟩, h1⟩
   show (Code.region id ops false).wpIn (FR ρ) 0 P Q a w
   refine wpIn_region ?_
   have := hwp ω ρ Q a w Im θ sim hA
   simpa [List.range_eq_range'] using this
  | true =>
   simp only [cond_true] at h
   cases hst : staticOk ops.toList (befAll ops.toList []) [] ops.toList 0 with
   | false => rw [hst] at h; exact (fl_no hfl h).elim
   | true =>
    rw [hst] at h
    simp only [cond_true] at h
    obtain ⟨recs, s', ht, hs', hz, hr, hl, h1⟩ := opsR_run hfl _ _ _ _ hs h
    cases hf : footsOk (befAll ops.toList []) (feet 0 recs []) with
    | false => rw [hf] at h1; exact (fl_no hfl h1).elim
    | true =>
     rw [hf] at h1
     simp only [cond_true] at h1
     exact ⟨s', hs', txt_comes hκ hmix hs hs' hl hz hr ht (fun t => .inr rfl) (fun _ => ⟨hst, hf⟩), h1⟩
end
end Go.Am
/- The abstract machine: a range over a function. -/
namespace Go.Am
variable {P : Program} {ω : Nat → Value}
theorem enter_range {ρ : Option Nat} {s : St} {a : Act} {w : World} {Im : Nat → Prop} {θ : Th} (sim : Sim P ω ρ s a w Im θ) (hrd : rdOk s = true) (hnx : s.nx + 1 < 1000000) (ps : Array Nat) (asg bdy : Code) (fn : FuncId) :
  ∃ (l : Nat) (mk : List Nat) (w1 : World) (θ1 : Th), (Instr.enterLoop fn a.tmps ps asg bdy ρ).run P w = .ok (l, mk.map mark) w1 ∧
   Sim P ω ρ (s.upd [(s.nx, some (.loopr .ready (listOfTr s s.size 0) ps asg bdy))] (s.nx + 1)) { a with defers := mk.map mark ++ a.defers } w1 Im θ1 ∧
   Ext (fun x => s.nx ≤ x) s.hp.get w Im θ (s.upd [(s.nx, some (.loopr .ready (listOfTr s s.size 0) ps asg bdy))] (s.nx + 1)).hp.get w1 Im θ1 ∧ θ1 s.nx = some (l, 0) ∧ ∀ r ∈ mk, w.heap.size ≤ r := by
 have hs := sim.ok
 have hk : ∀ p ∈ [(s.nx, some (Chunk.loopr .ready (listOfTr s s.size 0) ps asg bdy))], p.1 < s.nx + 1 := by
  intro p hp
  simp only [List.mem_singleton] at hp
  subst hp; exact Nat.lt_succ_self _
 have ou := upd_ok hs (Nat.le_succ _) hnx hk
 have hhp : (s.upd [(s.nx, some (.loopr .ready (listOfTr s s.size 0) ps asg bdy))] (s.nx + 1)).hp.get = updF [(s.nx, some (.loopr .ready (listOfTr s s.size 0) ps asg bdy))] s.hp.get :=
  upsTr_get _ _ (fun p hp => by have := hk p hp; omega)
 obtain ⟨f1, f2⟩ := sim.fr s.nx (Nat.le_refl _)
 -- what both ways have in common
 have core : ∀ (wA : World) (lp : Loop), Ext (fun _ => False) s.hp.get w Im θ s.hp.get wA Im θ → HRel P ω wA Im θ s.hp.get → lp.tmps = a.tmps → lp.params = ps → lp.assign = asg → lp.body = bdy → lp.state = .ready → lp.pending = none →
   ∃ θ1, Ext (fun x => s.nx ≤ x) s.hp.get w Im θ (s.upd [(s.nx, some (.loopr .ready (listOfTr s s.size 0) ps asg bdy))] (s.nx + 1)).hp.get (wA.alloc (.loop lp)) Im θ1 ∧
    HRel P ω (wA.alloc (.loop lp)) Im θ1 (s.upd [(s.nx, some (.loopr .ready (listOfTr s s.size 0) ps asg bdy))] (s.nx + 1)).hp.get ∧ θ1 s.nx = some (wA.heap.size, 0) ∧ (∀ x, x ≠ s.nx → θ1 x = θ x) ∧
    (∀ ds, Mk (wA.alloc (.loop lp)) Im θ1 (s.upd [(s.nx, some (.loopr .ready (listOfTr s s.size 0) ps asg bdy))] (s.nx + 1)).hp.get ds →
     Sim P ω ρ (s.upd [(s.nx, some (.loopr .ready (listOfTr s s.size 0) ps asg bdy))] (s.nx + 1)) { a with defers := ds } (wA.alloc (.loop lp)) Im θ1) := by
  intro wA lp hE hH h1 h2 h3 h4 h5 h6
  have hSA : SimF P ω s.size s.tmp s.hp.get a wA Im θ := sim.sf.step (dst := none) trivial hE (VRel'.junk (u := undef)) hH
  obtain ⟨θ1, g1, g2, g3⟩ := alloc_loop (st := .ready) hH f1 (lp := lp) (vs := listOfTr s s.size 0) (by rw [h1]; exact list_rel hSA) ⟨h5, h6⟩
  rw [h2, h3, h4, ← hhp] at g1 g2
  have hEE : Ext (fun x => s.nx ≤ x) s.hp.get w Im θ (s.upd [(s.nx, some (.loopr .ready (listOfTr s s.size 0) ps asg bdy))] (s.nx + 1)).hp.get (wA.alloc (.loop lp)) Im θ1 :=
   (hE.mono (fun _ h => h.elim)).trans (g1.mono (fun x hx => hx.1))
  refine ⟨θ1, hEE, g2, g3, fun x hx => g1.thOld x (fun hh => hx (by omega)), fun ds hds => ⟨ou, ⟨sim.sf.size, fun t ht => hEE.val sim.sf.hp (sim.sf.tm t ht), sim.sf.out, hds, g2⟩, ?_, ?_⟩⟩
  · rw [hhp]
    intro y hy
    have hy' : s.nx + 1 ≤ y := hy
    obtain ⟨k1, k2⟩ := sim.fr y (by omega)
    have hne : y ≠ s.nx := by omega
    refine ⟨by rw [g1.thOld y (fun hh => by omega)]; exact k1, by simp [updF, hne, k2]⟩
  · rcases sim.rd with h | ⟨y, b, N, k1, k2, k3⟩
    · exact .inl h
    · exact .inr ⟨y, b, N, k1, hEE.thUp _ _ k2, k3⟩
 rcases sim.rd with ⟨hr0, rfl⟩ | ⟨y, b, N, k1, k2, rfl⟩
 · -- the outermost
   obtain ⟨hE, hH⟩ := alloc_free sim.sf.hp (.deferred (some []))
   obtain ⟨θ1, g1, g2, g3, g4, g5⟩ := core _ { state := .ready, pending := none, fn := fn, tmps := a.tmps, params := ps, assign := asg, body := bdy, defers := w.heap.size } hE hH rfl rfl rfl rfl rfl rfl
   refine ⟨_, [w.heap.size], _, θ1, run_enterLoop_outer fn a.tmps ps asg bdy, g5 _ ?_, g1, by rw [g3]; simp, fun r hr => by simp at hr; omega⟩
   obtain ⟨rs, base, h1, hb, h2, h3⟩ := sim.sf.df.step g1
   refine ⟨w.heap.size :: rs, base, by simp [h1, mark], hb, List.nodup_cons.2 ⟨fun hh => ?_, h2⟩, fun r hr => ?_⟩
   · obtain ⟨rs', base', h1', hb', -, h3'⟩ := sim.sf.df
     have : mark w.heap.size ∈ a.defers := by rw [h1]; exact List.mem_append.2 (.inl (List.mem_map.2 ⟨_, hh, rfl⟩))
     rw [h1'] at this
     rcases List.mem_append.1 this with this | this
     case inr => exact (hb' _ this _ rfl).elim
     obtain ⟨q, hq, e⟩ := List.mem_map.1 this
     simp only [mark, Deferred.mk.injEq, Target.collected.injEq, and_true] at e
     have := heap_lt (h3' q hq).1
     omega
   · rcases List.mem_cons.1 hr with rfl | hr
     · refine ⟨?_, fun hi => ?_, fun x c M hx hθ => ?_⟩
       · rw [alloc_old _ _ _ (by simp), alloc_new]
       · have := sim.sf.hp.im _ hi; omega
       · by_cases hxn : x = s.nx
         · subst hxn
           rw [g3] at hθ
           simp only [Option.some.injEq, Prod.mk.injEq, World.size_alloc] at hθ
           omega
         · rw [g4 x hxn] at hθ
           rw [hhp] at hx
           simp only [updF, if_neg hxn] at hx
           have := (sim.sf.hp.own x c _ M hx hθ).2
           omega
     · exact h3 r hr
 · -- in a round
   have hl : ∃ lp : Loop, w.heap[b]? = some (.loop lp) := by
    unfold rdOk at hrd
    rw [k1] at hrd
    simp only [] at hrd
    split at hrd
    · rename_i hy
      obtain ⟨b', N', lp, j1, j2, -⟩ := sim.sf.hp.at_ y _ hy
      rw [k2] at j1
      simp only [Option.some.injEq, Prod.mk.injEq] at j1
      exact ⟨lp, by rw [j1.1]; exact j2⟩
    · cases hrd
   obtain ⟨lp, hlp⟩ := hl
   obtain ⟨θ1, g1, g2, g3, g4, g5⟩ := core w { state := .ready, pending := none, fn := fn, tmps := a.tmps, params := ps, assign := asg, body := bdy, defers := lp.defers } (Ext.refl _) sim.sf.hp rfl rfl rfl rfl rfl rfl
   exact ⟨_, [], _, θ1, run_enterLoop_inner hlp fn a.tmps ps asg bdy, g5 _ (sim.sf.df.step g1), g1, g3, fun r hr => by cases hr⟩
section
variable {R D : Type} {fl : R} {den : R → Option D} (hfl : den fl = none) {rec : Rcr R} (hrec : RcrOk P den rec) {κ : Nat → Option CSumm} {ι : Nat → Bool}
include hfl hrec
theorem range_run {g : Operand} {ps : Array Tmp} {asg bdy : Code} {s : St} {k : Ex → St → R} {d : D} (hs : StOk s) (h : den (execC fl P κ ι rec (.rangeFunc g ps asg bdy) s k) = some d) :
  ∃ e s2, StOk s2 ∧ Comes P (.rangeFunc g ps asg bdy) s e s2 ∧ den (k e s2) = some d := by
 simp only [execC] at h
 split at h
 case h_2 => exact (fl_no hfl h).elim
 rename_i f first caps hg
 cases hc : rdOk s && Nat.blt (s.nx + 1) 1000000 with
 | false => rw [hc] at h; exact (fl_no hfl h).elim
 | true =>
  rw [hc] at h
  simp only [cond_true] at h
  simp only [Bool.and_eq_true] at hc
  have hnx : s.nx + 1 < 1000000 := by have := hc.2; rwa [Nat.blt_eq] at this
  have hk : ∀ p ∈ [(s.nx, some (Chunk.loopr .ready (listOfTr s s.size 0) ps asg bdy))], p.1 < s.nx + 1 := by
   intro p hp
   simp only [List.mem_singleton] at hp
   subst hp; exact Nat.lt_succ_self _
  have ou := upd_ok hs (Nat.le_succ _) hnx hk
  have ol : Later s (s.upd [(s.nx, some (Chunk.loopr .ready (listOfTr s s.size 0) ps asg bdy))] (s.nx + 1)) := upd_later (Nat.le_succ _) (fun p hp => by have := hk p hp; omega)
  obtain ⟨r, s1, hs1, hl1, e1, e2, e3, h2, ⟨fnc, hfn, hn1, hn2⟩, hw⟩ := callIn_run hfl hrec ou h
  -- the end of it
  have fin : ∀ (st : LS) (e : Ex) (vs1 : List SV) (ps1 : Array Nat) (asg1 bdy1 : Code), s1.hp.get s.nx = some (.loopr st vs1 ps1 asg1 bdy1) → ((st = .ready ∧ e = .normal) ∨ st = .done e) →
    StOk (s1.upd [(s.nx, none)] s1.nx) ∧ Comes P (.rangeFunc g ps asg bdy) s e (s1.upd [(s.nx, none)] s1.nx) := by
   intro st e vs1 ps1 asg1 bdy1 hx1 hst
   obtain ⟨o2, l2, g2⟩ := turn_ok none hx1 hs1
   refine ⟨o2, (ol.trans hl1).trans l2, e2, e3, 0, fun ω ρ Q a w Im θ sim hA => ?_⟩
   show (Code.rangeFunc g ps asg bdy).wpIn (FR ρ) 0 P Q a w
   refine wpIn_rangeFunc (fun fn _ => ?_)
   obtain ⟨l, mk, w1, θ1, hen, sim0, hE0, hθ1, hmk⟩ := enter_range sim hc.1 hnx ps asg bdy fn
   have hf := sim.sf.eval g
   rw [← evT_ev, hg] at hf
   generalize hu : a.eval g = u at hf
   cases hf with
   | fn h1 h3 h4 h5 =>
    rename_i us vs
    have lift : ∀ {v : SV} {u : Value}, VRel P ω w Im θ v u → VRel P ω w1 Im θ1 v u := fun hv => hE0.val sim.sf.hp hv
    have hl : LRel P ω w1 Im θ1 (first ++ ([.yl s.nx] ++ caps)) (us.toList ++ ([.func (.yield l) #[] #[]] ++ vs.toList)) := by
     refine LRel.append ⟨by simpa using h1, fun i v u hv hu => lift (h4 i v u hv (by simpa using hu))⟩ (LRel.append ⟨rfl, fun i v u hv hu => ?_⟩ ⟨by simpa using h3, fun i v u hv hu => lift (h5 i v u hv (by simpa using hu))⟩)
     match i, hv, hu with
     | 0, hv, hu => cases hv; cases hu; exact .yl hθ1
    have ee : (us.toList ++ ([Value.func (.yield l) #[] #[]] ++ vs.toList)).toArray = us ++ #[Value.func (.yield l) #[] #[]] ++ vs := by
     apply Array.ext'
     simp
    have hn1' : ¬ fnc.name = "runtime.NumGoroutine" := by simpa using hn1
    have hn2' : ¬ fnc.body = none := by intro hh; simp [hh] at hn2
    refine ⟨l, mk.map mark, w1, { target := .fn (.func f) vs, args := us ++ #[.func (.yield l) #[] #[]] }, w1, f, (us.toList ++ ([Value.func (.yield l) #[] #[]] ++ vs.toList)).toArray, w1, hen, ?_, fun f' _ => FR_fn ρ f', ?_, FR_depth1 ρ, ?_⟩
    · have hcst : a.eval (.const (.func (.yield l) #[] #[])) = .func (.yield l) #[] #[] := rfl
      simp [resolve, hu, Deferred.ofValue, hcst]
    · rw [ee]
      simp [invoke, callFunc, hfn, hn1', hn2']
    · refine hw _ ρ { a with defers := mk.map mark ++ a.defers } w1 Im θ1 _ _ sim0 hl (fun v w' Im' θ' sim' hE hv => ?_)
      have hθ' : θ' s.nx = some (l, 0) := hE.thUp _ _ hθ1
      obtain ⟨b', N', lp', j1, j2, -, -, -, j3, -⟩ := sim'.sf.hp.at_ _ _ hx1
      rw [hθ'] at j1
      simp only [Option.some.injEq, Prod.mk.injEq] at j1
      obtain ⟨rfl, rfl⟩ := j1
      have hnb : lp'.state ≠ .busy := by
       rcases hst with ⟨rfl, -⟩ | rfl
       · rw [j3.1]; simp
       · rw [j3.1]; simp
      obtain ⟨hEd, hHd⟩ := put_block sim'.sf.hp hx1 hθ' (.loop { lp' with state := .exhausted }) none (fun _ d hd => by cases hd)
      obtain ⟨sim2, hE2⟩ := sim'.turn hx1 hEd hHd
      have hEall : Ext (fun x => s.nx ≤ x) s.hp.get w Im θ (s1.upd [(s.nx, none)] s1.nx).hp.get (w'.putObj l (.loop { lp' with state := .exhausted })) Im' θ' :=
       (hE0.trans (hE.mono (fun x hx => Nat.le_trans ol.nx hx))).trans (hE2.mono (fun x hx => Nat.le_trans (ol.trans hl1).nx hx))
      have hQ : Q (exitOf e) { a with defers := mk.map mark ++ a.defers } (w'.putObj l (.loop { lp' with state := .exhausted })) := hA _ _ Im' θ' sim2 hEall ⟨mk, rfl, hmk⟩
      refine ⟨lp'.pending, _, run_endLoop j2 hnb, ?_⟩
      rcases hst with ⟨rfl, rfl⟩ | rfl
      · rw [j3.2] at hQ ⊢; exact hQ
      · rw [j3.2.1] at hQ ⊢
        cases e with
        | normal => exact absurd j3.2.1 j3.2.2
        | ret => exact wpIn_ret hQ
        | exit id => exact wpIn_exit hQ
  split at h2
  · rename_i vs1 ps1 asg1 bdy1 hx1
    obtain ⟨o2, hcm⟩ := fin .ready .normal _ _ _ _ hx1 (.inl ⟨rfl, rfl⟩)
    exact ⟨.normal, _, o2, hcm, h2⟩
  · rename_i e vs1 ps1 asg1 bdy1 hx1
    obtain ⟨o2, hcm⟩ := fin (.done e) e _ _ _ _ hx1 (.inr rfl)
    exact ⟨e, _, o2, hcm, h2⟩
  · exact (fl_no hfl h2).elim
end
end Go.Am
/- The abstract machine: scopes that nothing jumps out of. -/
namespace Go
variable {F : Fence} {n : Nat} {P : Program} {Q : Exit → Act → World → Prop} {a : Act} {w : World}
theorem stepR_scopeA {b : Frame} {k : List Item} {cs : List Frame} {c : Code} : step P (lone (b.atR a (.code (.scope c) :: k)) cs w) = .next (lone (b.atR a (.code c :: .inScope c :: k)) cs w) := step_lone_go (by simp [stepG, stepG.exec, Frame.atR])
theorem stepR_inScopeA {b : Frame} {k : List Item} {cs : List Frame} {c : Code} : step P (lone (b.atR a (.inScope c :: k)) cs w) = .next (lone (b.atR a k) cs w) := step_lone_go (by simp [stepG, stepG.exec, Frame.atR])
theorem wpIn_scope_straight {c : Code} (h : c.wpIn F n P (Exit.noGoto Q) a w) : (Code.scope c).wpIn F n P Q a w := by
 intro b k cs hro hb hr
 have h0 : (lone (b.atR a (.code (.scope c) :: k)) cs w).fenced P F := fenced_calm hb hr rfl
 obtain ⟨e, a₁, w₁, hq, harr⟩ := h b (.inScope c :: k) cs hro hb hr
 cases e with
 | normal => exact ⟨.normal, a₁, w₁, hq, .head h0 stepR_scopeA (StepsIn.trans harr (.one (fenced_calm hb hr rfl) stepR_inScopeA))⟩
 | exit id =>
  have hx : exitTo id (.inScope c :: k) = exitTo id k := by simp [exitTo]
  exact ⟨.exit id, a₁, w₁, hq, fun k' hk => .head h0 stepR_scopeA (harr.1 k' (by rw [hx]; exact hk)), fun hr' hk => let ⟨k₁, h1, h2⟩ := harr.2 hr' (by rw [hx]; exact hk); ⟨k₁, h1, .head h0 stepR_scopeA h2⟩⟩
 | goto l => exact hq.elim
 | ret => exact ⟨_, a₁, w₁, hq, .of_steps (.one h0 stepR_scopeA) harr⟩
 | panic ch => exact ⟨_, a₁, w₁, hq, .of_steps (.one h0 stepR_scopeA) harr⟩
 | outgrown => exact ⟨_, a₁, w₁, hq, .of_steps (.one h0 stepR_scopeA) harr⟩
end Go
/- The abstract machine: code. -/
namespace Go.Am
variable {P : Program} {ω : Nat → Value}
theorem comes_self {c : Code} {s : St} {e : Ex} (h : ∀ (ρ : Option Nat) (Q : Exit → Act → World → Prop) (a : Act) (w : World), Q (exitOf e) a w → W P ρ 0 c Q a w) : Comes P c s e s :=
 ⟨Later.refl s, rfl, rfl, 0, fun _ ρ Q a w Im θ sim hA => h ρ Q a w (hA a w Im θ sim (Ext.refl _) (New.refl rfl))⟩
section
variable {R D : Type} {fl : R} {den : R → Option D} (hfl : den fl = none) {rec : Rcr R} (hrec : RcrOk P den rec) {κ : Nat → Option CSumm} {ι : Nat → Bool} (hκ : KOk P κ)
include hfl hrec hκ
theorem execC_ok (hmix : P.follows .mixedOrders = true) : RcrOk P den (execC fl P κ ι rec) := by
 intro c
 induction c with
 | skip => intro s k d hs h; exact ⟨.normal, s, hs, comes_self (fun ρ Q a w hq => wpIn_skip hq), h⟩
 | region id ops draw =>
  intro s k d hs h
  obtain ⟨s', hs', hc, h1⟩ := region_run hfl hrec hκ (id := id) hmix hs h
  exact ⟨.normal, s', hs', hc, h1⟩
 | seq x y ihx ihy =>
  intro s k d hs h
  simp only [execC] at h
  obtain ⟨e, s1, hs1, hc1, h1⟩ := ihx s _ d hs h
  cases e with
  | normal =>
   simp only [] at h1
   obtain ⟨e2, s2, hs2, hc2, h2⟩ := ihy s1 k d hs1 h1
   refine ⟨e2, s2, hs2, ⟨hc1.later.trans hc2.later, by rw [hc2.size, hc1.size], by rw [hc2.rd, hc1.rd], 0, fun ω ρ Q a w Im θ sim hA => ?_⟩, h2⟩
   refine wpIn_seq (hc1.wp ρ _ a w Im θ sim (fun a' w' Im' θ' sim' hE hN => ?_))
   exact hc2.wp ρ Q a' w' Im' θ' sim' (After.trans hc1.later hE hN hA)
  | exit id =>
   exact ⟨.exit id, s1, hs1, ⟨hc1.later, hc1.size, hc1.rd, 0, fun ω ρ Q a w Im θ sim hA => wpIn_seq (hc1.wp ρ _ a w Im θ sim (fun a' w' Im' θ' sim' hE hN => hA a' w' Im' θ' sim' hE hN))⟩, h1⟩
  | ret =>
   exact ⟨.ret, s1, hs1, ⟨hc1.later, hc1.size, hc1.rd, 0, fun ω ρ Q a w Im θ sim hA => wpIn_seq (hc1.wp ρ _ a w Im θ sim (fun a' w' Im' θ' sim' hE hN => hA a' w' Im' θ' sim' hE hN))⟩, h1⟩
 | cond c x y ihx ihy =>
  intro s k d hs h
  simp only [execC] at h
  split at h
  · rename_i b hb
    have hev : ∀ {ω : Nat → Value} {ρ : Option Nat} {a : Act} {w : World} {Im : Nat → Prop} {θ : Th}, Sim P ω ρ s a w Im θ → a.eval c = .bool b := by
     intro ω ρ a w Im θ sim
     have := sim.sf.eval c
     rw [← evT_ev, hb] at this
     generalize a.eval c = u at this
     cases this
     rfl
    cases b with
    | true =>
     obtain ⟨e, s1, hs1, hc1, h1⟩ := ihx s k d hs h
     exact ⟨e, s1, hs1, ⟨hc1.later, hc1.size, hc1.rd, 0, fun ω ρ Q a w Im θ sim hA => wpIn_cond_true (hev sim) (hc1.wp ρ Q a w Im θ sim hA)⟩, h1⟩
    | false =>
     obtain ⟨e, s1, hs1, hc1, h1⟩ := ihy s k d hs h
     exact ⟨e, s1, hs1, ⟨hc1.later, hc1.size, hc1.rd, 0, fun ω ρ Q a w Im θ sim hA => wpIn_cond_false (hev sim) (hc1.wp ρ Q a w Im θ sim hA)⟩, h1⟩
  · exact (fl_no hfl h).elim
 | block id c ih =>
  intro s k d hs h
  simp only [execC] at h
  obtain ⟨e, s1, hs1, hc1, h1⟩ := ih s _ d hs h
  cases e with
  | normal => exact ⟨.normal, s1, hs1, ⟨hc1.later, hc1.size, hc1.rd, 0, fun ω ρ Q a w Im θ sim hA => wpIn_block (hc1.wp ρ _ a w Im θ sim hA)⟩, h1⟩
  | ret => exact ⟨.ret, s1, hs1, ⟨hc1.later, hc1.size, hc1.rd, 0, fun ω ρ Q a w Im θ sim hA => wpIn_block (hc1.wp ρ _ a w Im θ sim hA)⟩, h1⟩
  | exit j =>
   simp only [] at h1
   cases hj : Nat.beq j id with
   | true =>
    rw [hj] at h1
    have hji : j = id := Nat.eq_of_beq_eq_true hj
    subst hji
    refine ⟨.normal, s1, hs1, ⟨hc1.later, hc1.size, hc1.rd, 0, fun ω ρ Q a w Im θ sim hA => wpIn_block (hc1.wp ρ _ a w Im θ sim (fun a' w' Im' θ' sim' hE hN => ?_))⟩, h1⟩
    simp only [exitOf, Exit.inBlock, if_true]
    exact hA a' w' Im' θ' sim' hE hN
   | false =>
    rw [hj] at h1
    have hji : ¬ j = id := fun e => by rw [nb_t e] at hj; cases hj
    refine ⟨.exit j, s1, hs1, ⟨hc1.later, hc1.size, hc1.rd, 0, fun ω ρ Q a w Im θ sim hA => wpIn_block (hc1.wp ρ _ a w Im θ sim (fun a' w' Im' θ' sim' hE hN => ?_))⟩, h1⟩
    simp only [exitOf, Exit.inBlock, if_neg hji]
    exact hA a' w' Im' θ' sim' hE hN
 | loop c ih =>
  intro s k d hs h
  simp only [execC] at h
  obtain ⟨e, s1, hs1, hc1, h1⟩ := ih s _ d hs h
  cases e with
  | normal =>
   simp only [] at h1
   obtain ⟨e2, s2, hs2, hc2, h2⟩ := hrec (.loop c) s1 k d hs1 h1
   obtain ⟨m, hm⟩ := hc2.wps
   refine ⟨e2, s2, hs2, ⟨hc1.later.trans hc2.later, by rw [hc2.size, hc1.size], by rw [hc2.rd, hc1.rd], m + 1, fun ω ρ Q a w Im θ sim hA => ?_⟩, h2⟩
   show Code.roundsIn (FR ρ) 0 P c Q (m + 1) a w
   rw [roundsIn_succ]
   refine hc1.wp ρ _ a w Im θ sim (fun a' w' Im' θ' sim' hE hN => ?_)
   exact hm ω ρ Q a' w' Im' θ' sim' (After.trans hc1.later hE hN hA)
  | exit id =>
   refine ⟨.exit id, s1, hs1, ⟨hc1.later, hc1.size, hc1.rd, 1, fun ω ρ Q a w Im θ sim hA => ?_⟩, h1⟩
   show Code.roundsIn (FR ρ) 0 P c Q 1 a w
   rw [roundsIn_succ]
   exact hc1.wp ρ _ a w Im θ sim (fun a' w' Im' θ' sim' hE hN => hA a' w' Im' θ' sim' hE hN)
  | ret =>
   refine ⟨.ret, s1, hs1, ⟨hc1.later, hc1.size, hc1.rd, 1, fun ω ρ Q a w Im θ sim hA => ?_⟩, h1⟩
   show Code.roundsIn (FR ρ) 0 P c Q 1 a w
   rw [roundsIn_succ]
   exact hc1.wp ρ _ a w Im θ sim (fun a' w' Im' θ' sim' hE hN => hA a' w' Im' θ' sim' hE hN)
 | exit id => intro s k d hs h; exact ⟨.exit id, s, hs, comes_self (fun ρ Q a w hq => wpIn_exit hq), h⟩
 | label l => intro s k d hs h; exact ⟨.normal, s, hs, comes_self (fun ρ Q a w hq => wpIn_label hq), h⟩
 | ret => intro s k d hs h; exact ⟨.ret, s, hs, comes_self (fun ρ Q a w hq => wpIn_ret hq), h⟩
 | rangeFunc f ps x y _ _ => intro s k d hs h; exact range_run hfl hrec hs h
 | scope c ih =>
  intro s k d hs h
  simp only [execC] at h
  obtain ⟨e, s1, hs1, hc1, h1⟩ := ih s k d hs h
  exact ⟨e, s1, hs1, ⟨hc1.later, hc1.size, hc1.rd, 0, fun ω ρ Q a w Im θ sim hA => wpIn_scope_straight (hc1.wp ρ _ a w Im θ sim (fun a' w' Im' θ' sim' hE hN => by
   cases e <;> exact hA a' w' Im' θ' sim' hE hN))⟩, h1⟩
 | goto l => intro s k d hs h; exact (fl_no hfl h).elim
 | refuse w => intro s k d hs h; exact (fl_no hfl h).elim
end
theorem exec_ok {R D : Type} {fl : R} {den : R → Option D} (hfl : den fl = none) {κ : Nat → Option CSumm} {ι : Nat → Bool} (hκ : KOk P κ) (hmix : P.follows .mixedOrders = true) : ∀ n, RcrOk P den (exec fl P κ ι n)
 | 0 => fun _ _ _ _ _ h => (fl_no hfl h).elim
 | n + 1 => execC_ok hfl (exec_ok hfl hκ hmix n) hκ hmix
end Go.Am
/- The abstract machine: a function's body tells of its calls. -/
namespace Go.Am
variable {P : Program} {ω : Nat → Value}
theorem reachNew_spec {h : Tr Chunk} {m : Nat} : ∀ (d : Nat) (todo acc ns : List Nat), reachNew h m d todo acc = some ns → acc.Nodup → (∀ x ∈ acc, m ≤ x ∧ ∃ c, h.get x = some c) →
  (∀ x ∈ acc, ∀ c, h.get x = some c → ∀ z ∈ namesC c, z < m ∨ z ∈ acc ∨ z ∈ todo) →
  ns.Nodup ∧ (∀ x ∈ ns, m ≤ x ∧ ∃ c, h.get x = some c) ∧ (∀ x ∈ ns, ∀ c, h.get x = some c → ∀ z ∈ namesC c, z < m ∨ z ∈ ns) ∧ (∀ z ∈ todo, z < m ∨ z ∈ ns) ∧ (∀ z ∈ acc, z ∈ ns)
 | 0, _, _, _, h, _, _, _ => by simp [reachNew] at h
 | d + 1, [], acc, ns, h, h1, h2, h3 => by
  simp only [reachNew, Option.some.injEq] at h
  subst h
  refine ⟨h1, h2, fun x hx c hc z hz => ?_, (fun z hz => by cases hz), fun z hz => hz⟩
  rcases h3 x hx c hc z hz with h4 | h4 | h4
  · exact .inl h4
  · exact .inr h4
  · cases h4
 | d + 1, x :: todo, acc, ns, hh, h1, h2, h3 => by
  simp only [reachNew] at hh
  cases hb : Nat.blt x m || memN x acc with
  | true =>
   rw [hb] at hh
   simp only [cond_true] at hh
   have hx : x < m ∨ x ∈ acc := by
    simp only [Bool.or_eq_true] at hb
    rcases hb with hb | hb
    · left; rwa [Nat.blt_eq] at hb
    · right; exact (memN_iff _ _).1 hb
   obtain ⟨g1, g2, g3, g4, g5⟩ := reachNew_spec d todo acc ns hh h1 h2 (fun y hy c hc z hz => by
    rcases h3 y hy c hc z hz with h4 | h4 | h4
    · exact .inl h4
    · exact .inr (.inl h4)
    · rcases List.mem_cons.1 h4 with rfl | h4
      · rcases hx with hx | hx
        · exact .inl hx
        · exact .inr (.inl hx)
      · exact .inr (.inr h4))
   refine ⟨g1, g2, g3, fun z hz => ?_, g5⟩
   rcases List.mem_cons.1 hz with rfl | hz
   · rcases hx with hx | hx
     · exact .inl hx
     · exact .inr (g5 _ hx)
   · exact g4 z hz
  | false =>
   rw [hb] at hh
   simp only [cond_false] at hh
   simp only [Bool.or_eq_false_iff] at hb
   have hxm : m ≤ x := by
    rcases Nat.lt_or_ge x m with h4 | h4
    · rw [← Nat.blt_eq] at h4; rw [h4] at hb; exact absurd hb.1 (by simp)
    · exact h4
   have hxa : x ∉ acc := fun h4 => by rw [(memN_iff _ _).2 h4] at hb; exact absurd hb.2 (by simp)
   cases hx : h.get x with
   | none => simp [hx] at hh
   | some c =>
    simp only [hx] at hh
    obtain ⟨g1, g2, g3, g4, g5⟩ := reachNew_spec d (namesC c ++ todo) (acc ++ [x]) ns hh
     (by rw [List.nodup_append]; exact ⟨h1, by simp, fun a ha b hb => by simp at hb; subst hb; intro e; subst e; exact hxa ha⟩)
     (fun y hy => by
      rcases List.mem_append.1 hy with hy | hy
      · exact h2 y hy
      · simp at hy; subst hy; exact ⟨hxm, c, hx⟩)
     (fun y hy c' hc' z hz => by
      rcases List.mem_append.1 hy with hy | hy
      · rcases h3 y hy c' hc' z hz with h4 | h4 | h4
        · exact .inl h4
        · exact .inr (.inl (by simp [h4]))
        · rcases List.mem_cons.1 h4 with rfl | h4
          · exact .inr (.inl (by simp))
          · exact .inr (.inr (by simp [h4]))
      · simp at hy; subst hy
        rw [hx] at hc'
        cases hc'
        exact .inr (.inr (by simp [hz])))
    refine ⟨g1, g2, g3, fun z hz => ?_, fun z hz => g5 z (by simp [hz])⟩
    rcases List.mem_cons.1 hz with rfl | hz
    · exact .inr (g5 _ (by simp))
    · exact g4 z (by simp [hz])
theorem dirtyNames_mem {h : Tr Chunk} : ∀ {l : List Nat} {x : Nat} {c : Chunk}, x ∈ l → h.get x = some c → ∀ z ∈ namesC c, z ∈ dirtyNames h l
 | [], _, _, hx, _, _, _ => by cases hx
 | y :: l, x, c, hx, hc, z, hz => by
  simp only [dirtyNames]
  rcases List.mem_cons.1 hx with rfl | hx
  · rw [hc]; simp [hz]
  · have := dirtyNames_mem hx hc z hz
    cases h.get y with
    | none => exact this
    | some d => simp [this]
theorem outOld_keys (h : Tr Chunk) (f : Nat → Nat) : ∀ (l : List Nat), (outOld h f l).map (·.1) = l
 | [] => rfl
 | x :: l => by simp [outOld, outOld_keys h f l]
theorem outNew_keys (h : Tr Chunk) (f : Nat → Nat) : ∀ (l : List Nat), (∀ x ∈ l, ∃ c, h.get x = some c) → (outNew h f l).map (·.1) = l.map f
 | [], _ => rfl
 | x :: l, hl => by
  obtain ⟨c, hc⟩ := hl x (by simp)
  simp [outNew, hc, outNew_keys h f l (fun y hy => hl y (by simp [hy]))]
theorem updF_append (a b : List (Nat × Option Chunk)) (h : HpF) : updF (a ++ b) h = updF b (updF a h) := by
 induction a generalizing h with
 | nil => rfl
 | cons p a ih => obtain ⟨x, c⟩ := p; simp only [List.cons_append, updF]; exact ih _
theorem updF_outOld {h : Tr Chunk} {f : Nat → Nat} : ∀ {l : List Nat} {h0 : HpF} {y : Nat}, y ∈ l → updF (outOld h f l) h0 y = (h.get y).map (renC f)
 | [], _, _, hy => by cases hy
 | x :: l, h0, y, hy => by
  simp only [outOld, updF]
  by_cases hyl : y ∈ l
  · exact updF_outOld hyl
  · have : y = x := by rcases List.mem_cons.1 hy with h1 | h1; exact h1; exact absurd h1 hyl
    subst this
    rw [updF_not (by rw [outOld_keys]; exact hyl)]
    simp only [if_true]
    cases h.get y <;> rfl
theorem updF_outNew {h : Tr Chunk} {f : Nat → Nat}   : ∀ {l : List Nat} {h0 : HpF} {x : Nat}, (∀ z ∈ l, ∃ c, h.get z = some c) → (∀ a ∈ l, ∀ b ∈ l, f a = f b → a = b) → x ∈ l → updF (outNew h f l) h0 (f x) = (h.get x).map (renC f)
 | [], _, _, _, _, hx => by cases hx
 | z :: l, h0, x, hl, hi, hx => by
  obtain ⟨c, hc⟩ := hl z (by simp)
  simp only [outNew, hc, updF]
  by_cases hxl : x ∈ l
  · exact updF_outNew (fun y hy => hl y (by simp [hy])) (fun a ha b hb => hi a (by simp [ha]) b (by simp [hb])) hxl
  · have : x = z := by rcases List.mem_cons.1 hx with h1 | h1; exact h1; exact absurd h1 hxl
    subst this
    rw [updF_not]
    · simp [hc]
    · rw [outNew_keys _ _ _ (fun y hy => hl y (by simp [hy]))]
      intro hm
      obtain ⟨b, hb, e⟩ := List.mem_map.1 hm
      have := hi b (by simp [hb]) x (by simp) e
      subst this
      exact hxl hb
theorem canonB_spec : ∀ (H : HpL) (i : Nat), canonB H i = true → ∀ (j : Nat) p, H[j]? = some p → p.1 = i + j
 | [], _, _, _, _, h => by simp at h
 | (x, c) :: l, i, hc, j, p, h => by
  simp only [canonB, Bool.and_eq_true] at hc
  cases j with
  | zero => simp at h; subst h; simpa using Nat.eq_of_beq_eq_true hc.1
  | succ j =>
   have := canonB_spec l (i + 1) hc.2 j p (by simpa using h)
   omega
theorem HpL_get_some : ∀ (H : HpL) (x : Nat) (c : Chunk), H.get x = some c → (x, c) ∈ H
 | [], _, _, h => by cases h
 | (y, d) :: l, x, c, h => by
  simp only [HpL.get] at h
  cases hb : Nat.beq y x with
  | true => rw [hb] at h; simp at h; subst h; rw [Nat.eq_of_beq_eq_true hb]; simp
  | false => rw [hb] at h; have := HpL_get_some l x c h; simp [this]
theorem canon_lt {H : HpL} (hc : canonB H 0 = true) {x : Nat} {c : Chunk} (h : H.get x = some c) : x < H.length := by
 have hm := HpL_get_some H x c h
 obtain ⟨j, hj, e⟩ := List.getElem_of_mem hm
 have := canonB_spec H 0 hc j _ (by rw [List.getElem?_eq_getElem hj, e])
 simp at this
 omega
theorem closedB_spec {m : Nat} : ∀ (H : HpL), closedB m H = true → ∀ p ∈ H, ∀ z ∈ namesC p.2, z < m
 | [], _, _, h => by cases h
 | (y, d) :: l, h, p, hp => by
  simp only [closedB, Bool.and_eq_true] at h
  rcases List.mem_cons.1 hp with rfl | hp
  · exact lowB_spec _ h.1
  · exact closedB_spec l h.2 p hp
theorem heapTr_get : ∀ (H : HpL) (i : Nat) (t : Tr Chunk) (y : Nat), canonB H i = true → i + H.length ≤ 1000000 → (heapTr H t).get y = if i ≤ y ∧ y < i + H.length then (H[y - i]?).map (·.2) else t.get y
 | [], i, t, y, _, _ => by
  simp only [heapTr, List.length_nil, Nat.add_zero]
  rw [if_neg (by omega)]
 | (x, c) :: l, i, t, y, hc, h => by
  simp only [canonB, Bool.and_eq_true] at hc
  have hx : x = i := Nat.eq_of_beq_eq_true hc.1
  subst hx
  simp only [heapTr, List.length_cons] at h ⊢
  rw [heapTr_get l (x + 1) _ y hc.2 (by omega), Tr.get_set 20 t x (some c) y (by omega)]
  by_cases hj : y = x
  · subst hj
    rw [if_neg (by omega), if_pos rfl, if_pos (by omega)]
    simp
  · by_cases h2 : x + 1 ≤ y ∧ y < x + 1 + l.length
    · rw [if_pos h2, if_pos (by omega)]
      have : y - x = (y - (x + 1)) + 1 := by omega
      rw [this]; simp
    · rw [if_neg h2, if_neg hj, if_neg (by omega)]
theorem HpL_get_canon : ∀ (H : HpL) (i y : Nat), canonB H i = true → H.get y = if i ≤ y ∧ y < i + H.length then (H[y - i]?).map (·.2) else none
 | [], i, y, _ => by
  simp only [HpL.get, List.length_nil, Nat.add_zero]
  rw [if_neg (by omega)]
 | (x, c) :: l, i, y, hc => by
  simp only [canonB, Bool.and_eq_true] at hc
  have hx : x = i := Nat.eq_of_beq_eq_true hc.1
  subst hx
  simp only [HpL.get, List.length_cons]
  by_cases hj : x = y
  · subst hj
    rw [nb_t rfl, if_pos (by omega)]
    simp
  · rw [nb_f hj]
    simp only [cond_false]
    rw [HpL_get_canon l (x + 1) y hc.2]
    by_cases h2 : x + 1 ≤ y ∧ y < x + 1 + l.length
    · rw [if_pos h2, if_pos (by omega)]
      have : y - x = (y - (x + 1)) + 1 := by omega
      rw [this]; simp
    · rw [if_neg h2, if_neg (by omega)]
theorem heapTr_init {H : HpL} (hc : canonB H 0 = true) (h : H.length ≤ 1000000) : (heapTr H .lf).get = H.get := by
 funext y
 rw [heapTr_get H 0 .lf y hc (by omega), HpL_get_canon H 0 y hc]
 rfl
mutual
theorem renS_fix (f : Nat → Nat) : ∀ (v : SV), (∀ x ∈ namesS v, f x = x) → renS f v = v
 | .ptr x o, h => by simp only [renS]; rw [h x (by simp [namesS])]
 | .sl x sz o l, h => by simp only [renS]; rw [h x (by simp [namesS])]
 | .qs x sz o l, h => by simp only [renS]; rw [h x (by simp [namesS])]
 | .qp x sz o l, h => by simp only [renS]; rw [h x (by simp [namesS])]
 | .qo x sz o, h => by simp only [renS]; rw [h x (by simp [namesS])]
 | .qop x sz o l, h => by simp only [renS]; rw [h x (by simp [namesS])]
 | .mp x, h => by simp only [renS]; rw [h x (by simp [namesS])]
 | .yl x, h => by simp only [renS]; rw [h x (by simp [namesS])]
 | .fn k a b, h => by
  simp only [namesS, List.mem_append] at h
  simp only [renS]
  rw [renL_fix f a (fun x hx => h x (.inl hx)), renL_fix f b (fun x hx => h x (.inr hx))]
 | .iface t v, h => by simp only [renS]; rw [renS_fix f v (by simpa [namesS] using h)]
 | .agg cs, h => by simp only [renS]; rw [renL_fix f cs (by simpa [namesS] using h)]
 | .tup cs, h => by simp only [renS]; rw [renL_fix f cs (by simpa [namesS] using h)]
 | .junk, _ | .pnn _ _, _ | .opq _, _ | .emp, _ | .bool _, _ | .int _ _, _ | .str _, _ | .nilp, _ | .pel _ _, _ | .nils, _ | .psl _ _, _ | .nilm, _ | .nilf, _ | .nili, _ | .gp _ _, _ => rfl
theorem renL_fix (f : Nat → Nat) : ∀ (vs : List SV), (∀ x ∈ namesL vs, f x = x) → renL f vs = vs
 | [], _ => rfl
 | v :: vs, h => by
  simp only [namesL, List.mem_append] at h
  simp only [renL]
  rw [renS_fix f v (fun x hx => h x (.inl hx)), renL_fix f vs (fun x hx => h x (.inr hx))]
end
theorem renC_fix (f : Nat → Nat) (c : Chunk) (h : ∀ x ∈ namesC c, f x = x) : renC f c = c := by
 cases c with
 | cells T vs => simp only [renC]; rw [renL_fix f vs h]
 | seq e es => rfl
 | loopr st vs ps asg bdy => simp only [renC]; rw [renL_fix f vs h]
 | mpc ks vs => simp only [renC]; rw [renL_fix f ks (fun x hx => h x (List.mem_append.2 (.inl hx))), renL_fix f vs (fun x hx => h x (List.mem_append.2 (.inr hx)))]
 | mpb kd kvs => rfl
 | mpn bs cl ks vs => simp only [renC]; rw [renL_fix f ks (fun x hx => h x (List.mem_append.2 (.inl hx))), renL_fix f vs (fun x hx => h x (List.mem_append.2 (.inr hx)))]
 | mit z since seen last => simp only [renC]; rw [h z (by simp [namesC])]
 | sqo e es => rfl
 | sqp e es => simp only [renC]; rw [renL_fix f es h]
 | ext c => rfl
theorem finish_gen {H : HpL} (c1 : canonB H 0 = true) (c2 : closedB H.length H = true) {θ : Th} {Im : Nat → Prop} {w : World} (hfr : ∀ x, H.length ≤ x → θ x = none) {s2 : St} (hm2 : s2.m = H.length) (hsame : ∀ x, x < H.length → s2.hp.get x = H.get x ∨ x ∈ s2.dirty)
  (hdl : ∀ x ∈ s2.dirty, x < H.length) {vv : SV} {ns : List Nat} (hre : reachNew s2.hp s2.m 2000 (namesS vv ++ dirtyNames s2.hp s2.dirty) [] = some ns) {w' : World} {Im' : Nat → Prop} {θ' : Th} (hH2 : HRel P ω w' Im' θ' s2.hp.get)
  (hext : Ext (fun x => H.length ≤ x) H.get w Im θ s2.hp.get w' Im' θ') {u : Value} (hvu : VRel P ω w' Im' θ' vv u) :
  ∃ θ3, Ext (fun x => H.length ≤ x) H.get w Im θ (updF (outOld s2.hp (outName ns H.length) s2.dirty ++ outNew s2.hp (outName ns H.length) ns) H.get) w' Im' θ3 ∧ VRel P ω w' Im' θ3 (renS (outName ns H.length) vv) u ∧
   HRel P ω w' Im' θ3 (updF (outOld s2.hp (outName ns H.length) s2.dirty ++ outNew s2.hp (outName ns H.length) ns) H.get) ∧
   ∀ y c b N, updF (outOld s2.hp (outName ns H.length) s2.dirty ++ outNew s2.hp (outName ns H.length) ns) H.get y = some c → θ3 y = some (b, N) → ∃ x c0, s2.hp.get x = some c0 ∧ θ' x = some (b, N) := by
 obtain ⟨n1, n2, n3, n4, -⟩ := reachNew_spec _ _ _ _ hre List.nodup_nil (fun x hx => by cases hx) (fun x hx => by cases hx)
 rw [hm2] at n2 n4
 simp only [hm2] at n3
 -- the names behind the call
 let θ2 : Th := fun y => if y < H.length then θ' y else match ns[y - H.length]? with
  | some x => θ' x
  | none => none
 generalize hfd : outName ns H.length = f
 have hf1 : ∀ x, x < H.length → f x = x := by
  intro x hx
  rw [← hfd]
  have : Nat.blt x H.length = true := by rw [Nat.blt_eq]; exact hx
  simp [outName, this]
 have hf2 : ∀ x, x ∈ ns → f x = H.length + idxN ns x := by
  intro x hx
  rw [← hfd]
  have : Nat.blt x H.length = false := by
   cases hh : Nat.blt x H.length with
   | false => rfl
   | true => rw [Nat.blt_eq] at hh; have := (n2 x hx).1; omega
  simp [outName, this]
 have hθ2 : ∀ x, (x < H.length ∨ x ∈ ns) → θ2 (f x) = θ' x := by
  intro x hx
  by_cases hlt : x < H.length
  · rw [hf1 x hlt]; simp [θ2, hlt]
  · have hxn : x ∈ ns := by rcases hx with h | h; exact absurd h hlt; exact h
    rw [hf2 x hxn]
    have hs := (idxN_spec ns x hxn).2
    have h1 : ¬ H.length + idxN ns x < H.length := by omega
    have h2 : H.length + idxN ns x - H.length = idxN ns x := by omega
    simp only [θ2, if_neg h1, h2, hs]
 have hlow : ∀ y, y < H.length → θ2 y = θ' y := fun y hy => by simp [θ2, hy]
 have hcl : ∀ y c, H.get y = some c → ∀ z ∈ namesC c, z < H.length := fun y c hy => closedB_spec H c2 (y, c) (HpL_get_some H y c hy)
 generalize hU : outOld s2.hp f s2.dirty ++ outNew s2.hp f ns = U
 -- what the heap holds
 have hUget : ∀ y c, updF U H.get y = some c → ∃ x c0, (x < H.length ∨ x ∈ ns) ∧ f x = y ∧ s2.hp.get x = some c0 ∧ c = renC f c0 ∧ ∀ z ∈ namesC c0, z < H.length ∨ z ∈ ns := by
  intro y c hy
  rw [← hU, updF_append] at hy
  by_cases hyk : y ∈ (outNew s2.hp f ns).map (·.1)
  · rw [outNew_keys _ _ _ (fun x hx => (n2 x hx).2)] at hyk
    obtain ⟨x, hx, rfl⟩ := List.mem_map.1 hyk
    rw [updF_outNew (fun z hz => (n2 z hz).2) (fun a ha b hb e => by
     rw [hf2 a ha, hf2 b hb] at e
     have e1 := (idxN_spec ns a ha).2
     have e2 := (idxN_spec ns b hb).2
     have : idxN ns a = idxN ns b := by omega
     rw [this, e2] at e1
     exact (Option.some.inj e1).symm) hx, Option.map_eq_some_iff] at hy
    obtain ⟨c0, hc0, rfl⟩ := hy
    exact ⟨x, c0, .inr hx, rfl, hc0, rfl, n3 x hx c0 hc0⟩
  · rw [updF_not hyk] at hy
    by_cases hyd : y ∈ s2.dirty
    · rw [updF_outOld hyd, Option.map_eq_some_iff] at hy
      obtain ⟨c0, hc0, rfl⟩ := hy
      have hyl := hdl y hyd
      refine ⟨y, c0, .inl hyl, hf1 y hyl, hc0, rfl, fun z hz => n4 z ?_⟩
      exact List.mem_append.2 (.inr (dirtyNames_mem hyd hc0 z hz))
    · rw [updF_not (by rw [outOld_keys]; exact hyd)] at hy
      have hyl := canon_lt c1 hy
      have hs2y : s2.hp.get y = some c := by
       rcases hsame y hyl with h | h
       · rw [h, hy]
       · exact absurd h hyd
      have hcz := hcl y c hy
      refine ⟨y, c, .inl hyl, hf1 y hyl, hs2y, ?_, fun z hz => .inl (hcz z hz)⟩
      exact (renC_fix f c (fun z hz => hf1 z (hcz z hz))).symm
 refine ⟨θ2, ?_, ?_, ?_, ?_⟩
 · refine ⟨?_, ?_, hext.imUp, hext.size, hext.keep, hext.imNew, ?_, hext.os, hext.output, hext.tape, hext.drawn⟩
   · intro x hx
     rw [hlow x (by omega)]
     exact hext.thOld x hx
   · intro x p hp
     have hxl : x < H.length := by
      rcases Nat.lt_or_ge x H.length with h | h
      · exact h
      · rw [hfr x h] at hp; cases hp
     rw [hlow x hxl]
     exact hext.thUp x p hp
   · intro y c b N hy hb
     obtain ⟨x, c0, hx, rfl, hc0, -, -⟩ := hUget y c hy
     rw [hθ2 x hx] at hb
     exact hext.ownNew x c0 b N hc0 hb
 · refine hvu.ren f (fun x hx p hp => ?_)
   rw [hθ2 x (n4 x (List.mem_append.2 (.inl hx)))]
   exact hp
 · refine ⟨?_, ?_, ?_, hH2.im, hH2.gl⟩
   · intro y c hy
     obtain ⟨x, c0, hx, rfl, hc0, rfl, hz⟩ := hUget y c hy
     exact (hH2.at_ x c0 hc0).ren f (fun z hzm p hp => by rw [hθ2 z (hz z hzm)]; exact hp) (hθ2 x hx)
   · intro y y' c c' b N N2 hy hy' hb hb'
     obtain ⟨x, c0, hx, rfl, hc0, -, -⟩ := hUget y c hy
     obtain ⟨x', c0', hx', rfl, hc0', -, -⟩ := hUget y' c' hy'
     rw [hθ2 x hx] at hb
     rw [hθ2 x' hx'] at hb'
     rw [hH2.inj x x' c0 c0' b N N2 hc0 hc0' hb hb']
   · intro y c b N hy hb
     obtain ⟨x, c0, hx, rfl, hc0, -, -⟩ := hUget y c hy
     rw [hθ2 x hx] at hb
     exact hH2.own x c0 b N hc0 hb
 · intro y c b N hy hb
   obtain ⟨x, c0, hx, rfl, hc0, -, -⟩ := hUget y c hy
   rw [hθ2 x hx] at hb
   exact ⟨x, c0, hc0, hb⟩
theorem body_valid {κ : Nat → Option CSumm} (hκ : KOk P κ) (hmix : P.follows .mixedOrders = true) {f : FuncId} {fn : Func} (hf : P.funcs[f]? = some fn) {ι : Nat → Bool} {sp : Bool} {fuel : Nat} : ValidC P f (bodyC P κ ι sp fuel fn) := by
 intro args H v ups hrun _ ω θ Im w us hargs hH hfr
 unfold bodyC at hrun
 cases hb : fn.body with
 | none => rw [hb] at hrun; simp [crun] at hrun
 | some c =>
  rw [hb] at hrun
  simp only [] at hrun
  cases hc : canonB H 0 && closedB H.length H && Nat.ble args.length fn.ntmps && Nat.blt fn.ntmps 16000 && Nat.blt H.length 1000000 with
  | false => rw [hc] at hrun; simp [crun] at hrun
  | true =>
   rw [hc] at hrun
   simp only [cond_true] at hrun
   simp only [Bool.and_eq_true] at hc
   obtain ⟨⟨⟨⟨c1, c2⟩, c3⟩, c4⟩, c5⟩ := hc
   have hal : args.length ≤ fn.ntmps := by rwa [Nat.ble_eq] at c3
   have hnt : fn.ntmps < 16000 := by rwa [Nat.blt_eq] at c4
   have hHl : H.length < 1000000 := by rwa [Nat.blt_eq] at c5
   have hhp : (initSt sp fn args H).hp.get = H.get := heapTr_init c1 (by omega)
   have hs0 : StOk { initSt sp fn args H with tm := .lf, size := 0 } := by
    refine ⟨by show 0 < 16000; omega, hHl, fun t _ => rfl, ?_, Nat.le_refl _⟩
    intro x c hx
    have hx' : (initSt sp fn args H).hp.get x = some c := hx
    rw [hhp] at hx'
    exact canon_lt c1 hx'
   have hst : StOk (initSt sp fn args H) := enter_ok hs0 hal hnt
   obtain ⟨e, s2, hs2, hcomes, hfin⟩ := exec_ok (den := crun) rfl hκ hmix fuel c _ _ _ hst hrun
   have hm2 : s2.m = H.length := hcomes.later.m
   have he : ∀ id, e ≠ .exit id := by
    rintro id rfl
    simp [crun] at hfin
   have hfin' : crun (finishC P fn s2) = some (v, ups) := by
    cases e with
    | exit id => exact absurd rfl (he id)
    | normal => exact hfin
    | ret => exact hfin
   unfold finishC at hfin'
   cases hrs : resultsS P s2 fn.results.toList with
   | none => rw [hrs] at hfin'; simp [crun] at hfin'
   | some vs =>
    rw [hrs] at hfin'
    simp only [] at hfin'
    cases hre : reachNew s2.hp s2.m 2000 (namesS (oneOrTup vs) ++ dirtyNames s2.hp s2.dirty) [] with
    | none => rw [hre] at hfin'; simp [crun] at hfin'
    | some ns =>
      rw [hre] at hfin'
      simp only [crun, Option.some.injEq, Prod.mk.injEq] at hfin'
      rw [hm2] at hfin'
      obtain ⟨rfl, rfl⟩ := hfin'
      have hfr0 : Fr (initSt sp fn args H).nx θ (initSt sp fn args H).hp.get := by
       intro x hx
       have hx' : H.length ≤ x := hx
       refine ⟨hfr x hx', ?_⟩
       rw [hhp]
       cases hg : H.get x with
       | none => rfl
       | some c => have := canon_lt c1 hg; omega
      have sim0 := enter_sim (P := P) hs0 (args := args) (us := us) hal hnt (w := w) (Im := Im) (θ := θ) (by show HRel P ω w Im θ (initSt sp fn args H).hp.get; rw [hhp]; exact hH) hfr0 hargs
      refine (callsIn_wide (n := 0)).1 (body_calls (ρ := none) hf hb he hcomes sim0 hrs (fun u w' Im' θ' hH2 _ hE hvu => ?_))
      have hsame : ∀ x, x < H.length → s2.hp.get x = H.get x ∨ x ∈ s2.dirty := by
       intro x hx
       have := hcomes.later.same x hx
       rwa [hhp] at this
      have hdl : ∀ x ∈ s2.dirty, x < H.length := by
       intro x hx
       rcases hcomes.later.low x hx with h | h
       · cases h
       · exact h
      have hext : Ext (fun x => H.length ≤ x) H.get w Im θ s2.hp.get w' Im' θ' := by
       rw [← hhp]; exact hE
      obtain ⟨θ3, g1, g2, g3, -⟩ := finish_gen c1 c2 hfr hm2 hsame hdl hre hH2 hext hvu
      exact ⟨u, θ3, Im', rfl, g1, g2, g3⟩
end Go.Am
/- The abstract machine: tables of what is known of callees; closed runs. -/
namespace Go.Am
variable {P : Program} {ω : Nat → Value}
def noNum (P : Program) : Prop := (P.funcs.all fun fn => !(fn.name == "runtime.NumGoroutine")) = true
theorem noNum_at (h : noNum P) {f : FuncId} {fn : Func} (hf : P.funcs[f]? = some fn) : (fn.name == "runtime.NumGoroutine") = false := by
 have := Array.all_eq_true'.1 h fn (Array.mem_of_getElem? hf)
 simpa using this
def tbl : List (Nat × CSumm) → Nat → Option CSumm
 | [], _ => none
 | (g, s) :: l, f => bif Nat.beq g f then some s else tbl l f
structure Known (P : Program) (f : FuncId) (s : CSumm) : Prop where
 fn : ∃ fn, P.funcs[f]? = some fn ∧ (fn.name == "runtime.NumGoroutine") = false ∧ fn.body.isNone = false
 ok : ValidC P f s
theorem tbl_nil : KOk P (tbl []) := ⟨(fun _ _ h => by cases h), (fun _ _ h => by cases h)⟩
theorem tbl_cons {g : Nat} {s : CSumm} {l : List (Nat × CSumm)} (h1 : Known P g s) (h2 : KOk P (tbl l)) : KOk P (tbl ((g, s) :: l)) := by
 constructor
 · intro f t ht
   simp only [tbl] at ht
   cases hb : Nat.beq g f with
   | true => rw [hb] at ht; have := Nat.eq_of_beq_eq_true hb; subst this; exact h1.fn
   | false => rw [hb] at ht; exact h2.fn f t ht
 · intro f t ht
   simp only [tbl] at ht
   cases hb : Nat.beq g f with
   | true => rw [hb] at ht; have := Nat.eq_of_beq_eq_true hb; subst this; simp at ht; subst ht; exact h1.ok
   | false => rw [hb] at ht; exact h2.ok f t ht
theorem known_of_bodyC (hn : noNum P) (hmix : P.follows .mixedOrders = true) {κ : Nat → Option CSumm} (hκ : KOk P κ) {f : FuncId} {fn : Func} (hf : P.funcs[f]? = some fn) (hb : fn.body.isNone = false) {ι : Nat → Bool} {sp : Bool} {fuel : Nat} {s : CSumm}
  (hs : ∀ args H v ups, crun (s args H) = some (v, ups) → crun (bodyC P κ ι sp fuel fn args H) = some (v, ups)) : Known P f s :=
 ⟨⟨fn, hf, noNum_at hn hf, hb⟩, fun args H v ups hr => body_valid hκ hmix hf args H v ups (hs args H v ups hr)⟩
def inl (κ : Nat → Option CSumm) (f : Nat) : Bool := match κ f with
 | some _ => false
 | none => true
abbrev bodyS (P : Program) (κ : Nat → Option CSumm) (f : Func) : CSumm := bodyC P κ (inl κ) true 1000 f
def hasBody (P : Program) (f : Nat) : Bool := match P.funcs[f]? with
 | some fn => !fn.body.isNone
 | none => false
end Go.Am
/- The abstract machine: from a call's outcome to a row's statement. -/
namespace Go.Am
open Go.ChangeShapes Go.WideShapes
variable {P : Program} {ω : Nat → Value}
section
variable {H : Type} {enc : TypeId × Value → H} {w : World} {base : Nat} {spare : Nat → Bool} {held : Bool}
theorem post_kept {f : Func} {s : ChangeSpec} {apart fresh handsOn again : Bool} {W W' : World} {args : Array Value} {v : Value} {ds gs : List (DataW H)} {before pa pv : List MemPlace}
  (hW : DataW.Whole enc P f.params.toList s.vars apart W args.toList ds gs before)
  (hres : ∀ (b : Nat) (sp : Nat → Bool) (hd : Bool), DataW.TrodAll enc P W' b sp hd f.resultTypes.toList (v.resultList f.resultTypes.size) (s.fn H (ds ++ gs)).results [])
  (hargs : ∀ sp : Nat → Bool, (∀ p ∈ before, sp p.block = true) → DataW.TrodAll enc P W' 0 sp true f.params.toList args.toList (s.fn H (ds ++ gs)).args pa)
  (hvars : ∀ sp : Nat → Bool, (∀ p ∈ before, sp p.block = true) → DataW.TrodVars enc P W' sp s.vars (s.fn H (ds ++ gs)).vars pv)
  (hps : before = pa ++ pv) (hk : W.keptBut W' (· ∈ before)) (hfz : ∀ a : Addr, a.block < W.heap.size → W'.frozen? a = W.frozen? a)
  (hok : ∀ (j : Nat) (t : TypeId) (r : Value), f.resultTypes[j]? = some t → (v.resultList f.resultTypes.size)[j]? = some r → Value.okWide P W' .any 0 t r) :
  s.post enc P f apart fresh handsOn again W args v W' := by
 have hold : ∀ p ∈ before, (fun b => decide (b < W.heap.size)) p.block = true := fun p hp => by simpa using hW.lt p hp
 have hlt : ∀ p ∈ before, p.block < W.heap.size := fun p hp => hW.lt p hp
 refine ⟨ds, gs, before, [], pa, pv, hW, hres _ _ _, hargs _ hold, hvars _ hold, World.keptBut_mono (fun p hp => ⟨hp, ?_⟩) hk, fun _ => ?_⟩
 · rw [hps, List.mem_append] at hp
   exact Or.inr hp
 · obtain ⟨_, _, _, _, _, hz, hn⟩ := hW
   refine ⟨hok, _, _, ([] ++ pa) ++ pv, ⟨[] ++ pa, pv, trodAll_append (hargs _ (fun _ _ => rfl)) (hres _ _ _), hvars _ (fun _ _ => rfl), rfl, ?_, ?_⟩, ?_⟩
   · intro b off hp
     have hp' : MemPlace.cell b off ∈ before := by rw [hps]; simpa using hp
     rw [hfz _ (hlt _ hp')]
     exact hz b off hp'
   · intro ha
     have := hn ha
     rw [hps] at this
     simpa using this
   · intro p hp _
     rw [hps]
     simpa using hp
end
theorem GlobR.empty {P : Program} {w : World} {Im : Nat → Prop} (h : gtab P = []) : GlobR P w Im := fun e he => by rw [h] at he; cases he
end Go.Am
namespace Go.Am
variable {P : Program} {ω : Nat → Value}
end Go.Am
/- Rows: data of bools, integers, strings, structs, arrays and slices, opened. -/
namespace Go.Am
open Go.ChangeShapes Go.WideShapes
section
variable {P : Program}
inductive All2 {α β : Type} (R : α → β → Prop) : List α → List β → Prop
 | nil : All2 R [] []
 | cons {a : α} {b : β} {l : List α} {m : List β} : R a b → All2 R l m → All2 R (a :: l) (b :: m)
theorem All2.append {α β : Type} {R : α → β → Prop} : ∀ {l : List α} {m : List β} {l' : List α} {m' : List β}, All2 R l m → All2 R l' m' → All2 R (l ++ l') (m ++ m')
 | _, _, _, _, .nil, h => h
 | _, _, _, _, .cons h t, h' => .cons h (t.append h')
theorem All2.len {α β : Type} {R : α → β → Prop} : ∀ {l : List α} {m : List β}, All2 R l m → l.length = m.length
 | _, _, .nil => rfl
 | _, _, .cons _ t => by simp [t.len]
theorem All2.mono {α β : Type} {R S : α → β → Prop} (hRS : ∀ a b, R a b → S a b) : ∀ {l : List α} {m : List β}, All2 R l m → All2 S l m
 | _, _, .nil => .nil
 | _, _, .cons h t => .cons (hRS _ _ h) (t.mono hRS)
theorem All2.cons_inv {α β : Type} {R : α → β → Prop} {a : α} {l : List α} {m : List β} (h : All2 R (a :: l) m) : ∃ b m', m = b :: m' ∧ R a b ∧ All2 R l m' := by
 cases h with | cons h t => exact ⟨_, _, rfl, h, t⟩
theorem All2.nil_inv {α β : Type} {R : α → β → Prop} {m : List β} (h : All2 R ([] : List α) m) : m = [] := by cases h; rfl
inductive OkV (P : Program) : TypeId → SV → Prop
 | bool {t : TypeId} {b : Bool} : P.underlying t = some .bool → OkV P t (.bool b)
 | int {t : TypeId} {k : IntKind} {n : Int} : P.underlying t = some (.int k) → (Lit.int k n).wf = true → OkV P t (.int k n)
 | str {t : TypeId} {l : List UInt8} : P.underlying t = some .string → l.length ≤ maxLen → OkV P t (.str l)
 | sl {t e : TypeId} {es : List SV} : P.underlying t = some (.slice e) → es.length ≤ maxLen → (∀ v ∈ es, OkV P e v) → OkV P t (.psl e es)
 | agg {t : TypeId} {cs : List SV} : isAggT P t = true → All2 (OkV P) (leaves P 40 t) cs → OkV P t (.agg cs)
def fieldsFlat (P : Program) (rec : TypeId → Bool) : List Field → Nat → Nat → Bool
 | [], o, n => Nat.beq o n
 | f :: fs, o, n => Nat.beq f.offset o && rec f.type && fieldsFlat P rec fs (o + P.cellsOf f.type) n
def flatT (P : Program) : Nat → TypeId → Bool
 | 0, _ => false
 | d + 1, t =>
  match P.underlying t with
  | some .bool => Nat.beq (P.cellsOf t) 1
  | some (.int _) => Nat.beq (P.cellsOf t) 1
  | some .string => Nat.beq (P.cellsOf t) 1
  | some (.slice e) => Nat.beq (P.cellsOf t) 1 && Nat.blt 0 (P.cellsOf e) && flatT P d e
  | some (.struct fs) => fieldsFlat P (flatT P d) fs.toList 0 (P.cellsOf t)
  | some (.array n e) => Nat.beq (n * P.cellsOf e) (P.cellsOf t) && flatT P d e
  | _ => false
theorem ofNat_beq {a b : Nat} (h : Nat.beq a b = true) : a = b := Nat.eq_of_beq_eq_true h
end
section
variable {P : Program} {H : Type} {enc : TypeId × Value → H} {w : World} {base : Nat} {spare : Nat → Bool} {held : Bool}
abbrev Old (w : World) : Nat → Prop := fun b => b < w.heap.size
def Opens (P : Program) (w : World) (ts : List TypeId) (cs : List Value) : Prop := ∃ ss, All2 (OkV P) ts ss ∧ All2 (fun s c => VRel P om0 w (Old w) noTh s c) ss cs
theorem Opens.append {ts ts' : List TypeId} {cs cs' : List Value} : Opens P w ts cs → Opens P w ts' cs' → Opens P w (ts ++ ts') (cs ++ cs')
 | ⟨ss, h1, h2⟩, ⟨ss', h1', h2'⟩ => ⟨ss ++ ss', h1.append h1', h2.append h2'⟩
theorem Opens.nil : Opens P w [] [] := ⟨[], .nil, .nil⟩
theorem Opens.one {t : TypeId} {s : SV} {c : Value} (h1 : OkV P t s) (h2 : VRel P om0 w (Old w) noTh s c) : Opens P w [t] [c] := ⟨[s], .cons h1 .nil, .cons h2 .nil⟩
theorem all2_lrel {ss : List SV} {cs : List Value} {θ : Th} {Im : Nat → Prop} : All2 (fun s c => VRel P om0 w Im θ s c) ss cs → LRel P om0 w Im θ ss cs := by
 intro h
 induction h with
 | nil => exact ⟨rfl, fun i v u h => by simp at h⟩
 | cons h _ ih =>
  refine ⟨by simp [ih.len], fun i v u hv hu => ?_⟩
  cases i with
  | zero => simp at hv hu; subst hv; subst hu; exact h
  | succ i => exact ih.at_ i v u (by simpa using hv) (by simpa using hu)
def valOf (P : Program) (t : TypeId) (cs : List Value) : Value := if isAggT P t then .agg cs.toArray else match cs with
 | [c] => c
 | _ => .agg cs.toArray
theorem expandFrom_self {P : Program} (v : List SV) : ∀ (ts : List TypeId) (cs : List SV) (j : Nat), (∀ (i : Nat) (u : TypeId) (c : SV), ts[i]? = some u → cs[i]? = some c → expandLeaf P u c = c) → ts.length = cs.length → (∀ i : Nat, v.getD (j + i) .junk = cs.getD i .junk) → expandFrom P (.agg v) ts j = cs
 | [], [], _, _, _, _ => rfl
 | [], _ :: _, _, _, h, _ => by simp at h
 | _ :: _, [], _, _, h, _ => by simp at h
 | u :: us, c :: cs, j, h1, h2, h3 => by
  have e0 := h3 0
  simp only [Nat.add_zero, List.getD_cons_zero] at e0
  have := h1 0 u c (by simp) (by simp)
  simp only [expandFrom, cellAt, e0, this]
  congr 1
  exact expandFrom_self v us cs (j + 1) (fun i u' c' hu hc => h1 (i + 1) u' c' (by simpa using hu) (by simpa using hc)) (by simpa using h2) (fun i => by
   have := h3 (i + 1)
   rw [show j + (i + 1) = j + 1 + i by omega] at this
   simpa using this)
theorem all2_at {α β : Type} {R : α → β → Prop} : ∀ {l : List α} {m : List β}, All2 R l m → ∀ (i : Nat) (a : α) (b : β), l[i]? = some a → m[i]? = some b → R a b
 | _, _, .nil, i, a, b, h, _ => by simp at h
 | _, _, .cons h t, i, a, b, ha, hb => by
  cases i with
  | zero => simp at ha hb; subst ha; subst hb; exact h
  | succ i => exact all2_at t i a b (by simpa using ha) (by simpa using hb)
theorem OkV.leaf {t : TypeId} {v : SV} (h : OkV P t v) (ha : isAggT P t = false) : expandLeaf P t v = v := by
 cases h with
 | bool h => simp [expandLeaf, h, asB]
 | int h _ => simp [expandLeaf, h, asI]
 | str h _ => simp [expandLeaf, h, asS]
 | sl h _ _ => simp [expandLeaf, h, asL]
 | agg h _ => rw [h] at ha; cases ha
theorem isAgg_leaf {t : TypeId} (h : isAggT P t = false) (d : Nat) : leaves P (d + 1) t = [t] := by
 unfold isAggT at h
 unfold leaves
 split at h
 · cases h
 · cases h
 · rename_i h1 h2
   first
   | rfl
   | (split
      · rename_i fs hh; exact absurd hh (h1 fs)
      · rename_i n e hh; exact absurd hh (h2 n e)
      · rfl)
theorem repL_mem {α : Type} {x : α} : ∀ {n : Nat} {l : List α}, x ∈ repL n l → x ∈ l
 | 0, _, h => by simp [repL] at h
 | n + 1, l, h => by
  simp only [repL, List.mem_append] at h
  rcases h with h | h
  · exact h
  · exact repL_mem h
theorem leaves_leaf : ∀ (d : Nat) (t u : TypeId), u ∈ leaves P d t → isAggT P u = false
 | 0, t, u, h => by simp [leaves] at h
 | d + 1, t, u, h => by
  unfold leaves at h
  split at h
  · rw [List.mem_flatMap] at h
    obtain ⟨f, _, hf⟩ := h
    exact leaves_leaf d _ _ hf
  · exact leaves_leaf d _ _ (repL_mem h)
  · rename_i h1 h2
    simp only [List.mem_singleton] at h
    subst h
    unfold isAggT
    split
    · rename_i fs hh; exact absurd hh (h1 fs)
    · rename_i n e hh; exact absurd hh (h2 n e)
    · rfl
theorem OkV.expand {t : TypeId} {v : SV} (h : OkV P t v) : Go.Am.expand P t v = v := by
 cases hb : isAggT P t with
 | false => simp only [Go.Am.expand, hb, cond_false]; exact h.leaf hb
 | true =>
  cases h with
  | bool h => simp [isAggT, h] at hb
  | int h _ => simp [isAggT, h] at hb
  | str h _ => simp [isAggT, h] at hb
  | sl h _ _ => simp [isAggT, h] at hb
  | agg _ h =>
   simp only [Go.Am.expand, hb, cond_true]
   congr 1
   refine expandFrom_self _ _ _ 0 (fun i u c hu hc => ?_) h.len (fun i => by simp)
   exact (all2_at h i u c hu hc).leaf (leaves_leaf 40 t u (List.mem_of_getElem? hu))
theorem opens_val {t : TypeId} {cs : List Value} (h : Opens P w (leaves P 40 t) cs) : ∃ s, OkV P t s ∧ VRel P om0 w (Old w) noTh s (valOf P t cs) := by
 obtain ⟨ss, h1, h2⟩ := h
 cases hb : isAggT P t with
 | true =>
  refine ⟨.agg ss, .agg hb h1, ?_⟩
  simp only [valOf, hb, if_true]
  have hl := all2_lrel h2
  exact .agg (by simp [hl.len]) (fun i v u hv hu => hl.at_ i v u hv (by simpa using hu))
 | false =>
  rw [isAgg_leaf hb 39] at h1
  obtain ⟨s, m, rfl, h3, h4⟩ := h1.cons_inv
  obtain rfl := h4.nil_inv
  obtain ⟨c, m, rfl, h5, h6⟩ := h2.cons_inv
  obtain rfl := h6.nil_inv
  exact ⟨s, h3, by simpa [valOf, hb] using h5⟩
theorem scal_cells {t : TypeId} {s : SV} {c : Value} (h1 : OkV P t s) (h2 : VRel P om0 w (Old w) noTh s c) (hb : isAggT P t = false) : c.cells = #[c] := by
 cases h1 with
 | bool h => cases h2; rfl
 | int h _ => cases h2; rfl
 | str h _ => cases h2; rfl
 | sl h _ _ => cases h2; rfl
 | agg h _ => rw [h] at hb; cases hb
theorem opens_cells {t : TypeId} {cs : List Value} (h : Opens P w (leaves P 40 t) cs) : (valOf P t cs).cells.toList = cs := by
 cases hb : isAggT P t with
 | true => simp [valOf, hb, Value.cells]
 | false =>
  obtain ⟨ss, h1, h2⟩ := h
  rw [isAgg_leaf hb 39] at h1
  obtain ⟨s, m, rfl, h3, h4⟩ := h1.cons_inv
  obtain rfl := h4.nil_inv
  obtain ⟨c, m, rfl, h5, h6⟩ := h2.cons_inv
  obtain rfl := h6.nil_inv
  simp [valOf, hb, scal_cells h3 h5 hb]
theorem opens_flds {rd : TypeId → List Value → Prop} {d k n : Nat} {cs : List Value} (hcs : cs.length = n) (hrd : ∀ t cs, flatT P d t = true → rd t cs → Opens P w (leaves P k t) cs) : ∀ (fs : List Field) (o : Nat), fieldsFlat P (flatT P d) fs o n = true →
  (∀ f ∈ fs, rd f.type ((cs.drop f.offset).take (P.cellsOf f.type))) → o ≤ n → Opens P w (fs.flatMap fun f => leaves P k f.type) (cs.drop o)
 | [], o, h, _, _ => by
  have : o = n := ofNat_beq h
  have : cs.drop o = [] := by rw [List.drop_eq_nil_iff]; omega
  rw [this]
  exact .nil
 | f :: fs, o, h, hx, ho => by
  simp only [fieldsFlat, Bool.and_eq_true] at h
  obtain ⟨⟨h1, h2⟩, h3⟩ := h
  have e1 : f.offset = o := ofNat_beq h1
  have hf := hrd _ _ h2 (hx f (by simp))
  rw [e1] at hf
  have hle : o + P.cellsOf f.type ≤ n := by
   clear hx hf hrd e1 h1 h2
   have key : ∀ (fs : List Field) (o : Nat), fieldsFlat P (flatT P d) fs o n = true → o ≤ n := by
    intro fs
    induction fs with
    | nil => intro o h; exact Nat.le_of_eq (ofNat_beq h)
    | cons g gs ih =>
     intro o h
     simp only [fieldsFlat, Bool.and_eq_true] at h
     have := ih _ h.2
     omega
   exact key fs _ h3
  have := opens_flds hcs hrd fs (o + P.cellsOf f.type) h3 (fun g hg => hx g (by simp [hg])) hle
  have e2 : cs.drop o = (cs.drop o).take (P.cellsOf f.type) ++ cs.drop (o + P.cellsOf f.type) := by
   rw [← List.drop_drop, List.take_append_drop]
  rw [e2, List.flatMap_cons]
  exact hf.append this
theorem opens_elems {t : TypeId} {k m : Nat} {cs : List Value} (hx : ∀ i, i < m → Opens P w (leaves P k t) ((cs.drop (i * P.cellsOf t)).take (P.cellsOf t))) : ∀ j, j ≤ m → cs.length = m * P.cellsOf t → Opens P w (repL j (leaves P k t)) (cs.drop ((m - j) * P.cellsOf t)) := by
 intro j
 induction j with
 | zero =>
  intro _ hl
  have : cs.drop ((m - 0) * P.cellsOf t) = [] := by rw [List.drop_eq_nil_iff]; simp [hl]
  rw [this]
  exact .nil
 | succ j ih =>
  intro hj hl
  have h1 := hx (m - (j + 1)) (by omega)
  have h2 := ih (by omega) hl
  have e2 : cs.drop ((m - (j + 1)) * P.cellsOf t) = (cs.drop ((m - (j + 1)) * P.cellsOf t)).take (P.cellsOf t) ++ cs.drop ((m - j) * P.cellsOf t) := by
   have : (m - j) * P.cellsOf t = (m - (j + 1)) * P.cellsOf t + P.cellsOf t := by
    rw [← Nat.succ_mul]; congr 1; omega
   rw [this, ← List.drop_drop, List.take_append_drop]
  rw [e2]
  exact h1.append h2
theorem addr_add (b o n : Nat) : (⟨b, o, none⟩ : Addr).add n = ⟨b, o + n, none⟩ := by
 unfold Addr.add
 split
 · rename_i h; subst h; rfl
 · rfl
theorem open_flat : ∀ (d : Nat) (t : TypeId), flatT P d t = true → d ≤ 40 → ∀ (k : Nat), d ≤ k → ∀ (n : Nat) (cs : List Value) (x : DataW H × List MemPlace), DataW.trod enc P w base spare held n t cs = some x → Opens P w (leaves P k t) cs := by
 intro d
 induction d with
 | zero => intro t h; simp [flatT] at h
 | succ d ih =>
  intro t h hd k hk n cs x hx
  obtain ⟨k, rfl⟩ : ∃ k', k = k' + 1 := ⟨k - 1, by omega⟩
  cases hu : P.underlying t with
  | none => simp [flatT, hu] at h
  | some q =>
   cases q with
   | bool =>
    obtain ⟨b, rfl, -⟩ := DataW.trod_bool hu hx
    rw [isAgg_leaf (by simp [isAggT, hu])]
    exact .one (.bool hu) .bool
   | int kd =>
    obtain ⟨z, rfl, -, hz⟩ := DataW.trod_int hu hx
    rw [isAgg_leaf (by simp [isAggT, hu])]
    exact .one (.int hu hz) .int
   | string =>
    obtain ⟨s, rfl, -, hz⟩ := DataW.trod_string hu hx
    rw [isAgg_leaf (by simp [isAggT, hu])]
    exact .one (.str hu (by simpa using hz)) (.str rfl)
   | slice e =>
    simp only [flatT, hu, Bool.and_eq_true] at h
    obtain ⟨⟨h1, h2⟩, h3⟩ := h
    have hpos : 0 < P.cellsOf e := by simpa using h2
    rw [isAgg_leaf (by simp [isAggT, hu])]
    rcases Go.Deep.open_slice hu hx with ⟨rfl, -⟩ | ⟨a, len, cap, m, n', D, Pl, rfl, hb, hl, hm, hmm, -, hel⟩
    · exact .one (s := .psl e []) (.sl hu (by simp) (fun v hv => by cases hv)) (.psl (es := []) (fun _ => undef) rfl ⟨Nat.le_refl _, fun _ => rfl⟩ (fun v hv => by cases hv) (fun i v h => by simp at h) (fun hn => absurd rfl hn))
    · have hlm : len ≤ m := by rw [hmm]; split <;> omega
      have key : ∀ i, i < len → ∃ p : SV × List Value, OkV P e p.1 ∧ w.cells? base (a.add (i * P.cellsOf e)) (P.cellsOf e) = some p.2 ∧ VRel P om0 w (Old w) noTh p.1 (valOf P e p.2) ∧ (valOf P e p.2).cells.toList = p.2 := by
       intro i hi
       obtain ⟨cs', c1, c2⟩ := hel i (by omega)
       have ho := ih e h3 (by omega) 40 (by omega) _ _ _ c2
       obtain ⟨s, s1, s2⟩ := opens_val ho
       exact ⟨(s, cs'), s1, c1, s2, opens_cells ho⟩
      obtain ⟨F, hF⟩ := @Go.Deep.choose_lt (SV × List Value) ⟨(.junk, [])⟩ len _ key
      refine .one (s := .psl e ((List.range len).map fun i => (F i).1)) (.sl hu (by simp; omega) (fun v hv => ?_)) ?_
      · simp only [List.mem_map, List.mem_range] at hv
        obtain ⟨i, hi, rfl⟩ := hv
        exact (hF i hi).1
      · refine .psl (fun i => valOf P e (F i).2) (by simp) ⟨hl, fun h => by cases h⟩ (fun v hv => ?_) (fun i v hv => ?_) (fun hn => ?_)
        · simp only [List.mem_map, List.mem_range] at hv
          obtain ⟨i, hi, rfl⟩ := hv
          exact (hF i hi).1.expand
        · simp only [List.getElem?_map, Option.map_eq_some_iff] at hv
          obtain ⟨j, hj, rfl⟩ := hv
          obtain ⟨hi, hij⟩ := List.getElem?_eq_some_iff.1 hj
          simp only [List.length_range] at hi
          simp only [List.getElem_range] at hij
          subst hij
          exact (hF i hi).2.2.1
        · have h0 := hF 0 (by omega)
          obtain ⟨-, hcl, hca⟩ := World.cells?_some h0.2.1
          have hc0 := hca 0 hpos
          have hc1 : ∃ c, (F 0).2[0]? = some c := ⟨(F 0).2[0]'(by omega), by simp⟩
          obtain ⟨c, hc1⟩ := hc1
          rw [hc1] at hc0
          have hsp : a.spot = none ∧ a.block < w.heap.size := by
           simp only [World.cell?, Addr.add, Nat.zero_mul, Nat.add_zero] at hc0
           split at hc0
           · rename_i cc q1 q2 hh
             constructor
             · cases hs : a.spot with
               | none => rfl
               | some z => simp [hs] at hc0
             · obtain ⟨hlt, _⟩ := Array.getElem?_eq_some_iff.1 hh
               exact hlt
           · cases hc0
          obtain ⟨ab, ao, as⟩ := a
          obtain ⟨hs0, hlt⟩ := hsp
          simp only at hs0 hlt
          subst hs0
          refine ⟨ab, ao, rfl, hlt, fun i hi => ?_⟩
          obtain ⟨-, b1, b2⟩ := World.cells?_some (hF i hi).2.1
          have e1 := (hF i hi).2.2.2
          have hsz : (valOf P e (F i).2).cells.size = P.cellsOf e := by
           have := congrArg List.length e1
           simpa [b1] using this
          refine ⟨hsz, fun dd c hdc => ?_⟩
          have hdc' : (F i).2[dd]? = some c := by
           rw [← e1]; simpa using hdc
          have hlt2 : dd < P.cellsOf e := by
           rw [← b1]
           exact (List.getElem?_eq_some_iff.1 hdc').1
          have := b2 dd hlt2
          rw [hdc'] at this
          rw [← this]
          rw [addr_add, addr_add]
   | struct fs =>
    simp only [flatT, hu] at h
    obtain ⟨xs, m, rfl, -, hl, hxl, hat⟩ := DataW.trod_struct hu hx
    have e1 : leaves P (k + 1) t = fs.toList.flatMap fun f => leaves P k f.type := by simp [leaves, hu]
    rw [e1]
    have := opens_flds (w := w) (rd := fun t cs => ∃ y, DataW.trod enc P w base spare held m t cs = some y) hl (fun t cs hf ⟨y, hy⟩ => ih t hf (by omega) k (by omega) m cs y hy) fs.toList 0 h (fun f hf => by
     obtain ⟨i, hi, rfl⟩ := List.mem_iff_getElem.1 hf
     have hi' : i < fs.size := by simpa using hi
     refine ⟨xs[i]'(by omega), ?_⟩
     rw [hat i _ (by simp [hi'])]
     simp) (Nat.zero_le _)
    simpa using this
   | array m e =>
    simp only [flatT, hu, Bool.and_eq_true] at h
    obtain ⟨h1, h2⟩ := h
    have h1 : m * P.cellsOf e = P.cellsOf t := ofNat_beq h1
    obtain ⟨xs, n', rfl, -, hl, hxl, hat⟩ := DataW.trod_array hu hx
    have e1 : leaves P (k + 1) t = repL m (leaves P k e) := by simp [leaves, hu]
    rw [e1]
    have := opens_elems (P := P) (w := w) (t := e) (k := k) (m := m) (cs := cs) (fun i hi => ih e h2 (by omega) k (by omega) n' _ (xs[i]'(by omega)) (by rw [hat i hi]; simp)) m (Nat.le_refl _) (by rw [hl, h1])
    simpa using this
   | _ => simp [flatT, hu] at h
theorem open_data {r : Reach} {b0 : Nat} {t : TypeId} {v : Value} {dt : DataW H} {p : List MemPlace} (hf : flatT P 40 t = true) (hv : Value.okWide P w r b0 t v) (h : DataW.Trod enc P w base spare held t v dt p) : ∃ s, OkV P t s ∧ VRel P om0 w (Old w) noTh s v := by
 obtain ⟨n, hn⟩ := h
 have ho := open_flat 40 t hf (Nat.le_refl _) 40 (Nat.le_refl _) n _ _ hn
 obtain ⟨s, h1, h2⟩ := opens_val ho
 refine ⟨s, h1, ?_⟩
 have e : valOf P t v.cells.toList = v := by
  cases hb : isAggT P t with
  | true =>
   have : ∃ cs, v = .agg cs := by
    unfold isAggT at hb
    unfold Value.okWide at hv
    split at hb
    · rename_i hu; rw [hu] at hv; exact ⟨hv.choose, hv.choose_spec.1⟩
    · rename_i hu; rw [hu] at hv; exact ⟨hv.choose, hv.choose_spec.1⟩
    · cases hb
   obtain ⟨cs, rfl⟩ := this
   simp [valOf, hb, Value.cells]
  | false =>
   obtain ⟨ss, g1, g2⟩ := ho
   rw [isAgg_leaf hb 39] at g1
   obtain ⟨s, m, rfl, h3, h4⟩ := g1.cons_inv
   obtain rfl := h4.nil_inv
   obtain ⟨c, m, hc, h5, h6⟩ := g2.cons_inv
   obtain rfl := h6.nil_inv
   have hcc := scal_cells h3 h5 hb
   rw [hc]
   simp only [valOf, hb]
   show c = v
   cases v with
   | agg cs =>
    have : cs.toList = [c] := hc
    exfalso
    -- a value of a type of one cell is no row
    unfold isAggT at hb
    unfold Value.okWide at hv
    split at hb
    · cases hb
    · cases hb
    · rename_i u1 u2
      have hv' : Cell.okWide P w r b0 t (.agg cs) := by
       revert hv
       cases hu : P.underlying t with
       | none => exact id
       | some q => cases q <;> first | exact id | exact absurd hu (u1 _) | exact absurd hu (u2 _ _)
      cases h3 with
      | bool hu => simp [Cell.okWide, Cell.ok, hu] at hv'
      | int hu _ => simp [Cell.okWide, Cell.ok, hu] at hv'
      | str hu _ => simp [Cell.okWide, Cell.ok, hu] at hv'
      | sl hu _ _ => simp [Cell.okWide, Cell.ok, hu] at hv'
      | agg hu _ => simp [isAggT] at hu
   | _ => simp [Value.cells] at hc; exact hc.symm
 rw [e] at h2
 exact h2
end
end Go.Am
namespace Go.Am
section
variable {P : Program}
theorem OkV.int_inv {t : TypeId} {v : SV} {k : IntKind} (h : OkV P t v) (hu : P.underlying t = some (.int k)) : ∃ n, v = .int k n ∧ (Lit.int k n).wf = true := by
 cases h with
 | bool h => rw [hu] at h; cases h
 | int h w => rw [hu] at h; cases h; exact ⟨_, rfl, w⟩
 | str h _ => rw [hu] at h; cases h
 | sl h _ _ => rw [hu] at h; cases h
 | agg h _ => simp [isAggT, hu] at h
theorem OkV.bool_inv {t : TypeId} {v : SV} (h : OkV P t v) (hu : P.underlying t = some .bool) : ∃ b, v = .bool b := by
 cases h with
 | bool h => exact ⟨_, rfl⟩
 | int h w => rw [hu] at h; cases h
 | str h _ => rw [hu] at h; cases h
 | sl h _ _ => rw [hu] at h; cases h
 | agg h _ => simp [isAggT, hu] at h
theorem OkV.sl_inv {t e : TypeId} {v : SV} (h : OkV P t v) (hu : P.underlying t = some (.slice e)) : ∃ es, v = .psl e es ∧ es.length ≤ maxLen ∧ ∀ x ∈ es, OkV P e x := by
 cases h with
 | bool h => rw [hu] at h; cases h
 | int h w => rw [hu] at h; cases h
 | str h w => rw [hu] at h; cases h
 | sl h w g => rw [hu] at h; cases h; exact ⟨_, rfl, w, g⟩
 | agg h _ => simp [isAggT, hu] at h
theorem OkV.agg_inv {t : TypeId} {v : SV} (h : OkV P t v) (hu : isAggT P t = true) : ∃ cs, v = .agg cs ∧ All2 (OkV P) (leaves P 40 t) cs := by
 cases h with
 | bool h => simp [isAggT, h] at hu
 | int h w => simp [isAggT, h] at hu
 | str h w => simp [isAggT, h] at hu
 | sl h _ _ => simp [isAggT, h] at hu
 | agg h g => exact ⟨_, rfl, g⟩
end
end Go.Am
/- Rows: from what a law's body comes to, whatever data it is handed, to the row's statement. -/
namespace Go.Am
open Go.ChangeShapes Go.WideShapes Go.ChangeAt Go.RowKit Go.Joins
section
variable {P : Program} {H : Type} {enc : TypeId × Value → H} {w : World} {base : Nat} {spare : Nat → Bool} {held : Bool}
theorem open_args {r : Reach} {b0 : Nat} : ∀ {ts : List TypeId} {vs : List Value} {ds : List (DataW H)} {p : List MemPlace}, ts.all (flatT P 40) = true → (∀ (j : Nat) t v, ts[j]? = some t → vs[j]? = some v → Value.okWide P w r b0 t v) → DataW.TrodAll enc P w base spare held ts vs ds p →
  ds.length = ts.length ∧ ∃ ss, All2 (OkV P) ts ss ∧ All2 (fun s c => VRel P om0 w (Old w) noTh s c) ss vs
 | [], [], [], _, _, _, _ => ⟨rfl, [], .nil, .nil⟩
 | t :: ts, v :: vs, d :: ds, _, hf, hv, ⟨p, q, h1, h2, _⟩ => by
  simp only [List.all_cons, Bool.and_eq_true] at hf
  obtain ⟨s, a, b⟩ := open_data hf.1 (hv 0 t v rfl rfl) h1
  obtain ⟨e, ss, a', b'⟩ := open_args hf.2 (fun j t v ht hv' => hv (j + 1) t v (by simpa using ht) (by simpa using hv')) h2
  exact ⟨by simp [e], s :: ss, .cons a a', .cons b b'⟩
 | [], [], _ :: _, _, _, _, h => by simp [DataW.TrodAll] at h
 | [], _ :: _, _, _, _, _, h => by simp [DataW.TrodAll] at h
 | _ :: _, [], _, _, _, _, h => by simp [DataW.TrodAll] at h
 | _ :: _, _ :: _, [], _, _, _, h => by simp [DataW.TrodAll] at h
theorem old_call {f : FuncId} {s : CSumm} (hs : Known P f s) {args : List SV} {v : SV} {ups : List (Nat × Option Chunk)} (hr : crun (s args []) = some (v, ups)) {us : List Value} {w : World} (hgl : GlobR P w (Old w))
  (ha : LRel P om0 w (Old w) noTh args us) :
  Calls P f us.toArray w fun e w' => ∃ u θ' Im', e = .returned u ∧ VRel P om0 w' Im' θ' v u ∧ w'.os = w.os ∧ w'.output = w.output ∧ ∀ b, b < w.heap.size → w'.heap[b]? = w.heap[b]? := by
 have hg : ∀ x c, HpL.get [] x ≠ some c := fun x c h => by simp [HpL.get] at h
 refine (hs.ok args [] v ups hr (fun i p h => by simp at h) om0 noTh (Old w) w us ha ⟨fun x c h => absurd h (hg x c), fun x y c c' b N N' h => absurd h (hg x c), fun x c b N h => absurd h (hg x c), fun b h => h, hgl⟩ (fun x _ => rfl)).mono ?_
 rintro e w' ⟨u, θ', Im', rfl, he, hv, _⟩
 exact ⟨u, θ', Im', rfl, hv, he.os, he.output, fun b hb => he.keep b hb (fun x c N hx => absurd hx (hg x c))⟩
theorem kept_of_same {w w' : World} (ho : w'.os = w.os) (hp : w'.output = w.output) (hk : ∀ b, b < w.heap.size → w'.heap[b]? = w.heap[b]?) (may : MemPlace → Prop) : w.keptBut w' may := by
 refine ⟨ho, hp, fun i hi => ?_⟩
 rw [hk i hi]
 cases w.heap[i]? with
 | none => rfl
 | some o =>
  cases o with
  | cells c t fr => exact ⟨rfl, rfl, rfl, fun _ _ => rfl⟩
  | map es clock => exact .inr ⟨rfl, rfl⟩
  | _ => rfl
theorem trodAll_carry {w w' : World} : ∀ {ts : List TypeId} {vs : List Value} {ds : List (DataW H)} {p : List MemPlace}, DataW.TrodAll enc P w base spare held ts vs ds p → (∀ q ∈ p, w.sameAt w' q) → DataW.TrodAll enc P w' base spare held ts vs ds p
 | [], [], [], _, h, _ => h
 | _ :: _, _ :: _, _ :: _, _, ⟨p, q, ⟨n, hn⟩, h2, e⟩, hs => ⟨p, q, ⟨n, DataW.trod_carry n _ _ _ hn (fun x hx => hs x (by rw [e]; exact List.mem_append_left _ hx))⟩, trodAll_carry h2 (fun x hx => hs x (by rw [e]; exact List.mem_append_right _ hx)), e⟩
 | [], [], _ :: _, _, h, _ => by simp [DataW.TrodAll] at h
 | [], _ :: _, _, _, h, _ => by simp [DataW.TrodAll] at h
 | _ :: _, [], _, _, h, _ => by simp [DataW.TrodAll] at h
 | _ :: _, _ :: _, [], _, h, _ => by simp [DataW.TrodAll] at h
theorem row_true {f : FuncId} {fn : Func} {s : ChangeSpec} {apart fresh handsOn again : Bool} {sm : CSumm} {tb : TypeId} {W : World} {b0 : Nat} {args : Array Value} {ds gs : List (DataW H)} {before : List MemPlace}
  (hl : laidOutB P = true) (hm : mapsRowed P = true) (hz : ((List.range P.types.size).all fun t => match P.underlying t with | some (.slice e) => decide (0 < P.cellsOf e) | _ => true) = true)
  (hsz : (fn.params.toList.all fun t => decide (t < P.types.size)) = true) (hflat : fn.params.toList.all (flatT P 40) = true)
  (hk : Known P f sm) (hv : s.vars = []) (hu : P.underlying tb = some .bool) (hrt : fn.resultTypes = #[tb])
  (hlaw : ∀ ss, All2 (OkV P) fn.params.toList ss → crun (sm ss []) = some (.bool true, []))
  (hspec : ∀ ds : List (DataW H), ds.length = fn.params.toList.length → s.fn H ds = { results := [.lit (.bool true)], args := ds })
  (hval : ∀ (j : Nat) t v, fn.params[j]? = some t → args[j]? = some v → Value.okWide P W .any b0 t v)
  (hW : DataW.Whole enc P fn.params.toList s.vars apart W args.toList ds gs before) (hgl : GlobR P W (Old W)) :
  Calls P f args W fun e W' => ∃ v, e = .returned v ∧ s.post enc P fn apart fresh handsOn again W args v W' := by
 have hW' := hW
 obtain ⟨p, q, hA, hV, rfl, hfz, hnd⟩ := hW
 rw [hv] at hV
 obtain ⟨rfl, rfl⟩ := trodVars_none hV
 obtain ⟨hdl, ss, o1, o2⟩ := open_args (r := .any) (b0 := b0) hflat (fun j t v ht hv => hval j t v (by simpa using ht) (by simpa using hv)) hA
 have hc := old_call hk (hlaw ss o1) hgl (all2_lrel o2)
 rw [Array.toArray_toList] at hc
 refine hc.mono ?_
 rintro o W' ⟨u, θ', Im', rfl, hu', ho, hp, hkp⟩
 cases hu'
 refine ⟨_, rfl, post_kept (pa := p) (pv := []) hW' (fun _ _ _ => ?_) (fun sp hsp => ?_) (fun sp _ => ?_) (by simp) (kept_of_same ho hp hkp _) (fun a ha => ?_) ?_⟩
 · rw [List.append_nil, hspec ds hdl, hrt]
   exact trodAll_mk1 (shut_bool hu true)
 · rw [List.append_nil, hspec ds hdl]
   refine DataW.TrodAll.respare (kids_rows hl hm) (slices_full_of P hz) (fun t ht => ?_) (trodAll_carry hA (fun q hq => ?_)) (fun x hx => hsp x (by simpa using hx))
   · simpa using List.all_eq_true.1 hsz t ht
   · have hlt := hW'.lt q (by simpa using hq)
     cases q with
     | cell b off => simp only [World.sameAt, World.cell?, hkp b hlt]
     | map b => exact hkp b hlt
 · rw [List.append_nil, hspec ds hdl, hv]
   rfl
 · simp only [World.frozen?, hkp a.block ha]
 · rw [show fn.resultTypes = #[tb] from hrt]
   intro j t r ht hr
   cases j with
   | zero =>
    simp at ht hr
    subst ht
    simp [Value.resultList] at hr
    subst hr
    exact okWide_bool_mk hu true
   | succ j => simp at ht
end
end Go.Am
/- The abstract machine: closed runs in parts: what single calls came to, by their arguments. -/
namespace Go.Am
variable {P : Program}
def eqB : List UInt8 → List UInt8 → Bool
 | [], [] => true
 | a :: l, b :: m => Nat.beq a.toNat b.toNat && eqB l m
 | _, _ => false
theorem eqB_eq : ∀ {l m : List UInt8}, eqB l m = true → l = m
 | [], [], _ => rfl
 | [], _ :: _, h => by cases h
 | _ :: _, [], h => by cases h
 | a :: l, b :: m, h => by
  simp only [eqB, Bool.and_eq_true] at h
  rw [eqB_eq h.2, UInt8.toNat_inj.1 (Nat.eq_of_beq_eq_true h.1)]
mutual
def eqSV : SV → SV → Bool
 | .junk, .junk => true
 | .bool a, .bool b => a == b
 | .int k a, .int k' b => ikEq k k' && (a == b)
 | .str a, .str b => eqB a b
 | .ptr a b, .ptr c d => Nat.beq a c && Nat.beq b d
 | .nilp, .nilp => true
 | .sl a b c d, .sl a' b' c' d' => Nat.beq a a' && Nat.beq b b' && Nat.beq c c' && Nat.beq d d'
 | .nils, .nils => true
 | .psl e es, .psl e' es' => Nat.beq e e' && eqLS es es'
 | .pnn e es, .pnn e' es' => Nat.beq e e' && eqLS es es'
 | .emp, .emp => true
 | .qs a b c d, .qs a' b' c' d' => Nat.beq a a' && Nat.beq b b' && Nat.beq c c' && Nat.beq d d'
 | .qp a b c d, .qp a' b' c' d' => Nat.beq a a' && Nat.beq b b' && Nat.beq c c' && Nat.beq d d'
 | .qo a b c, .qo a' b' c' => Nat.beq a a' && Nat.beq b b' && Nat.beq c c'
 | .qop a b c d, .qop a' b' c' d' => Nat.beq a a' && Nat.beq b b' && Nat.beq c c' && Nat.beq d d'
 | .mp a, .mp b => Nat.beq a b
 | .nilm, .nilm => true
 | .fn (.func f) a b, .fn (.func g) c d => Nat.beq f g && eqLS a c && eqLS b d
 | .nilf, .nilf => true
 | .iface t v, .iface t' v' => Nat.beq t t' && eqSV v v'
 | .nili, .nili => true
 | .agg a, .agg b => eqLS a b
 | .tup a, .tup b => eqLS a b
 | _, _ => false
def eqLS : List SV → List SV → Bool
 | [], [] => true
 | a :: l, b :: m => eqSV a b && eqLS l m
 | _, _ => false
end
mutual
theorem eqSV_eq : ∀ {a b : SV}, eqSV a b = true → a = b
 | .junk, b, h => by cases b <;> first | rfl | cases h
 | .opq _, b, h => by cases b <;> cases h
 | .bool x, b, h => by cases b <;> simp [eqSV] at h; rw [h]
 | .int k x, b, h => by cases b <;> simp [eqSV] at h; rw [ikEq_eq h.1, h.2]
 | .str x, b, h => by cases b <;> simp [eqSV] at h; rw [eqB_eq h]
 | .ptr _ _, b, h => by cases b <;> simp [eqSV] at h; rw [h.1, h.2]
 | .nilp, b, h => by cases b <;> first | rfl | cases h
 | .pel _ _, b, h => by cases b <;> cases h
 | .gp _ _, b, h => by cases b <;> cases h
 | .sl _ _ _ _, b, h => by cases b <;> simp [eqSV] at h; obtain ⟨⟨⟨rfl, rfl⟩, rfl⟩, rfl⟩ := h; rfl
 | .nils, b, h => by cases b <;> first | rfl | cases h
 | .psl _ es, b, h => by cases b <;> simp [eqSV] at h; rw [h.1, eqLS_eq h.2]
 | .pnn _ es, b, h => by cases b <;> simp [eqSV] at h; rw [h.1, eqLS_eq h.2]
 | .emp, b, h => by cases b <;> first | rfl | cases h
 | .qs _ _ _ _, b, h => by cases b <;> simp [eqSV] at h; obtain ⟨⟨⟨rfl, rfl⟩, rfl⟩, rfl⟩ := h; rfl
 | .qp _ _ _ _, b, h => by cases b <;> simp [eqSV] at h; obtain ⟨⟨⟨rfl, rfl⟩, rfl⟩, rfl⟩ := h; rfl
 | .qo _ _ _, b, h => by cases b <;> simp [eqSV] at h; obtain ⟨⟨rfl, rfl⟩, rfl⟩ := h; rfl
 | .qop _ _ _ _, b, h => by cases b <;> simp [eqSV] at h; obtain ⟨⟨⟨rfl, rfl⟩, rfl⟩, rfl⟩ := h; rfl
 | .mp _, b, h => by cases b <;> simp [eqSV] at h; rw [h]
 | .nilm, b, h => by cases b <;> first | rfl | cases h
 | .yl _, b, h => by cases b <;> cases h
 | .fn f x y, b, h => by
  cases b
  case fn g u v =>
   cases f <;> cases g <;> simp [eqSV] at h
   obtain ⟨⟨rfl, h1⟩, h2⟩ := h
   rw [eqLS_eq h1, eqLS_eq h2]
  all_goals (cases f <;> cases h)
 | .nilf, b, h => by cases b <;> first | rfl | cases h
 | .iface _ v, b, h => by cases b <;> simp [eqSV] at h; rw [h.1, eqSV_eq h.2]
 | .nili, b, h => by cases b <;> first | rfl | cases h
 | .agg a, b, h => by cases b <;> simp [eqSV] at h; rw [eqLS_eq h]
 | .tup a, b, h => by cases b <;> simp [eqSV] at h; rw [eqLS_eq h]
theorem eqLS_eq : ∀ {a b : List SV}, eqLS a b = true → a = b
 | [], [], _ => rfl
 | [], _ :: _, h => by cases h
 | _ :: _, [], h => by cases h
 | a :: l, b :: m, h => by
  simp only [eqLS, Bool.and_eq_true] at h
  rw [eqSV_eq h.1, eqLS_eq h.2]
end
structure MEnt where
 args : List SV
 H : HpL
 v : SV
 ups : List (Nat × Option Chunk)
def closedT (P : Program) (T : Nat → Option CSumm) (fuel : Nat) : Nat → Nat → Option CSumm
 | 0, f => T f
 | n + 1, f =>
  match T f with
  | some s => some s
  | none => match P.funcs[f]? with
   | some fn => bif fn.body.isNone then none else some (bodyC P (closedT P T fuel n) (fun g => inl T g && hasBody P g) false fuel fn)
   | none => none
def openT (P : Program) (T : Nat → Option CSumm) (fuel : Nat) : Nat → Nat → Option CSumm
 | 0, f => T f
 | n + 1, f =>
  match T f with
  | some s => some s
  | none => match P.funcs[f]? with
   | some fn => bif fn.body.isNone then none else some (bodyC P (openT P T fuel n) (fun g => inl T g && hasBody P g) true fuel fn)
   | none => none
theorem openT_ok (hn : noNum P) (hmix : P.follows .mixedOrders = true) {T : Nat → Option CSumm} (hT : KOk P T) (fuel : Nat) : ∀ n, KOk P (openT P T fuel n) := by
 intro n
 induction n with
 | zero => exact hT
 | succ n ih =>
  have key : ∀ f s, openT P T fuel (n + 1) f = some s → T f = some s ∨ ∃ fn, P.funcs[f]? = some fn ∧ fn.body.isNone = false ∧ s = bodyC P (openT P T fuel n) (fun g => inl T g && hasBody P g) true fuel fn := by
   intro f s h
   simp only [openT] at h
   cases hT : T f with
   | some s' => rw [hT] at h; exact .inl h
   | none =>
    simp only [hT] at h
    cases hf : P.funcs[f]? with
    | none => simp [hf] at h
    | some fn =>
     simp only [hf] at h
     cases hb : fn.body.isNone with
     | true => simp [hb] at h
     | false =>
      simp only [hb, cond_false, Option.some.injEq] at h
      exact .inr ⟨fn, rfl, hb, h.symm⟩
  constructor
  · intro f s h
    rcases key f s h with h | ⟨fn, hf, hb, rfl⟩
    · exact hT.fn f s h
    · exact ⟨fn, hf, noNum_at hn hf, hb⟩
  · intro f s h
    rcases key f s h with h | ⟨fn, hf, hb, rfl⟩
    · exact hT.ok f s h
    · exact body_valid ih hmix hf
end Go.Am
/- The abstract machine: weaker summaries; nil slices where a summary asks for lists known by content. -/
namespace Go.Am
variable {P : Program}
theorem Known.weak {f : FuncId} {s s' : CSumm} (h : Known P f s) (hs : ∀ args H v ups, crun (s' args H) = some (v, ups) → crun (s args H) = some (v, ups)) : Known P f s' :=
 ⟨h.fn, fun args H v ups hr => h.ok args H v ups (hs args H v ups hr)⟩
theorem nils_psl {ω : Nat → Value} {w : World} {Im : Nat → Prop} {θ : Th} {u : Value} {e : TypeId} (h : VRel P ω w Im θ .nils u) : VRel P ω w Im θ (.psl e []) u := by
 cases h
 exact .psl (es := []) (fun _ => undef) rfl ⟨Nat.le_refl _, fun _ => rfl⟩ (fun v hv => by cases hv) (fun i v h => by simp at h) (fun hn => absurd rfl hn)
end Go.Am
/- The abstract machine: loops, by what is known of them. -/
namespace Go.Am
variable {P : Program} {ω : Nat → Value}
def ValidL (P : Program) (e : LEnt) : Prop :=
 ∀ (args : List SV) (H : HpL) (k : IntKind) (c : Int) (outs : List SV) (ups : List (Nat × Option Chunk)), crun (e.s args H) = some (.tup (.int k c :: outs), ups) → Canon H → outs.length = e.outs.length → args.length = e.ins.length →
  ∃ m, ∀ (ω : Nat → Value) (θ : Th) (Im : Nat → Prop) (w : World) (a : Act) (Q : Exit → Act → World → Prop), a.tmps.size = e.size → LRel P ω w Im θ args (e.ins.map fun t => a.tmps.getD t undef) → HRel P ω w Im θ H.get →
   (∀ x, H.length ≤ x → θ x = none) → Mk w Im θ H.get a.defers →
   (∀ a' w' Im' θ', a'.tmps.size = e.size → Ext (fun x => H.length ≤ x) H.get w Im θ (updF ups H.get) w' Im' θ' → LRel P ω w' Im' θ' outs (e.outs.map fun t => a'.tmps.getD t undef) → HRel P ω w' Im' θ' (updF ups H.get) →
    (∀ t ∈ e.keep, a'.tmps.getD t undef = a.tmps.getD t undef) → Mk w' Im' θ' (updF ups H.get) a'.defers → New a a' w → Q (exitOf (exOf c)) a' w') →
   Code.roundsIn (FR none) 0 P e.code Q m a w
theorem keepT_get : ∀ (l : List Nat) (s : St) (t : Tr SV) (j : Nat), (∀ x ∈ l, x < 16000) → (keepT l s t).get j = if j ∈ l then some (s.tmp j) else t.get j
 | [], s, t, j, _ => by simp [keepT]
 | x :: l, s, t, j, h => by
  simp only [keepT]
  rw [keepT_get l s _ j (fun y hy => h y (by simp [hy]))]
  rw [Tr.get_set 14 t x _ j (by have := h x (by simp); omega)]
  by_cases h1 : j ∈ l
  · simp [h1]
  · by_cases h2 : j = x
    · subst h2; simp [h1]
    · simp [h1, h2]
theorem keepI_get : ∀ (l : List Nat) (t : Tr SV) (j : Nat), (∀ x ∈ l, x < 16000) → (keepI l t).get j = if j ∈ l then some (.opq j) else t.get j
 | [], t, j, _ => by simp [keepI]
 | x :: l, t, j, h => by
  simp only [keepI]
  rw [keepI_get l _ j (fun y hy => h y (by simp [hy]))]
  rw [Tr.get_set 14 t x _ j (by have := h x (by simp); omega)]
  by_cases h1 : j ∈ l
  · simp [h1]
  · by_cases h2 : j = x
    · subst h2; simp [h1]
    · simp [h1, h2]
theorem setPs_at : ∀ (l : List Nat) (vs : List SV) (t : Tr SV) (j : Nat), (∀ x ∈ l, x < 16000) → ((setPs l vs t).get j = t.get j ∧ (j ∉ l ∨ l.length ≠ vs.length)) ∨ ∃ i : Nat, l[i]? = some j ∧ ∃ v, vs[i]? = some v ∧ (setPs l vs t).get j = some v
 | [], vs, t, j, _ => by left; cases vs <;> exact ⟨rfl, .inl (by simp)⟩
 | x :: l, [], t, j, _ => .inl ⟨rfl, .inr (by simp)⟩
 | x :: l, v :: vs, t, j, h => by
  simp only [setPs]
  rcases setPs_at l vs (t.set 14 x (some v)) j (fun y hy => h y (by simp [hy])) with ⟨h1, h2⟩ | ⟨i, h1, v', h2, h3⟩
  · rw [h1, Tr.get_set 14 t x _ j (by have := h x (by simp); omega)]
    by_cases h4 : j = x
    · subst h4
      exact .inr ⟨0, rfl, v, rfl, by simp⟩
    · rw [if_neg h4]
      refine .inl ⟨rfl, ?_⟩
      rcases h2 with h2 | h2
      · exact .inl (by simp [h4, h2])
      · exact .inr (by simpa using h2)
  · exact .inr ⟨i + 1, by simpa using h1, v', by simpa using h2, h3⟩
theorem lrel_map {w : World} {Im : Nat → Prop} {θ : Th} {f : Nat → SV} {g : Nat → Value} : ∀ {l : List Nat}, (∀ t ∈ l, VRel P ω w Im θ (f t) (g t)) → LRel P ω w Im θ (l.map f) (l.map g) := by
 intro l hl
 refine ⟨by simp, fun i v u hv hu => ?_⟩
 simp only [List.getElem?_map, Option.map_eq_some_iff] at hv hu
 obtain ⟨t, ht, rfl⟩ := hv
 obtain ⟨t', ht', rfl⟩ := hu
 rw [ht] at ht'
 cases ht'
 exact hl t (List.mem_of_getElem? ht)
section
variable {R D : Type} {fl : R} {den : R → Option D} (hfl : den fl = none)
include hfl
theorem loopK_run {e : LEnt} (hv : ValidL P e) {s : St} {k : Ex → St → R} {d : D} (hs : StOk s) (h : den (loopK fl e s k) = some d) : ∃ ex s2, StOk s2 ∧ Comes P (.loop e.code) s ex s2 ∧ den (k ex s2) = some d := by
 unfold loopK at h
 cases hrd : s.rd with
 | some y => rw [hrd] at h; exact (fl_no hfl h).elim
 | none =>
  rw [hrd] at h
  simp only [] at h
  cases hb : Nat.beq s.size e.size && lowB s.size e.ins && lowB s.size e.outs && lowB s.size e.keep with
  | false => rw [hb] at h; exact (fl_no hfl h).elim
  | true =>
   rw [hb] at h
   simp only [cond_true] at h
   simp only [Bool.and_eq_true] at hb
   obtain ⟨⟨⟨b1, b2⟩, b3⟩, b4⟩ := hb
   have hsz : s.size = e.size := Nat.eq_of_beq_eq_true b1
   have hins := lowB_spec _ b2
   have houts := lowB_spec _ b3
   have hkeep := lowB_spec _ b4
   have hsmall := hs.size
   obtain ⟨r, ups, nx, rs', hm, h2⟩ := interp_run hfl _ _ h
   cases hbn : Nat.blt nx 1000000 with
   | false => rw [hbn] at h2; exact (fl_no hfl h2).elim
   | true =>
    rw [hbn] at h2
    simp only [cond_true] at h2
    have hnx : nx < 1000000 := by rw [Nat.blt_eq] at hbn; exact hbn
    split at h2
    case h_2 => exact (fl_no hfl h2).elim
    rename_i kk c outs
    cases hbl : Nat.beq outs.length e.outs.length with
    | false => rw [hbl] at h2; exact (fl_no hfl h2).elim
    | true =>
     rw [hbl] at h2
     simp only [cond_true] at h2
     have hol : outs.length = e.outs.length := Nat.eq_of_beq_eq_true hbl
     obtain ⟨hle, hkeys⟩ := callS_wf hm
     have hk : ∀ p ∈ ups, p.1 < nx := by
      intro p hp
      rcases hkeys p hp with h3 | h3
      · obtain ⟨c, hc⟩ := mrun_reads _ _ hm p.1 h3
        have := hs.dom _ c hc; omega
      · exact h3.2
     have hk2 : ∀ p ∈ ups, p.1 < 1000000 := fun p hp => by have := hk p hp; omega
     have ou := upd_ok hs hle hnx hk
     have hhp : (s.upd ups nx).hp.get = updF ups s.hp.get := upsTr_get _ _ hk2
     -- the temporaries behind the loop
     have htm : ∀ j, ((afterL e outs ups nx s).tmp j = .junk) ∨ (j ∈ e.keep ∧ (afterL e outs ups nx s).tmp j = s.tmp j) ∨ ∃ i : Nat, e.outs[i]? = some j ∧ ∃ v, outs[i]? = some v ∧ (afterL e outs ups nx s).tmp j = v := by
      intro j
      have hk16 : ∀ x ∈ e.keep, x < 16000 := fun x hx => by have := hkeep x hx; omega
      have ho16 : ∀ x ∈ e.outs, x < 16000 := fun x hx => by have := houts x hx; omega
      have he : (afterL e outs ups nx s).tmp j = match (setPs e.outs outs (keepT e.keep s .lf)).get j with
       | some v => v
       | none => .junk := rfl
      rcases setPs_at e.outs outs (keepT e.keep s .lf) j ho16 with ⟨g1, -⟩ | ⟨i, g1, v, g2, g3⟩
      · rw [he, g1, keepT_get _ _ _ _ hk16]
        by_cases hj : j ∈ e.keep
        · simp [hj]
        · simp [hj, Tr.get_lf]
      · exact .inr (.inr ⟨i, g1, v, g2, by rw [he, g3]⟩)
     have hok : StOk (afterL e outs ups nx s) := by
      refine ⟨hs.size, ou.nx, fun t ht => ?_, ou.dom, ou.m⟩
      have ht' : s.size ≤ t := ht
      rcases htm t with g | ⟨g, _⟩ | ⟨i, g, _⟩
      · exact g
      · have := hkeep t g; omega
      · have := houts t (List.mem_of_getElem? g); omega
     obtain ⟨args', H, v, u, back, q1, q2, q3, q4, hsem⟩ := enter_gen (P := P) hm
     -- the loop's own names
     have hvf : ∃ outsL, v = .tup (.int kk c :: outsL) ∧ outs = renL back outsL := by
      cases v <;> simp only [renS] at q4 <;> try (cases q4; done)
      rename_i vs
      cases vs with
      | nil => simp [renL] at q4
      | cons x vs =>
       simp only [renL, SV.tup.injEq, List.cons.injEq] at q4
       obtain ⟨h3, h4⟩ := q4
       cases x <;> simp only [renS] at h3 <;> try (cases h3; done)
       cases h3
       exact ⟨vs, rfl, h4⟩
     obtain ⟨outsL, rfl, rfl⟩ := hvf
     have holL : outsL.length = e.outs.length := by rw [renL_eq] at hol; simpa using hol
     obtain ⟨m, hmv⟩ := hv args' H kk c outsL u q1 q2 holL (by rw [q3]; simp)
     refine ⟨exOf c, afterL e (renL back outsL) ups nx s, hok, ⟨⟨rfl, hle, (upd_later hle hk2).same, (upd_later hle hk2).up, (upd_later hle hk2).low⟩, rfl, rfl, m, ?_⟩, h2⟩
     intro ω ρ Q a w Im θ sim hA
     have hρ : ρ = none := by
      rcases sim.rd with ⟨_, g⟩ | ⟨y, b, N, g, _⟩
      · exact g
      · rw [hrd] at g; cases g
     subst hρ
     show Code.roundsIn (FR none) 0 P e.code Q m a w
     have hargs : LRel P ω w Im θ (e.ins.map s.tmp) (e.ins.map fun t => a.tmps.getD t undef) := lrel_map (fun t ht => sim.sf.tm t (hins t ht))
     obtain ⟨θL, l1, l2, l3, l4, l5⟩ := hsem sim.sf.hp hargs (fun x h1 _ => sim.fr x h1)
     obtain ⟨rs0, base0, d1, db, d2, d3⟩ := sim.sf.df
     have hMkL : Mk w Im θL H.get a.defers := ⟨rs0, base0, d1, db, d2, fun r hr => ⟨(d3 r hr).1, (d3 r hr).2.1, fun y c N hy hb => by
      obtain ⟨x, c0, hx, hxb⟩ := l4 y c r N hy hb
      exact (d3 r hr).2.2 x c0 N hx hxb⟩⟩
     refine hmv ω θL Im w a Q (by rw [sim.sf.size, hsz]) l1 l2 l3 hMkL (fun a' w' Im' θL' e1 e2 e3 e4 e5 e6 e7 => ?_)
     -- back
     have hz : VRel P ω w' Im' θL' (.tup (.int kk c :: outsL)) (.tuple (.int kk c :: (e.outs.map fun t => a'.tmps.getD t undef)).toArray) := by
      refine .tup (by simpa using e3.len) (fun i v u hv hu => ?_)
      cases i with
      | zero => simp at hv hu; subst hv; subst hu; exact .int
      | succ i => exact e3.at_ i v u (by simpa using hv) (by simpa using hu)
     obtain ⟨θ', f1, f2, f3, f4, f5⟩ := l5 _ w' θL' Im' e2 hz e4
     have hE' : Ext (fun x => s.nx ≤ x) s.hp.get w Im θ (updF ups s.hp.get) w' Im' θ' := f1.mono (fun x hx => hx.1)
     have hval : ∀ t, VRel P ω w Im θ (s.tmp t) (a.tmps.getD t undef) → VRel P ω w' Im' θ' (s.tmp t) (a.tmps.getD t undef) := fun t ht => hE'.val sim.sf.hp ht
     refine hA a' w' Im' θ' ⟨hok, ⟨by rw [e1]; exact hsz.symm, fun t ht => ?_, hok.out, ?_, ?_⟩, ?_, .inl ⟨hrd, rfl⟩⟩ ?_ e7
     · have ht' : t < s.size := ht
       rcases htm t with g | ⟨g, g2⟩ | ⟨i, g, v, g2, g3⟩
       · rw [g]; exact .junk
       · rw [g2, e5 t g]; exact hval t (sim.sf.tm t ht')
       · rw [g3]
         have f2' : LRel P ω w' Im' θ' (.int kk c :: renL back outsL) (.int kk c :: (e.outs.map fun t => a'.tmps.getD t undef)) := by
          cases f2 with
          | tup p1 p2 => exact ⟨by simpa using p1, fun i v u hv hu => p2 i v u hv (by simpa using hu)⟩
         exact f2'.at_ (i + 1) v _ (by simpa using g2) (by simp [g])
     · -- marks
       show Mk w' Im' θ' ((s.upd ups nx).hp.get) a'.defers
       rw [hhp]
       obtain ⟨rs1, base1, m1, mb, m2, m3⟩ := e6
       obtain ⟨rs2, n1, n2⟩ := e7
       refine ⟨rs1, base1, m1, mb, m2, fun r hr => ⟨(m3 r hr).1, (m3 r hr).2.1, fun x c N hx hb => ?_⟩⟩
       rcases f4 x c r N hx hb with ⟨y, c0, hy, hyb⟩ | ⟨c0, hx0, hxb⟩
       · exact (m3 r hr).2.2 y c0 N hy hyb
       · have hr2 : r ∈ rs2 ∨ r ∈ rs0 := by
           have : rs1 = rs2 ++ rs0 := mark_inj2 mb db (by
            have h5 : a'.defers = rs1.map mark ++ base1 := m1
            have h6 : a.defers = rs0.map mark ++ base0 := d1
            rw [List.map_append, List.append_assoc, ← h5, n1, h6])
           rw [this] at hr
           exact List.mem_append.1 hr
         rcases hr2 with h3 | h3
         · have h4 := n2 r h3
           have := (sim.sf.hp.own x c0 r N hx0 hxb).2
           omega
         · exact (d3 r h3).2.2 x c0 N hx0 hxb
     · show HRel P ω w' Im' θ' ((s.upd ups nx).hp.get)
       rw [hhp]; exact f3
     · show Fr nx θ' ((s.upd ups nx).hp.get)
       rw [hhp]
       exact sim.fr.step hle hkeys (mrun_reads _ _ hm) f1
     · show Ext (fun x => s.nx ≤ x) s.hp.get w Im θ ((s.upd ups nx).hp.get) w' Im' θ'
       rw [hhp]; exact hE'
end
end Go.Am
