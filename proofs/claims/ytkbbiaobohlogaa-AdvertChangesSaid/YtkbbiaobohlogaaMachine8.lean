/- The abstract machine: loops, round by round. -/
import Derived.Test.YtkbbiaobohlogaaMachine7
import Derived.Test.YtkbbiaobohlogaaMachine4
set_option linter.unusedVariables false
set_option linter.unusedSimpArgs false
namespace Go.Am
variable {P : Program} {ω : Nat → Value}
def RcrOkL {R D : Type} (P : Program) (T : LTab) (den : R → Option D) (rec : Rcr R) : Prop :=
 ∀ (c : Code) (s : St) (k : Ex → St → R) (d : D), StOk s → den (rec c s k) = some d → ∃ e s2, StOk s2 ∧ Comes P (fillC T c) s e s2 ∧ den (k e s2) = some d
def LOk (P : Program) (T : LTab) : Prop := ∀ w e, T w = some e → ValidL P e
section
variable {R D : Type} {fl : R} {den : R → Option D} (hfl : den fl = none) {T : LTab} {recL rec : Rcr R} (hrecL : RcrOkL P T den recL) (hrec : RcrOk P den rec) {κ : Nat → Option CSumm} {ι : Nat → Bool} (hκ : KOk P κ)
include hfl hrecL hrec hκ
theorem execCL_ok (hmix : P.follows .mixedOrders = true) (hT : LOk P T) : RcrOkL P T den (execCL fl P κ ι T recL rec) := by
 intro c
 induction c with
 | skip => intro s k d hs h; exact ⟨.normal, s, hs, comes_self (fun ρ Q a w hq => wpIn_skip hq), h⟩
 | region id ops draw =>
  intro s k d hs h
  obtain ⟨s', hs', hc, h1⟩ := region_run hfl hrec hκ (id := id) hmix hs h
  exact ⟨.normal, s', hs', hc, h1⟩
 | seq x y ihx ihy =>
  intro s k d hs h
  simp only [execCL] at h
  obtain ⟨e, s1, hs1, hc1, h1⟩ := ihx s _ d hs h
  cases e with
  | normal =>
   simp only [] at h1
   obtain ⟨e2, s2, hs2, hc2, h2⟩ := ihy s1 k d hs1 h1
   refine ⟨e2, s2, hs2, ⟨hc1.later.trans hc2.later, by rw [hc2.size, hc1.size], by rw [hc2.rd, hc1.rd], 0, fun ω ρ Q a w Im θ sim hA => ?_⟩, h2⟩
   refine wpIn_seq (hc1.wp ρ _ a w Im θ sim (fun a' w' Im' θ' sim' hE hN => ?_))
   exact hc2.wp ρ Q a' w' Im' θ' sim' (After.trans hc1.later hE hN hA)
  | exit id =>
   exact ⟨.exit id, s1, hs1, ⟨hc1.later, hc1.size, hc1.rd, 0, fun ω ρ Q a w Im θ sim hA => wpIn_seq (hc1.wp ρ _ a w Im θ sim (fun a' w' Im' θ' sim' hE hN => hA a' w' Im' θ' sim' hE hN))⟩, h1⟩
  | ret =>
   exact ⟨.ret, s1, hs1, ⟨hc1.later, hc1.size, hc1.rd, 0, fun ω ρ Q a w Im θ sim hA => wpIn_seq (hc1.wp ρ _ a w Im θ sim (fun a' w' Im' θ' sim' hE hN => hA a' w' Im' θ' sim' hE hN))⟩, h1⟩
 | cond c x y ihx ihy =>
  intro s k d hs h
  simp only [execCL] at h
  split at h
  · rename_i b hb
    have hev : ∀ {ω : Nat → Value} {ρ : Option Nat} {a : Act} {w : World} {Im : Nat → Prop} {θ : Th}, Sim P ω ρ s a w Im θ → a.eval c = .bool b := by
     intro ω ρ a w Im θ sim
     have := sim.sf.eval c
     rw [← evT_ev, hb] at this
     generalize a.eval c = u at this
     cases this
     rfl
    cases b with
    | true =>
     obtain ⟨e, s1, hs1, hc1, h1⟩ := ihx s k d hs h
     exact ⟨e, s1, hs1, ⟨hc1.later, hc1.size, hc1.rd, 0, fun ω ρ Q a w Im θ sim hA => wpIn_cond_true (hev sim) (hc1.wp ρ Q a w Im θ sim hA)⟩, h1⟩
    | false =>
     obtain ⟨e, s1, hs1, hc1, h1⟩ := ihy s k d hs h
     exact ⟨e, s1, hs1, ⟨hc1.later, hc1.size, hc1.rd, 0, fun ω ρ Q a w Im θ sim hA => wpIn_cond_false (hev sim) (hc1.wp ρ Q a w Im θ sim hA)⟩, h1⟩
  · exact (fl_no hfl h).elim
 | block id c ih =>
  intro s k d hs h
  simp only [execCL] at h
  obtain ⟨e, s1, hs1, hc1, h1⟩ := ih s _ d hs h
  cases e with
  | normal => exact ⟨.normal, s1, hs1, ⟨hc1.later, hc1.size, hc1.rd, 0, fun ω ρ Q a w Im θ sim hA => wpIn_block (hc1.wp ρ _ a w Im θ sim hA)⟩, h1⟩
  | ret => exact ⟨.ret, s1, hs1, ⟨hc1.later, hc1.size, hc1.rd, 0, fun ω ρ Q a w Im θ sim hA => wpIn_block (hc1.wp ρ _ a w Im θ sim hA)⟩, h1⟩
  | exit j =>
   simp only [] at h1
   cases hj : Nat.beq j id with
   | true =>
    rw [hj] at h1
    have hji : j = id := Nat.eq_of_beq_eq_true hj
    subst hji
    refine ⟨.normal, s1, hs1, ⟨hc1.later, hc1.size, hc1.rd, 0, fun ω ρ Q a w Im θ sim hA => wpIn_block (hc1.wp ρ _ a w Im θ sim (fun a' w' Im' θ' sim' hE hN => ?_))⟩, h1⟩
    simp only [exitOf, Exit.inBlock, if_true]
    exact hA a' w' Im' θ' sim' hE hN
   | false =>
    rw [hj] at h1
    have hji : ¬ j = id := fun e => by rw [nb_t e] at hj; cases hj
    refine ⟨.exit j, s1, hs1, ⟨hc1.later, hc1.size, hc1.rd, 0, fun ω ρ Q a w Im θ sim hA => wpIn_block (hc1.wp ρ _ a w Im θ sim (fun a' w' Im' θ' sim' hE hN => ?_))⟩, h1⟩
    simp only [exitOf, Exit.inBlock, if_neg hji]
    exact hA a' w' Im' θ' sim' hE hN
 | loop c ih =>
  intro s k d hs h
  simp only [execCL] at h
  obtain ⟨e, s1, hs1, hc1, h1⟩ := ih s _ d hs h
  cases e with
  | normal =>
   simp only [] at h1
   obtain ⟨e2, s2, hs2, hc2, h2⟩ := hrecL (.loop c) s1 k d hs1 h1
   obtain ⟨m, hm⟩ := hc2.wps
   refine ⟨e2, s2, hs2, ⟨hc1.later.trans hc2.later, by rw [hc2.size, hc1.size], by rw [hc2.rd, hc1.rd], m + 1, fun ω ρ Q a w Im θ sim hA => ?_⟩, h2⟩
   show Code.roundsIn (FR ρ) 0 P (fillC T c) Q (m + 1) a w
   rw [roundsIn_succ]
   refine hc1.wp ρ _ a w Im θ sim (fun a' w' Im' θ' sim' hE hN => ?_)
   exact hm ω ρ Q a' w' Im' θ' sim' (After.trans hc1.later hE hN hA)
  | exit id =>
   refine ⟨.exit id, s1, hs1, ⟨hc1.later, hc1.size, hc1.rd, 1, fun ω ρ Q a w Im θ sim hA => ?_⟩, h1⟩
   show Code.roundsIn (FR ρ) 0 P (fillC T c) Q 1 a w
   rw [roundsIn_succ]
   exact hc1.wp ρ _ a w Im θ sim (fun a' w' Im' θ' sim' hE hN => hA a' w' Im' θ' sim' hE hN)
  | ret =>
   refine ⟨.ret, s1, hs1, ⟨hc1.later, hc1.size, hc1.rd, 1, fun ω ρ Q a w Im θ sim hA => ?_⟩, h1⟩
   show Code.roundsIn (FR ρ) 0 P (fillC T c) Q 1 a w
   rw [roundsIn_succ]
   exact hc1.wp ρ _ a w Im θ sim (fun a' w' Im' θ' sim' hE hN => hA a' w' Im' θ' sim' hE hN)
 | exit id => intro s k d hs h; exact ⟨.exit id, s, hs, comes_self (fun ρ Q a w hq => wpIn_exit hq), h⟩
 | label l => intro s k d hs h; exact ⟨.normal, s, hs, comes_self (fun ρ Q a w hq => wpIn_label hq), h⟩
 | ret => intro s k d hs h; exact ⟨.ret, s, hs, comes_self (fun ρ Q a w hq => wpIn_ret hq), h⟩
 | rangeFunc f ps x y _ _ =>
  intro s k d hs h
  exact execC_ok hfl hrec hκ hmix _ s k d hs h
 | scope c ih =>
  intro s k d hs h
  simp only [execCL] at h
  obtain ⟨e, s1, hs1, hc1, h1⟩ := ih s k d hs h
  exact ⟨e, s1, hs1, ⟨hc1.later, hc1.size, hc1.rd, 0, fun ω ρ Q a w Im θ sim hA => wpIn_scope_straight (hc1.wp ρ _ a w Im θ sim (fun a' w' Im' θ' sim' hE hN => by
   cases e <;> exact hA a' w' Im' θ' sim' hE hN))⟩, h1⟩
 | goto l => intro s k d hs h; exact (fl_no hfl h).elim
 | refuse w =>
  intro s k d hs h
  simp only [execCL] at h
  cases hw : T w with
  | none => rw [hw] at h; exact (fl_no hfl h).elim
  | some e =>
   rw [hw] at h
   have hf : fillC T (.refuse w) = .loop e.code := by simp only [fillC, hw]
   rw [hf]
   exact loopK_run hfl (hT w e hw) hs h
end
theorem execL_ok {R D : Type} {fl : R} {den : R → Option D} (hfl : den fl = none) {T : LTab} {κ : Nat → Option CSumm} {ι : Nat → Bool} (hκ : KOk P κ) (hmix : P.follows .mixedOrders = true) (hT : LOk P T) : ∀ n, RcrOkL P T den (execL fl P κ ι T n)
 | 0 => fun c s k d hs h => (fl_no hfl h).elim
 | n + 1 => execCL_ok hfl (execL_ok hfl hκ hmix hT n) (exec_ok hfl hκ hmix n) hκ hmix hT
theorem exOf_code (e : Ex) : exOf (codeEx e) = e := by cases e <;> rfl
mutual
theorem noOpq_ren (f : Nat → Nat) : ∀ (v : SV), noOpq (renS f v) = noOpq v
 | .fn g a b => by simp only [renS, noOpq, noOpqL_ren f a, noOpqL_ren f b]
 | .iface t v => by simp only [renS, noOpq, noOpq_ren f v]
 | .agg cs => by simp only [renS, noOpq, noOpqL_ren f cs]
 | .tup vs => by simp only [renS, noOpq, noOpqL_ren f vs]
 | .junk | .pnn _ _ | .opq _ | .bool _ | .int _ _ | .str _ | .ptr _ _ | .nilp | .pel _ _ | .sl _ _ _ _ | .nils | .psl _ _ | .emp | .qs _ _ _ _ | .qp _ _ _ _ | .qo _ _ _ | .qop _ _ _ _ | .mp _ | .nilm | .yl _ | .nilf | .nili | .gp _ _ => rfl
theorem noOpqL_ren (f : Nat → Nat) : ∀ (vs : List SV), noOpqL (renL f vs) = noOpqL vs
 | [] => rfl
 | v :: vs => by simp only [renL, noOpqL, noOpq_ren f v, noOpqL_ren f vs]
end
theorem LRel.om {ω' : Nat → Value} {w : World} {Im : Nat → Prop} {θ : Th} {vs : List SV} {us : List Value} (h : LRel P ω w Im θ vs us) (hn : noOpqL vs = true) : LRel P ω' w Im θ vs us :=
 ⟨h.len, fun i v u hv hu => (h.at_ i v u hv hu).om (noOpqL_at hn hv)⟩
theorem noOpq_keysB (kd : IntKind) : ∀ kvs : List (Int × Bool), noOpqL (keysB kd kvs) = true
 | [] => rfl
 | _ :: l => noOpq_keysB kd l
theorem noOpq_valsB : ∀ kvs : List (Int × Bool), noOpqL (valsB kvs) = true
 | [] => rfl
 | _ :: l => noOpq_valsB l
theorem CRel.om {ω' : Nat → Value} {w : World} {Im : Nat → Prop} {θ : Th} {x : Nat} {c : Chunk} (h : CRel P ω w Im θ x c) (hn : noOpqC c = true) : CRel P ω' w Im θ x c := by
 cases c with
 | cells T vs =>
  obtain ⟨b, cs, fr, h1, h2, h3, h4⟩ := h
  exact ⟨b, cs, fr, h1, h2, h3, h4.om hn⟩
 | seq e es => exact h
 | loopr st vs ps asg bdy =>
  obtain ⟨b, N, lp, h1, h2, h3, h4, h5, h6, h7⟩ := h
  exact ⟨b, N, lp, h1, h2, h3, h4, h5, h6, h7.om hn⟩
 | mpc ks vs =>
  obtain ⟨b, N, es, cl, h1, h2, h3, h4, h5⟩ := h
  simp only [noOpqC, Bool.and_eq_true] at hn
  exact ⟨b, N, es, cl, h1, h2, h3.om hn.1, h4.om hn.2, h5⟩
 | mpb kd kvs =>
  obtain ⟨b, N, es, cl, h1, h2, h3, h4, h5⟩ := h
  exact ⟨b, N, es, cl, h1, h2, h3.om (noOpq_keysB kd kvs), h4.om (noOpq_valsB kvs), h5⟩
 | mpn bs cl ks vs =>
  obtain ⟨b, N, es, h1, h2, h3, h4, h5⟩ := h
  simp only [noOpqC, Bool.and_eq_true] at hn
  exact ⟨b, N, es, h1, h2, h3.om hn.1, h4.om hn.2, h5⟩
 | mit z since seen last => exact h
 | sqo e es => exact h
 | ext c => exact h
 | sqp e es =>
  obtain ⟨b, N, cs, fr, h1, h2, h3, h4, h5, h6⟩ := h
  exact ⟨b, N, cs, fr, h1, h2, h3, h4, h5, h6.om hn⟩
theorem HRel.om {ω' : Nat → Value} {w : World} {Im : Nat → Prop} {θ : Th} {h : HpF} (hr : HRel P ω w Im θ h) (hn : ∀ x c, h x = some c → noOpqC c = true) : HRel P ω' w Im θ h :=
 ⟨fun x c hx => (hr.at_ x c hx).om (hn x c hx), hr.inj, hr.own, hr.im, hr.gl⟩
theorem noOpqH_at : ∀ {H : HpL}, noOpqH H = true → ∀ {x : Nat} {c : Chunk}, H.get x = some c → noOpqC c = true := by
 intro H hn x c hx
 have hm := HpL_get_some H x c hx
 induction H with
 | nil => cases hm
 | cons p H ih =>
  obtain ⟨y, d⟩ := p
  simp only [noOpqH, Bool.and_eq_true] at hn
  rcases List.mem_cons.1 hm with h | h
  · cases h; exact hn.1
  · have : ∀ (l : HpL), noOpqH l = true → ∀ q ∈ l, noOpqC q.2 = true := by
      intro l
      induction l with
      | nil => intro _ q hq; cases hq
      | cons p l ih =>
       obtain ⟨z, e⟩ := p
       intro hl q hq
       simp only [noOpqH, Bool.and_eq_true] at hl
       rcases List.mem_cons.1 hq with rfl | hq
       · exact hl.1
       · exact ih hl.2 q hq
    exact this H hn.2 (x, c) h
theorem noOpqU_at : ∀ {u : List (Nat × Option Chunk)}, noOpqU u = true → ∀ {h : HpF}, (∀ x c, h x = some c → noOpqC c = true) → ∀ x c, updF u h x = some c → noOpqC c = true
 | [], _, h, hh, x, c, hx => hh x c hx
 | (y, some d) :: u, hn, h, hh, x, c, hx => by
  simp only [noOpqU, Bool.and_eq_true] at hn
  simp only [updF] at hx
  refine noOpqU_at hn.2 (fun z e hz => ?_) x c hx
  by_cases hzy : z = y
  · simp only [hzy, if_true] at hz; cases hz; exact hn.1
  · simp only [hzy, if_false] at hz; exact hh z e hz
 | (y, none) :: u, hn, h, hh, x, c, hx => by
  simp only [noOpqU] at hn
  simp only [updF] at hx
  refine noOpqU_at hn (fun z e hz => ?_) x c hx
  by_cases hzy : z = y
  · simp only [hzy, if_true] at hz; cases hz
  · simp only [hzy, if_false] at hz; exact hh z e hz
theorem keepOk_at {s : St} : ∀ {l : List Nat}, keepOk s l = true → ∀ t ∈ l, s.tmp t = .opq t
 | [], _, t, ht => by cases ht
 | x :: l, h, t, ht => by
  simp only [keepOk, Bool.and_eq_true] at h
  rcases List.mem_cons.1 ht with rfl | ht
  · have h1 := h.1
    split at h1
    · rename_i n hn
      rw [hn, Nat.eq_of_beq_eq_true h1]
    · cases h1
  · exact keepOk_at h.2 t ht
theorem finishL_inv {e : LEnt} {ex : Ex} {s : St} {k : IntKind} {c : Int} {outs : List SV} {ups : List (Nat × Option Chunk)} (h : crun (finishL e ex s) = some (.tup (.int k c :: outs), ups)) :
  (∀ t ∈ e.keep, s.tmp t = .opq t) ∧ noOpqL (e.outs.map s.tmp) = true ∧ noOpqU ups = true ∧ c = codeEx ex ∧ ∃ ns, reachNew s.hp s.m 2000 (namesS (.tup (.int .i64 (codeEx ex) :: e.outs.map s.tmp)) ++ dirtyNames s.hp s.dirty) [] = some ns ∧
   outs = renL (outName ns s.m) (e.outs.map s.tmp) ∧ ups = outOld s.hp (outName ns s.m) s.dirty ++ outNew s.hp (outName ns s.m) ns := by
 unfold finishL at h
 cases hb : keepOk s e.keep && noOpqL (e.outs.map s.tmp) with
 | false => rw [hb] at h; simp [crun] at h
 | true =>
  rw [hb] at h
  simp only [cond_true] at h
  simp only [Bool.and_eq_true] at hb
  unfold finishV at h
  cases hre : reachNew s.hp s.m 2000 (namesS (.tup (.int .i64 (codeEx ex) :: e.outs.map s.tmp)) ++ dirtyNames s.hp s.dirty) [] with
  | none => rw [hre] at h; simp [crun] at h
  | some ns =>
   rw [hre] at h
   simp only [] at h
   cases hu : noOpqU (outOld s.hp (outName ns s.m) s.dirty ++ outNew s.hp (outName ns s.m) ns) with
   | false => rw [hu] at h; simp [crun] at h
   | true =>
    rw [hu] at h
    simp only [cond_true, crun, renS, renL, Option.some.injEq, Prod.mk.injEq, SV.tup.injEq, List.cons.injEq, SV.int.injEq] at h
    obtain ⟨⟨⟨_, rfl⟩, rfl⟩, rfl⟩ := h
    exact ⟨keepOk_at hb.1, hb.2, hu, rfl, ns, rfl, rfl, rfl⟩
def boundT (μ : List SV → HpL → Nat) (s : CSumm) (n : Nat) : CSumm := fun args H => .ite (Nat.blt (μ args H) n) (s args H) .fail
theorem loop_valid {κ : Nat → Option CSumm} {ι : Nat → Bool} {T : LTab} {sp : Bool} {fuel : Nat} {e : LEnt} {c : Code} {μ : List SV → HpL → Nat} (hκ : KOk P κ) (hmix : P.follows .mixedOrders = true) (hT : LOk P T) (hfill : fillC T c = e.code)
  (hstep : ∀ n args H r, Nat.blt (μ args H) (n + 1) = true → crun (e.s args H) = some r → crun (loopOnce P κ ι T sp fuel e { e with s := boundT μ e.s n } c args H) = some r) : ValidL P e := by
 have key : ∀ n, ValidL P { e with s := boundT μ e.s n } := by
  intro n
  induction n with
  | zero =>
   intro args H k c outs ups hrun
   have : Nat.blt (μ args H) 0 = false := by
    cases h : Nat.blt (μ args H) 0 with
    | false => rfl
    | true => rw [Nat.blt_eq] at h; omega
   simp [boundT, this, crun] at hrun
  | succ n ih =>
   intro args H k c0 outs ups hrun hcanon hol hal
   have hb : Nat.blt (μ args H) (n + 1) = true := by
    cases h : Nat.blt (μ args H) (n + 1) with
    | true => rfl
    | false => simp [boundT, h, crun] at hrun
   have hrun' : crun (e.s args H) = some (.tup (.int k c0 :: outs), ups) := by simpa [boundT, hb, crun] using hrun
   have hl := hstep n args H _ hb hrun'
   unfold loopOnce at hl
   cases hc : canonB H 0 && closedB H.length H && Nat.beq args.length e.ins.length && Nat.blt e.size 16000 && Nat.blt H.length 1000000 && lowB e.size e.ins && lowB e.size e.keep && lowB e.size e.outs && noOpqL args && noOpqH H && lowB H.length (namesL args) with
   | false => rw [hc] at hl; simp [crun] at hl
   | true =>
    rw [hc] at hl
    simp only [cond_true] at hl
    simp only [Bool.and_eq_true] at hc
    obtain ⟨⟨⟨⟨⟨⟨⟨⟨⟨⟨c1, c2⟩, c3⟩, c4⟩, c5⟩, c6⟩, c7⟩, c8⟩, c9⟩, c10⟩, c11⟩ := hc
    have hsz : e.size < 16000 := by rwa [Nat.blt_eq] at c4
    have hHl : H.length < 1000000 := by rwa [Nat.blt_eq] at c5
    have hins := lowB_spec _ c6
    have hkeep := lowB_spec _ c7
    have houts := lowB_spec _ c8
    have hhp : (loopSt sp e args H).hp.get = H.get := heapTr_init c1 (by omega)
    have htm : ∀ j, ((loopSt sp e args H).tmp j = .junk) ∨ (j ∈ e.keep ∧ (loopSt sp e args H).tmp j = .opq j) ∨ ∃ i : Nat, e.ins[i]? = some j ∧ ∃ v, args[i]? = some v ∧ (loopSt sp e args H).tmp j = v := by
     intro j
     have hk16 : ∀ x ∈ e.keep, x < 16000 := fun x hx => by have := hkeep x hx; omega
     have hi16 : ∀ x ∈ e.ins, x < 16000 := fun x hx => by have := hins x hx; omega
     have he : (loopSt sp e args H).tmp j = match (setPs e.ins args (keepI e.keep .lf)).get j with
      | some v => v
      | none => .junk := rfl
     rcases setPs_at e.ins args (keepI e.keep .lf) j hi16 with ⟨g1, -⟩ | ⟨i, g1, v, g2, g3⟩
     · rw [he, g1, keepI_get _ _ _ hk16]
       by_cases hj : j ∈ e.keep
       · simp [hj]
       · simp [hj, Tr.get_lf]
     · exact .inr (.inr ⟨i, g1, v, g2, by rw [he, g3]⟩)
    have hs0 : StOk (loopSt sp e args H) := by
     refine ⟨hsz, hHl, fun t ht => ?_, ?_, Nat.le_refl _⟩
     · have ht' : e.size ≤ t := ht
       rcases htm t with g | ⟨g, _⟩ | ⟨i, g, _⟩
       · exact g
       · have := hkeep t g; omega
       · have := hins t (List.mem_of_getElem? g); omega
     · intro x c hx
       rw [hhp] at hx
       exact canon_lt c1 hx
    obtain ⟨ex1, s1, hs1, hc1, hk1⟩ := execL_ok (den := crun) rfl hκ hmix hT fuel c _ _ _ hs0 hl
    rw [hfill] at hc1
    have hall : ∃ ex sF, StOk sF ∧ Comes P (.loop e.code) (loopSt sp e args H) ex sF ∧ crun (finishL e ex sF) = some (.tup (.int k c0 :: outs), ups) := by
     cases ex1 with
     | normal =>
      simp only [] at hk1
      obtain ⟨ex2, s2, hs2, hc2, hk2⟩ := loopK_run (den := crun) rfl ih hs1 hk1
      obtain ⟨m, hm⟩ := hc2.wps
      refine ⟨ex2, s2, hs2, ⟨hc1.later.trans hc2.later, by rw [hc2.size, hc1.size], by rw [hc2.rd, hc1.rd], m + 1, fun ω ρ Q a w Im θ sim hA => ?_⟩, hk2⟩
      show Code.roundsIn (FR ρ) 0 P e.code Q (m + 1) a w
      rw [roundsIn_succ]
      refine hc1.wp ρ _ a w Im θ sim (fun a' w' Im' θ' sim' hE hN => ?_)
      exact hm ω ρ Q a' w' Im' θ' sim' (After.trans hc1.later hE hN hA)
     | exit id =>
      refine ⟨.exit id, s1, hs1, ⟨hc1.later, hc1.size, hc1.rd, 1, fun ω ρ Q a w Im θ sim hA => ?_⟩, hk1⟩
      show Code.roundsIn (FR ρ) 0 P e.code Q 1 a w
      rw [roundsIn_succ]
      exact hc1.wp ρ _ a w Im θ sim (fun a' w' Im' θ' sim' hE hN => hA a' w' Im' θ' sim' hE hN)
     | ret =>
      refine ⟨.ret, s1, hs1, ⟨hc1.later, hc1.size, hc1.rd, 1, fun ω ρ Q a w Im θ sim hA => ?_⟩, hk1⟩
      show Code.roundsIn (FR ρ) 0 P e.code Q 1 a w
      rw [roundsIn_succ]
      exact hc1.wp ρ _ a w Im θ sim (fun a' w' Im' θ' sim' hE hN => hA a' w' Im' θ' sim' hE hN)
    obtain ⟨ex, sF, hsF, hC, hfin⟩ := hall
    obtain ⟨f1, f2, f3, rfl, ns, hre, rfl, rfl⟩ := finishL_inv hfin
    obtain ⟨m, hm⟩ := hC.wps
    refine ⟨m, fun ω θ Im w a Q hsize hargs hH hfr hMk hpost => ?_⟩
    have hmF : sF.m = H.length := hC.later.m
    have hsF2 : sF.size = e.size := hC.size
    have sim0 : Sim P (fun t => a.tmps.getD t undef) none (loopSt sp e args H) a w Im θ := by
     refine ⟨hs0, ⟨hsize, fun t ht => ?_, hs0.out, by rw [hhp]; exact hMk, by rw [hhp]; exact hH.om (fun x c hx => noOpqH_at c10 hx)⟩, ?_, .inl ⟨rfl, rfl⟩⟩
     · rcases htm t with g | ⟨g, g2⟩ | ⟨i, g, v, g2, g3⟩
       · rw [g]; exact .junk
       · rw [g2]; exact .opq
       · rw [g3]
         exact (hargs.at_ i v _ g2 (by simp [g])).om (noOpqL_at c9 g2)
     · intro x hx
       have hx' : H.length ≤ x := hx
       refine ⟨hfr x hx', ?_⟩
       rw [hhp]
       cases hg : H.get x with
       | none => rfl
       | some c => have := canon_lt c1 hg; omega
    refine hm (fun t => a.tmps.getD t undef) none Q a w Im θ sim0 (fun a' w' Im' θ' sim' hE hN => ?_)
    have hsame : ∀ x, x < H.length → sF.hp.get x = H.get x ∨ x ∈ sF.dirty := by
     intro x hx
     have := hC.later.same x hx
     rwa [hhp] at this
    have hdl : ∀ x ∈ sF.dirty, x < H.length := by
     intro x hx
     rcases hC.later.low x hx with h | h
     · cases h
     · exact h
    have hext : Ext (fun x => H.length ≤ x) H.get w Im θ sF.hp.get w' Im' θ' := by
     rw [← hhp]; exact hE
    have hz : VRel P (fun t => a.tmps.getD t undef) w' Im' θ' (.tup (.int .i64 (codeEx ex) :: e.outs.map sF.tmp)) (.tuple (.int .i64 (codeEx ex) :: (e.outs.map fun t => a'.tmps.getD t undef)).toArray) := by
     have hl := lrel_map (P := P) (ω := fun t => a.tmps.getD t undef) (w := w') (Im := Im') (θ := θ') (f := sF.tmp) (g := fun t => a'.tmps.getD t undef) (l := e.outs) (fun t ht => sim'.sf.tm t (by rw [hsF2]; exact houts t ht))
     refine .tup (by simp) (fun i v u hv hu => ?_)
     cases i with
     | zero => simp at hv hu; subst hv; subst hu; exact .int
     | succ i => exact hl.at_ i v u (by simpa using hv) (by simpa using hu)
    obtain ⟨θ3, g1, g2, g3, g4⟩ := finish_gen c1 c2 hfr hmF hsame hdl hre sim'.sf.hp hext hz
    rw [← hmF] at g1 g2 g3 g4
    have g2' : LRel P (fun t => a.tmps.getD t undef) w' Im' θ3 (renL (outName ns sF.m) (e.outs.map sF.tmp)) (e.outs.map fun t => a'.tmps.getD t undef) := by
     simp only [renS, renL] at g2
     cases g2 with
     | tup p1 p2 => exact ⟨by rw [renL_eq]; simp, fun i v u hv hu => p2 (i + 1) v u (by simpa using hv) (by simpa using hu)⟩
    rw [← hmF] at hpost
    have := hpost a' w' Im' θ3 (by rw [sim'.sf.size]; exact hsF2) g1 (g2'.om (by rw [noOpqL_ren]; exact f2)) (g3.om (noOpqU_at f3 (fun x c hx => noOpqH_at c10 hx))) (fun t ht => ?_) ?_ hN
    · rw [exOf_code] at this; exact this
    · have h1 := sim'.sf.tm t (by rw [hsF2]; exact hkeep t ht)
      rw [f1 t ht] at h1
      generalize a'.tmps.getD t undef = z at h1
      cases h1
      rfl
    · obtain ⟨rs, base, m1, mb, m2, m3⟩ := sim'.sf.df
      refine ⟨rs, base, m1, mb, m2, fun r hr => ⟨(m3 r hr).1, (m3 r hr).2.1, fun y c N hy hb => ?_⟩⟩
      obtain ⟨x, c0, hx, hxb⟩ := g4 y c r N hy hb
      exact (m3 r hr).2.2 x c0 N hx hxb
 intro args H k c0 outs ups hrun hcanon hol hal
 refine key (μ args H + 1) args H k c0 outs ups ?_ hcanon hol hal
 have : Nat.blt (μ args H) (μ args H + 1) = true := by rw [Nat.blt_eq]; omega
 simp only [boundT, crun, this, if_true]
 exact hrun
end Go.Am
/- The abstract machine: a body with loops that are known. -/
namespace Go.Am
variable {P : Program} {ω : Nat → Value}
theorem bodyL_valid {κ : Nat → Option CSumm} (hκ : KOk P κ) (hmix : P.follows .mixedOrders = true) {T : LTab} (hT : LOk P T) {f : FuncId} {fn : Func} (hf : P.funcs[f]? = some fn) {c : Code} (hb : fn.body = some (fillC T c)) {ι : Nat → Bool} {sp : Bool} {fuel : Nat} : ValidC P f (bodyCL P κ ι T sp fuel fn c) := by
 intro args H v ups hrun _ ω θ Im w us hargs hH hfr
 unfold bodyCL at hrun
 cases hc : canonB H 0 && closedB H.length H && Nat.ble args.length fn.ntmps && Nat.blt fn.ntmps 16000 && Nat.blt H.length 1000000 with
 | false => rw [hc] at hrun; simp [crun] at hrun
 | true =>
  rw [hc] at hrun
  simp only [cond_true] at hrun
  simp only [Bool.and_eq_true] at hc
  obtain ⟨⟨⟨⟨c1, c2⟩, c3⟩, c4⟩, c5⟩ := hc
  have hal : args.length ≤ fn.ntmps := by rwa [Nat.ble_eq] at c3
  have hnt : fn.ntmps < 16000 := by rwa [Nat.blt_eq] at c4
  have hHl : H.length < 1000000 := by rwa [Nat.blt_eq] at c5
  have hhp : (initSt sp fn args H).hp.get = H.get := heapTr_init c1 (by omega)
  have hs0 : StOk { initSt sp fn args H with tm := .lf, size := 0 } := by
   refine ⟨by show 0 < 16000; omega, hHl, fun t _ => rfl, ?_, Nat.le_refl _⟩
   intro x c hx
   have hx' : (initSt sp fn args H).hp.get x = some c := hx
   rw [hhp] at hx'
   exact canon_lt c1 hx'
  have hst : StOk (initSt sp fn args H) := enter_ok hs0 hal hnt
  obtain ⟨e, s2, hs2, hcomes, hfin⟩ := execL_ok (den := crun) rfl hκ hmix hT fuel c _ _ _ hst hrun
  have hm2 : s2.m = H.length := hcomes.later.m
  have he : ∀ id, e ≠ .exit id := by
   rintro id rfl
   simp [crun] at hfin
  have hfin' : crun (finishC P fn s2) = some (v, ups) := by
   cases e with
   | exit id => exact absurd rfl (he id)
   | normal => exact hfin
   | ret => exact hfin
  unfold finishC at hfin'
  cases hrs : resultsS P s2 fn.results.toList with
  | none => rw [hrs] at hfin'; simp [crun] at hfin'
  | some vs =>
   rw [hrs] at hfin'
   simp only [] at hfin'
   cases hre : reachNew s2.hp s2.m 2000 (namesS (oneOrTup vs) ++ dirtyNames s2.hp s2.dirty) [] with
   | none => rw [hre] at hfin'; simp [crun] at hfin'
   | some ns =>
     rw [hre] at hfin'
     simp only [crun, Option.some.injEq, Prod.mk.injEq] at hfin'
     rw [hm2] at hfin'
     obtain ⟨rfl, rfl⟩ := hfin'
     have hfr0 : Fr (initSt sp fn args H).nx θ (initSt sp fn args H).hp.get := by
      intro x hx
      have hx' : H.length ≤ x := hx
      refine ⟨hfr x hx', ?_⟩
      rw [hhp]
      cases hg : H.get x with
      | none => rfl
      | some c => have := canon_lt c1 hg; omega
     have sim0 := enter_sim (P := P) hs0 (args := args) (us := us) hal hnt (w := w) (Im := Im) (θ := θ) (by show HRel P ω w Im θ (initSt sp fn args H).hp.get; rw [hhp]; exact hH) hfr0 hargs
     refine (callsIn_wide (n := 0)).1 (body_calls (ρ := none) hf hb he hcomes sim0 hrs (fun u w' Im' θ' hH2 _ hE hvu => ?_))
     have hsame : ∀ x, x < H.length → s2.hp.get x = H.get x ∨ x ∈ s2.dirty := by
      intro x hx
      have := hcomes.later.same x hx
      rwa [hhp] at this
     have hdl : ∀ x ∈ s2.dirty, x < H.length := by
      intro x hx
      rcases hcomes.later.low x hx with h | h
      · cases h
      · exact h
     have hext : Ext (fun x => H.length ≤ x) H.get w Im θ s2.hp.get w' Im' θ' := by
      rw [← hhp]; exact hE
     obtain ⟨θ3, g1, g2, g3, -⟩ := finish_gen c1 c2 hfr hm2 hsame hdl hre hH2 hext hvu
     exact ⟨u, θ3, Im', rfl, g1, g2, g3⟩
def ltab : List (String × LEnt) → LTab
 | [], _ => none
 | (w, e) :: l, x => if w = x then some e else ltab l x
theorem ltab_nil : LOk P (ltab []) := fun w e h => by cases h
theorem ltab_cons {w : String} {e : LEnt} {l : List (String × LEnt)} (h : ValidL P e) (hl : LOk P (ltab l)) : LOk P (ltab ((w, e) :: l)) := by
 intro x e' hx
 simp only [ltab] at hx
 split at hx
 · cases hx; exact h
 · exact hl x e' hx
end Go.Am
/- The abstract machine: summaries that name a block anew, or that are told of nil lists as lists that have grown to nothing. -/
namespace Go.Am
variable {P : Program}
def sw (k nw x : Nat) : Nat := bif Nat.beq x k then nw else x
theorem sw_k {k nw : Nat} : sw k nw k = nw := by simp [sw]
theorem sw_o {k nw x : Nat} (h : x ≠ k) : sw k nw x = x := by simp [sw, nb_f h]
theorem ren_post {ω : Nat → Value} {H : HpL} {w w' : World} {Im Im' : Nat → Prop} {θ θ' : Th} {ups ups' : List (Nat × Option Chunk)} {k nw : Nat} (hfr : ∀ x, H.length ≤ x → θ x = none) (hnw : H.length ≤ nw)
  (hc0 : ∀ x c, updF ups H.get x = some c → nw ∉ namesC c)
  (hu : ∀ x, updF ups' H.get x = if x = nw then (updF ups H.get k).map (renC (sw k nw)) else if x = k then none else (updF ups H.get x).map (renC (sw k nw)))
  (hE : Ext (fun x => H.length ≤ x) H.get w Im θ (updF ups H.get) w' Im' θ') (hH' : HRel P ω w' Im' θ' (updF ups H.get)) :
  ∃ θ2 : Th, Ext (fun x => H.length ≤ x) H.get w Im θ (updF ups' H.get) w' Im' θ2 ∧ HRel P ω w' Im' θ2 (updF ups' H.get) ∧ (∀ v u, VRel P ω w' Im' θ' v u → nw ∉ namesS v → VRel P ω w' Im' θ2 (renS (sw k nw) v) u) ∧
   (∀ y c', updF ups' H.get y = some c' → ∃ x c, updF ups H.get x = some c ∧ θ2 y = θ' x) := by
 let θ2 : Th := fun x => if x = nw then θ' k else θ' x
 have t2 : ∀ x, x ≠ nw → θ2 x = θ' x := fun x hx => if_neg hx
 have tn : θ2 nw = θ' k := if_pos rfl
 have hsw : ∀ x, x ≠ nw → ∀ p, θ' x = some p → θ2 (sw k nw x) = some p := by
  intro x hx p hp
  by_cases hxk : x = k
  · subst hxk; rw [sw_k, tn]; exact hp
  · rw [sw_o hxk, t2 x hx]; exact hp
 have src : ∀ y c', updF ups' H.get y = some c' → ∃ x c, updF ups H.get x = some c ∧ c' = renC (sw k nw) c ∧ θ2 y = θ' x ∧ (y = nw ∧ x = k ∨ y ≠ nw ∧ y ≠ k ∧ x = y) := by
  intro y c' hy
  rw [hu y] at hy
  by_cases h1 : y = nw
  · subst h1
    rw [if_pos rfl, Option.map_eq_some_iff] at hy
    obtain ⟨c, h1, h2⟩ := hy
    exact ⟨k, c, h1, h2.symm, tn, .inl ⟨rfl, rfl⟩⟩
  · rw [if_neg h1] at hy
    by_cases h2 : y = k
    · rw [if_pos h2] at hy; cases hy
    · rw [if_neg h2, Option.map_eq_some_iff] at hy
      obtain ⟨c, h3, h4⟩ := hy
      exact ⟨y, c, h3, h4.symm, t2 y h1, .inr ⟨h1, h2, rfl⟩⟩
 refine ⟨θ2, ?_, ?_, ?_, ?_⟩
 · refine { thOld := fun x hx => ?_, thUp := fun x p hp => ?_, imUp := hE.imUp, size := hE.size, keep := hE.keep, os := hE.os, output := hE.output, tape := hE.tape, drawn := hE.drawn, imNew := hE.imNew, ownNew := fun y c' b N hy hx => ?_ }
   · have : x ≠ nw := by intro e; subst e; exact hx hnw
     rw [t2 x this]; exact hE.thOld x hx
   · have : x ≠ nw := by intro e; subst e; rw [hfr x hnw] at hp; cases hp
     rw [t2 x this]; exact hE.thUp x p hp
   · obtain ⟨x, c, h1, _, h3, _⟩ := src y c' hy
     exact hE.ownNew x c b N h1 (h3 ▸ hx)
 · refine ⟨fun y c' hy => ?_, fun y y' c c' b N N' hy hy' hx hx' => ?_, fun y c b N hy hx => ?_, hH'.im, hH'.gl⟩
   · obtain ⟨x, c, h1, rfl, h3, _⟩ := src y c' hy
     exact (hH'.at_ x c h1).ren (sw k nw) (fun z hz => hsw z (fun e => hc0 x c h1 (e ▸ hz))) h3
   · obtain ⟨x, c1, h1, _, h3, h4⟩ := src y c hy
     obtain ⟨x', c1', h1', _, h3', h4'⟩ := src y' c' hy'
     have := hH'.inj x x' c1 c1' b N N' h1 h1' (h3 ▸ hx) (h3' ▸ hx')
     omega
   · obtain ⟨x, c, h1, _, h3, _⟩ := src y _ hy
     exact hH'.own x c b N h1 (h3 ▸ hx)
 · exact fun v u hv hv0 => hv.ren (sw k nw) (fun x hx => hsw x (fun e => hv0 (e ▸ hx)))
 · intro y c' hy
   obtain ⟨x, c, h1, _, h3, _⟩ := src y c' hy
   exact ⟨x, c, h1, h3⟩
def Renamed (H : HpL) (v : SV) (ups : List (Nat × Option Chunk)) (v' : SV) (ups' : List (Nat × Option Chunk)) : Prop :=
 ∃ k nw, H.length ≤ nw ∧ nw ∉ namesS v ∧ (∀ x c, updF ups H.get x = some c → nw ∉ namesC c) ∧ v' = renS (sw k nw) v ∧
   (∀ x, updF ups' H.get x = if x = nw then (updF ups H.get k).map (renC (sw k nw)) else if x = k then none else (updF ups H.get x).map (renC (sw k nw)))
theorem loop_ren {e : LEnt} {s' : CSumm} (h : ValidL P e) (hs : ∀ args H v' ups', crun (s' args H) = some (v', ups') → (∃ ups, crun (e.s args H) = some (v', ups) ∧ ∀ x, updF ups' H.get x = updF ups H.get x) ∨
  ∃ v ups, crun (e.s args H) = some (v, ups) ∧ Renamed H v ups v' ups') : ValidL P { e with s := s' } := by
 intro args H kk c outs' ups' hr hc ho ha
 rcases hs args H _ ups' hr with ⟨ups, hr', he⟩ | ⟨v, ups, hr', k, nw, hnw, hv0, hc0, hvr, hu⟩
 · have he' : updF ups' H.get = updF ups H.get := funext he
   obtain ⟨m, hm⟩ := h args H kk c outs' ups hr' hc ho ha
   exact ⟨m, fun ω θ Im w a Q hsz hl hH hfr hmk hQ => hm ω θ Im w a Q hsz hl hH hfr hmk (by rw [← he']; exact hQ)⟩
 · obtain ⟨outs, rfl, rfl⟩ : ∃ outs, v = .tup (.int kk c :: outs) ∧ outs' = renL (sw k nw) outs := by
     cases v with
     | tup vs =>
      cases vs with
      | nil => simp [renS, renL] at hvr
      | cons x xs =>
       cases x <;> simp [renS, renL] at hvr
       obtain ⟨⟨rfl, rfl⟩, rfl⟩ := hvr
       exact ⟨xs, rfl, rfl⟩
     | _ => simp [renS] at hvr
   obtain ⟨m, hm⟩ := h args H kk c outs ups hr' hc (by rw [renL_eq] at ho; simpa using ho) ha
   refine ⟨m, fun ω θ Im w a Q hsz hl hH hfr hmk hQ => hm ω θ Im w a Q hsz hl hH hfr hmk ?_⟩
   intro a' w' Im' θ' b1 b2 b3 b4 b5 b6 b7
   obtain ⟨θ2, h1, h2, h3, h4⟩ := ren_post hfr hnw hc0 hu b2 b4
   refine hQ a' w' Im' θ2 b1 h1 ⟨by rw [renL_eq]; simpa using b3.len, fun i v u hv hu' => ?_⟩ h2 b5 ?_ b7
   · rw [renL_eq, List.getElem?_map, Option.map_eq_some_iff] at hv
     obtain ⟨x, hx, rfl⟩ := hv
     refine h3 x u (b3.at_ i x u hx hu') (fun hn => hv0 ?_)
     show nw ∈ namesL (.int kk c :: outs)
     exact List.mem_append.2 (.inr (namesS_mem (List.mem_of_getElem? hx) nw hn))
   · obtain ⟨rs, base, r1, rb, r2, r3⟩ := b6
     refine ⟨rs, base, r1, rb, r2, fun r hrr => ⟨(r3 r hrr).1, (r3 r hrr).2.1, fun y c' N hy ht => ?_⟩⟩
     obtain ⟨x, c, hx, hx2⟩ := h4 y c' hy
     exact (r3 r hrr).2.2 x c N hx (hx2 ▸ ht)
/- What is handed in. -/
def addU (pre : HpL) : CTree → CTree
 | .ret v ups => .ret v (pre.map (fun p => (p.1, some p.2)) ++ ups)
 | .ite b t e => .ite b (addU pre t) (addU pre e)
 | .fail => .fail
def putH : HpL → Nat → Chunk → HpL
 | [], x, c => [(x, c)]
 | p :: H, x, c => bif Nat.beq p.1 x then (x, c) :: H else p :: putH H x c
theorem get_app {x n : Nat} {c : Chunk} : ∀ (H : HpL), H.get n = none → HpL.get (H ++ [(n, c)]) x = if x = n then some c else H.get x
 | [], _ => by
  simp only [List.nil_append, HpL.get]
  by_cases h : x = n
  · subst h; simp
  · rw [nb_f (fun e => h e.symm), if_neg h]; rfl
 | (y, d) :: H, hn => by
  simp only [HpL.get] at hn
  simp only [List.cons_append, HpL.get]
  by_cases hyn : y = n
  · subst hyn; rw [nb_t rfl] at hn; cases hn
  · rw [nb_f hyn] at hn
    rw [get_app H hn]
    by_cases h : y = x
    · subst h; simp only [nb_t rfl, if_neg hyn, cond_true]
    · rw [nb_f h]; rfl
theorem get_put {x y : Nat} {c : Chunk} : ∀ (H : HpL), HpL.get (putH H y c) x = if x = y then some c else H.get x
 | [] => by
  simp only [putH, HpL.get]
  by_cases h : x = y
  · subst h; simp
  · rw [nb_f (fun e => h e.symm), if_neg h]; rfl
 | (z, d) :: H => by
  simp only [putH]
  by_cases hz : z = y
  · subst hz
    rw [nb_t rfl, cond_true]
    simp only [HpL.get]
    by_cases h : z = x
    · subst h; simp
    · rw [nb_f h, if_neg (fun e => h e.symm)]; rfl
  · rw [nb_f hz, cond_false]
    simp only [HpL.get]
    rw [get_put H]
    by_cases h : z = x
    · subst h; simp only [nb_t rfl, if_neg hz, cond_true]
    · rw [nb_f h]; rfl
theorem canon_get {H : HpL} (hc : Canon H) : ∀ x c, H.get x = some c → x < H.length := by
 intro x c hx
 obtain ⟨i, hi⟩ := List.mem_iff_getElem?.1 (HpL_get_some H x c hx)
 have := hc i _ hi
 obtain ⟨hlt, _⟩ := List.getElem?_eq_some_iff.1 hi
 simp at this; omega
theorem canon_next {H : HpL} (hc : Canon H) : H.get H.length = none := by
 cases h : H.get H.length with
 | none => rfl
 | some c => have := canon_get hc _ _ h; omega
structure InOk (P : Program) (args : List SV) (H : HpL) (args2 : List SV) (H2 : HpL) : Prop where
 canon : Canon H2
 len : H.length ≤ H2.length
 al : args2.length = args.length
 back : ∀ x c, H2.get x = some c → (∃ c', H.get x = some c') ∨ H.length ≤ x
 rel : ∀ (ω : Nat → Value) (θ : Th) (w : World) (Im : Nat → Prop) (us : List Value), LRel P ω w Im θ args us → HRel P ω w Im θ H.get → (∀ x, H.length ≤ x → θ x = none) → LRel P ω w Im θ args2 us ∧ HRel P ω w Im θ H2.get
theorem LRel.cons {ω : Nat → Value} {w : World} {Im : Nat → Prop} {θ : Th} {v : SV} {vs : List SV} {u : Value} {us : List Value} (h : VRel P ω w Im θ v u) (hl : LRel P ω w Im θ vs us) : LRel P ω w Im θ (v :: vs) (u :: us) :=
 ⟨by simp [hl.len], fun i v' u' hv hu => by
  cases i with
  | zero => simp at hv hu; subst hv; subst hu; exact h
  | succ i => exact hl.at_ i v' u' (by simpa using hv) (by simpa using hu)⟩
theorem LRel.uncons {ω : Nat → Value} {w : World} {Im : Nat → Prop} {θ : Th} {v : SV} {vs : List SV} {us : List Value} (h : LRel P ω w Im θ (v :: vs) us) : ∃ u us', us = u :: us' ∧ VRel P ω w Im θ v u ∧ LRel P ω w Im θ vs us' := by
 cases us with
 | nil => have := h.len; simp at this
 | cons u us => exact ⟨u, us, rfl, h.at_ 0 v u rfl rfl, ⟨by simpa using h.len, fun i v u hv hu => h.at_ (i + 1) v u (by simpa using hv) (by simpa using hu)⟩⟩
theorem InOk.cons {a a2 : SV} {as as2 : List SV} {H H2 : HpL} (h : InOk P as H as2 H2) (ha : ∀ (ω : Nat → Value) (θ : Th) (w : World) (Im : Nat → Prop) (u : Value), VRel P ω w Im θ a u → VRel P ω w Im θ a2 u) : InOk P (a :: as) H (a2 :: as2) H2 :=
 ⟨h.canon, h.len, by simp [h.al], h.back, fun ω θ w Im us hl hH hf => by
  obtain ⟨u, us', rfl, h1, h2⟩ := hl.uncons
  obtain ⟨h3, h4⟩ := h.rel ω θ w Im us' h2 hH hf
  exact ⟨h3.cons (ha _ _ _ _ _ h1), h4⟩⟩
theorem HRel.fresh {ω : Nat → Value} {w : World} {Im : Nat → Prop} {θ : Th} {H : HpL} (h : HRel P ω w Im θ H.get) {n : Nat} {e : TypeId} (hn : H.get n = none) (ht : θ n = none) : HRel P ω w Im θ (HpL.get (H ++ [(n, .seq e [])])) := by
 refine ⟨fun x c hx => ?_, fun x y c c' b N N' hx hy h1 h2 => ?_, fun x c b N hx h1 => ?_, h.im, h.gl⟩
 · rw [get_app H hn] at hx
   by_cases he : x = n
   · subst he; rw [if_pos rfl] at hx; cases hx; exact .inl ⟨rfl, ht⟩
   · rw [if_neg he] at hx; exact h.at_ x c hx
 · rw [get_app H hn] at hx hy
   have e1 : x ≠ n := fun e => by subst e; rw [ht] at h1; cases h1
   have e2 : y ≠ n := fun e => by subst e; rw [ht] at h2; cases h2
   rw [if_neg e1] at hx
   rw [if_neg e2] at hy
   exact h.inj x y c c' b N N' hx hy h1 h2
 · rw [get_app H hn] at hx
   have e1 : x ≠ n := fun e => by subst e; rw [ht] at h1; cases h1
   rw [if_neg e1] at hx
   exact h.own x c b N hx h1
theorem CRel.bytes {ω : Nat → Value} {w : World} {Im : Nat → Prop} {θ : Th} {x : Nat} {T : TypeId} {cs : List SV} (h : CRel P ω w Im θ x (.cells T cs)) (hb : byteL cs = true) (hu : P.underlying T = some (.int .u8)) (h1 : P.cellsOf T = 1) : CRel P ω w Im θ x (.seq T cs) := by
 obtain ⟨b, us, fr, ht, hw, hf, hl⟩ := h
 have hlen := hl.len
 have hex : ∀ v ∈ cs, expand P T v = v := by
  intro v hv
  obtain ⟨n, rfl⟩ := byteL_at hb v hv
  have ha : isAggT P T = false := by unfold isAggT; rw [hu]
  simp only [expand, ha, cond_false, expandLeaf, hu, asI]
 refine .inr ⟨b, cs.length, us, T, fr, fun i => us.toList.getD i undef, ht, hw, hf, ⟨by simpa using hlen.symm, rfl⟩, by rw [h1]; omega, hex, ?_⟩
 intro i v hi
 have hlt : i < us.size := by
  obtain ⟨hlt, _⟩ := List.getElem?_eq_some_iff.1 hi
  rw [hlen] at hlt; simpa using hlt
 have hui : us.toList[i]? = some (us.toList.getD i undef) := by
  rw [List.getD_eq_getElem?_getD, Array.getElem?_toList, Array.getElem?_eq_getElem hlt]; rfl
 have hv := hl.at_ i v _ hi hui
 obtain ⟨n, rfl⟩ := byteL_at hb v (List.mem_of_getElem? hi)
 show VRel P om0 w Im noTh _ (us.toList.getD i undef) ∧ (us.toList.getD i undef).cells.size = _ ∧ ∀ (d : Nat) (c : Value), (us.toList.getD i undef).cells[d]? = some c → _
 generalize hg : us.toList.getD i undef = u at hv hui ⊢
 cases hv
 refine ⟨.int, by rw [h1]; rfl, fun d c hd => ?_⟩
 rw [h1, Nat.mul_one]
 cases d with
 | zero =>
  simp [Value.cells] at hd; subst hd
  simpa [Array.getElem?_toList] using hui
 | succ d => simp [Value.cells] at hd
theorem HRel.bytes {ω : Nat → Value} {w : World} {Im : Nat → Prop} {θ : Th} {H : HpL} (h : HRel P ω w Im θ H.get) {x : Nat} {T : TypeId} {cs : List SV} (hx : H.get x = some (.cells T cs)) (hb : byteL cs = true) (hu : P.underlying T = some (.int .u8)) (h1 : P.cellsOf T = 1) : HRel P ω w Im θ (HpL.get (putH H x (.seq T cs))) := by
 have up : ∀ y c, HpL.get (putH H x (.seq T cs)) y = some c → ∃ c', H.get y = some c' := by
  intro y c hy
  rw [get_put] at hy
  by_cases he : y = x
  · subst he; exact ⟨_, hx⟩
  · rw [if_neg he] at hy; exact ⟨_, hy⟩
 refine ⟨fun y c hy => ?_, fun y z c c' b N N' hy hz h2 h3 => ?_, fun y c b N hy h2 => ?_, h.im, h.gl⟩
 · rw [get_put] at hy
   by_cases he : y = x
   · subst he; rw [if_pos rfl] at hy; cases hy; exact (h.at_ _ _ hx).bytes hb hu h1
   · rw [if_neg he] at hy; exact h.at_ y c hy
 · obtain ⟨d, hd⟩ := up y c hy
   obtain ⟨d', hd'⟩ := up z c' hz
   exact h.inj y z d d' b N N' hd hd' h2 h3
 · obtain ⟨d, hd⟩ := up y c hy
   exact h.own y d b N hd h2
def preU (pre : HpL) : List (Nat × Option Chunk) := pre.map fun p => (p.1, some p.2)
theorem preU_snoc (pre : HpL) (x : Nat) (c : Chunk) (h : HpF) : updF (preU (pre ++ [(x, c)])) h = fun y => if y = x then some c else updF (preU pre) h y := by
 unfold preU
 rw [List.map_append, updF_append]
 rfl
theorem crun_addU (pre : HpL) : ∀ {t : CTree} {v : SV} {ups : List (Nat × Option Chunk)}, crun (addU pre t) = some (v, ups) → ∃ ups2, crun t = some (v, ups2) ∧ ups = preU pre ++ ups2
 | .ret v0 u0, v, ups, h => by
  simp only [addU, crun, Option.some.injEq, Prod.mk.injEq] at h
  obtain ⟨rfl, rfl⟩ := h
  exact ⟨u0, rfl, rfl⟩
 | .ite b t e, v, ups, h => by
  rw [addU] at h
  cases b with
  | true => exact crun_addU pre (t := t) h
  | false => exact crun_addU pre (t := e) h
 | .fail, v, ups, h => by simp [addU, crun] at h
theorem Ext.inc {args args2 : List SV} {H H2 : HpL} (hi : InOk P args H args2 H2) {w w' : World} {Im Im' : Nat → Prop} {θ θ' : Th} {h' : HpF} (hfr : ∀ x, H.length ≤ x → θ x = none) (he : Ext (fun x => H2.length ≤ x) H2.get w Im θ h' w' Im' θ') :
  Ext (fun x => H.length ≤ x) H.get w Im θ h' w' Im' θ' := by
 have hb : ∀ x c b N, H2.get x = some c → θ x = some (b, N) → ∃ c', H.get x = some c' := by
  intro x c b N hx ht
  rcases hi.back x c hx with h | h
  · exact h
  · rw [hfr x h] at ht; cases ht
 exact { thOld := fun x hx => he.thOld x (fun h => hx (by have := hi.len; omega)), thUp := he.thUp, imUp := he.imUp, size := he.size, os := he.os, output := he.output, tape := he.tape, drawn := he.drawn
         keep := fun b hlt hk => he.keep b hlt (fun x c N hx ht => by obtain ⟨c', hc'⟩ := hb x c b N hx ht; exact hk x c' N hc' ht)
         imNew := fun b hbm => by
          rcases he.imNew b hbm with h | ⟨x, c, N, h1, h2⟩ | h
          · exact .inl h
          · obtain ⟨c', hc'⟩ := hb x c b N h1 h2
            exact .inr (.inl ⟨x, c', N, hc', h2⟩)
          · exact .inr (.inr h)
         ownNew := fun x c b N h1 h2 => by
          rcases he.ownNew x c b N h1 h2 with ⟨y, c', N', h3, h4⟩ | h
          · obtain ⟨c2, hc2⟩ := hb y c' b N' h3 h4
            exact .inl ⟨y, c2, N', hc2, h4⟩
          · exact .inr h }
end Go.Am
/- The abstract machine: a round of a loop; loops by what is known up to other words. -/
namespace Go.Am
variable {P : Program} {ω : Nat → Value}
theorem round_valid {κ : Nat → Option CSumm} {ι : Nat → Bool} {T : LTab} {sp : Bool} {fuel : Nat} {e : LEnt} {c : Code} {s' : CSumm} (hκ : KOk P κ) (hmix : P.follows .mixedOrders = true) (hT : LOk P T) (hfill : fillC T c = e.code)
  (ih : ValidL P { e with s := s' }) : ValidL P { e with s := fun args H => loopOnce P κ ι T sp fuel e { e with s := s' } c args H } := by
 have key : ∀ (args : List SV) (H : HpL) (k : IntKind) (c0 : Int) (outs : List SV) (ups : List (Nat × Option Chunk)), crun (loopOnce P κ ι T sp fuel e { e with s := s' } c args H) = some (.tup (.int k c0 :: outs), ups) → Canon H → outs.length = e.outs.length → args.length = e.ins.length →
  ∃ m, ∀ (ω : Nat → Value) (θ : Th) (Im : Nat → Prop) (w : World) (a : Act) (Q : Exit → Act → World → Prop), a.tmps.size = e.size → LRel P ω w Im θ args (e.ins.map fun t => a.tmps.getD t undef) → HRel P ω w Im θ H.get →
   (∀ x, H.length ≤ x → θ x = none) → Mk w Im θ H.get a.defers →
   (∀ a' w' Im' θ', a'.tmps.size = e.size → Ext (fun x => H.length ≤ x) H.get w Im θ (updF ups H.get) w' Im' θ' → LRel P ω w' Im' θ' outs (e.outs.map fun t => a'.tmps.getD t undef) → HRel P ω w' Im' θ' (updF ups H.get) →
    (∀ t ∈ e.keep, a'.tmps.getD t undef = a.tmps.getD t undef) → Mk w' Im' θ' (updF ups H.get) a'.defers → New a a' w → Q (exitOf (exOf c0)) a' w') →
   Code.roundsIn (FR none) 0 P e.code Q m a w := by
  intro args H k c0 outs ups hl hcanon hol hal
  unfold loopOnce at hl
  cases hc : canonB H 0 && closedB H.length H && Nat.beq args.length e.ins.length && Nat.blt e.size 16000 && Nat.blt H.length 1000000 && lowB e.size e.ins && lowB e.size e.keep && lowB e.size e.outs && noOpqL args && noOpqH H && lowB H.length (namesL args) with
  | false => rw [hc] at hl; simp [crun] at hl
  | true =>
   rw [hc] at hl
   simp only [cond_true] at hl
   simp only [Bool.and_eq_true] at hc
   obtain ⟨⟨⟨⟨⟨⟨⟨⟨⟨⟨c1, c2⟩, c3⟩, c4⟩, c5⟩, c6⟩, c7⟩, c8⟩, c9⟩, c10⟩, c11⟩ := hc
   have hsz : e.size < 16000 := by rwa [Nat.blt_eq] at c4
   have hHl : H.length < 1000000 := by rwa [Nat.blt_eq] at c5
   have hins := lowB_spec _ c6
   have hkeep := lowB_spec _ c7
   have houts := lowB_spec _ c8
   have hhp : (loopSt sp e args H).hp.get = H.get := heapTr_init c1 (by omega)
   have htm : ∀ j, ((loopSt sp e args H).tmp j = .junk) ∨ (j ∈ e.keep ∧ (loopSt sp e args H).tmp j = .opq j) ∨ ∃ i : Nat, e.ins[i]? = some j ∧ ∃ v, args[i]? = some v ∧ (loopSt sp e args H).tmp j = v := by
    intro j
    have hk16 : ∀ x ∈ e.keep, x < 16000 := fun x hx => by have := hkeep x hx; omega
    have hi16 : ∀ x ∈ e.ins, x < 16000 := fun x hx => by have := hins x hx; omega
    have he : (loopSt sp e args H).tmp j = match (setPs e.ins args (keepI e.keep .lf)).get j with
     | some v => v
     | none => .junk := rfl
    rcases setPs_at e.ins args (keepI e.keep .lf) j hi16 with ⟨g1, -⟩ | ⟨i, g1, v, g2, g3⟩
    · rw [he, g1, keepI_get _ _ _ hk16]
      by_cases hj : j ∈ e.keep
      · simp [hj]
      · simp [hj, Tr.get_lf]
    · exact .inr (.inr ⟨i, g1, v, g2, by rw [he, g3]⟩)
   have hs0 : StOk (loopSt sp e args H) := by
    refine ⟨hsz, hHl, fun t ht => ?_, ?_, Nat.le_refl _⟩
    · have ht' : e.size ≤ t := ht
      rcases htm t with g | ⟨g, _⟩ | ⟨i, g, _⟩
      · exact g
      · have := hkeep t g; omega
      · have := hins t (List.mem_of_getElem? g); omega
    · intro x c hx
      rw [hhp] at hx
      exact canon_lt c1 hx
   obtain ⟨ex1, s1, hs1, hc1, hk1⟩ := execL_ok (den := crun) rfl hκ hmix hT fuel c _ _ _ hs0 hl
   rw [hfill] at hc1
   have hall : ∃ ex sF, StOk sF ∧ Comes P (.loop e.code) (loopSt sp e args H) ex sF ∧ crun (finishL e ex sF) = some (.tup (.int k c0 :: outs), ups) := by
    cases ex1 with
    | normal =>
     simp only [] at hk1
     obtain ⟨ex2, s2, hs2, hc2, hk2⟩ := loopK_run (den := crun) rfl ih hs1 hk1
     obtain ⟨m, hm⟩ := hc2.wps
     refine ⟨ex2, s2, hs2, ⟨hc1.later.trans hc2.later, by rw [hc2.size, hc1.size], by rw [hc2.rd, hc1.rd], m + 1, fun ω ρ Q a w Im θ sim hA => ?_⟩, hk2⟩
     show Code.roundsIn (FR ρ) 0 P e.code Q (m + 1) a w
     rw [roundsIn_succ]
     refine hc1.wp ρ _ a w Im θ sim (fun a' w' Im' θ' sim' hE hN => ?_)
     exact hm ω ρ Q a' w' Im' θ' sim' (After.trans hc1.later hE hN hA)
    | exit id =>
     refine ⟨.exit id, s1, hs1, ⟨hc1.later, hc1.size, hc1.rd, 1, fun ω ρ Q a w Im θ sim hA => ?_⟩, hk1⟩
     show Code.roundsIn (FR ρ) 0 P e.code Q 1 a w
     rw [roundsIn_succ]
     exact hc1.wp ρ _ a w Im θ sim (fun a' w' Im' θ' sim' hE hN => hA a' w' Im' θ' sim' hE hN)
    | ret =>
     refine ⟨.ret, s1, hs1, ⟨hc1.later, hc1.size, hc1.rd, 1, fun ω ρ Q a w Im θ sim hA => ?_⟩, hk1⟩
     show Code.roundsIn (FR ρ) 0 P e.code Q 1 a w
     rw [roundsIn_succ]
     exact hc1.wp ρ _ a w Im θ sim (fun a' w' Im' θ' sim' hE hN => hA a' w' Im' θ' sim' hE hN)
   obtain ⟨ex, sF, hsF, hC, hfin⟩ := hall
   obtain ⟨f1, f2, f3, rfl, ns, hre, rfl, rfl⟩ := finishL_inv hfin
   obtain ⟨m, hm⟩ := hC.wps
   refine ⟨m, fun ω θ Im w a Q hsize hargs hH hfr hMk hpost => ?_⟩
   have hmF : sF.m = H.length := hC.later.m
   have hsF2 : sF.size = e.size := hC.size
   have sim0 : Sim P (fun t => a.tmps.getD t undef) none (loopSt sp e args H) a w Im θ := by
    refine ⟨hs0, ⟨hsize, fun t ht => ?_, hs0.out, by rw [hhp]; exact hMk, by rw [hhp]; exact hH.om (fun x c hx => noOpqH_at c10 hx)⟩, ?_, .inl ⟨rfl, rfl⟩⟩
    · rcases htm t with g | ⟨g, g2⟩ | ⟨i, g, v, g2, g3⟩
      · rw [g]; exact .junk
      · rw [g2]; exact .opq
      · rw [g3]
        exact (hargs.at_ i v _ g2 (by simp [g])).om (noOpqL_at c9 g2)
    · intro x hx
      have hx' : H.length ≤ x := hx
      refine ⟨hfr x hx', ?_⟩
      rw [hhp]
      cases hg : H.get x with
      | none => rfl
      | some c => have := canon_lt c1 hg; omega
   refine hm (fun t => a.tmps.getD t undef) none Q a w Im θ sim0 (fun a' w' Im' θ' sim' hE hN => ?_)
   have hsame : ∀ x, x < H.length → sF.hp.get x = H.get x ∨ x ∈ sF.dirty := by
    intro x hx
    have := hC.later.same x hx
    rwa [hhp] at this
   have hdl : ∀ x ∈ sF.dirty, x < H.length := by
    intro x hx
    rcases hC.later.low x hx with h | h
    · cases h
    · exact h
   have hext : Ext (fun x => H.length ≤ x) H.get w Im θ sF.hp.get w' Im' θ' := by
    rw [← hhp]; exact hE
   have hz : VRel P (fun t => a.tmps.getD t undef) w' Im' θ' (.tup (.int .i64 (codeEx ex) :: e.outs.map sF.tmp)) (.tuple (.int .i64 (codeEx ex) :: (e.outs.map fun t => a'.tmps.getD t undef)).toArray) := by
    have hl := lrel_map (P := P) (ω := fun t => a.tmps.getD t undef) (w := w') (Im := Im') (θ := θ') (f := sF.tmp) (g := fun t => a'.tmps.getD t undef) (l := e.outs) (fun t ht => sim'.sf.tm t (by rw [hsF2]; exact houts t ht))
    refine .tup (by simp) (fun i v u hv hu => ?_)
    cases i with
    | zero => simp at hv hu; subst hv; subst hu; exact .int
    | succ i => exact hl.at_ i v u (by simpa using hv) (by simpa using hu)
   obtain ⟨θ3, g1, g2, g3, g4⟩ := finish_gen c1 c2 hfr hmF hsame hdl hre sim'.sf.hp hext hz
   rw [← hmF] at g1 g2 g3 g4
   have g2' : LRel P (fun t => a.tmps.getD t undef) w' Im' θ3 (renL (outName ns sF.m) (e.outs.map sF.tmp)) (e.outs.map fun t => a'.tmps.getD t undef) := by
    simp only [renS, renL] at g2
    cases g2 with
    | tup p1 p2 => exact ⟨by rw [renL_eq]; simp, fun i v u hv hu => p2 (i + 1) v u (by simpa using hv) (by simpa using hu)⟩
   rw [← hmF] at hpost
   have := hpost a' w' Im' θ3 (by rw [sim'.sf.size]; exact hsF2) g1 (g2'.om (by rw [noOpqL_ren]; exact f2)) (g3.om (noOpqU_at f3 (fun x c hx => noOpqH_at c10 hx))) (fun t ht => ?_) ?_ hN
   · rw [exOf_code] at this; exact this
   · have h1 := sim'.sf.tm t (by rw [hsF2]; exact hkeep t ht)
     rw [f1 t ht] at h1
     generalize a'.tmps.getD t undef = z at h1
     cases h1
     rfl
   · obtain ⟨rs, base, m1, mb, m2, m3⟩ := sim'.sf.df
     refine ⟨rs, base, m1, mb, m2, fun r hr => ⟨(m3 r hr).1, (m3 r hr).2.1, fun y c N hy hb => ?_⟩⟩
     obtain ⟨x, c0, hx, hxb⟩ := g4 y c r N hy hb
     exact (m3 r hr).2.2 x c0 N hx hxb
 exact key
end Go.Am
/- The abstract machine: lists that are answered or left in the heap, known by content from there on. -/
namespace Go.Am
variable {P : Program}
def SemV (P : Program) (k e : Nat) (rs : List SV) (v v' : SV) : Prop :=
 ∀ (ω : Nat → Value) (w : World) (Im : Nat → Prop) (θ : Th) (h : HpF) (u : Value), HRel P ω w Im θ h → h k = some (.seq e rs) → VRel P ω w Im θ v u → VRel P ω w (frozenBy Im θ h [k]) θ v' u
def SemC (P : Program) (k e : Nat) (rs : List SV) (x : Nat) (c c' : Chunk) : Prop :=
 ∀ (ω : Nat → Value) (w : World) (Im : Nat → Prop) (θ : Th) (h : HpF), HRel P ω w Im θ h → h k = some (.seq e rs) → CRel P ω w Im θ x c → CRel P ω w (frozenBy Im θ h [k]) θ x c'
variable {k e : Nat} {rs : List SV}
theorem SemV.rfl' {v : SV} : SemV P k e rs v v := fun ω w Im θ h u _ _ hv => hv.mono (frozenBy_up w) (fun _ _ h => h)
theorem SemV.qs {sz n : Nat} (hn : n = rs.length) : SemV P k e rs (.qs k sz 0 n) (.psl e rs) := fun ω w Im θ h u hr hk hv => seq_psl hr hk hn hv
theorem SemV.nils {e' : Nat} : SemV P k e rs .nils (.psl e' []) := fun ω w Im θ h u _ _ hv => (nils_psl hv).mono (frozenBy_up w) (fun _ _ h => h)
inductive SemL (P : Program) (k e : Nat) (rs : List SV) : List SV → List SV → Prop
 | nil : SemL P k e rs [] []
 | cons {v v' : SV} {vs vs' : List SV} : SemV P k e rs v v' → SemL P k e rs vs vs' → SemL P k e rs (v :: vs) (v' :: vs')
theorem SemL.rfl' : ∀ {vs : List SV}, SemL P k e rs vs vs
 | [] => .nil
 | _ :: _ => .cons .rfl' .rfl'
theorem SemL.len : ∀ {vs vs' : List SV}, SemL P k e rs vs vs' → vs'.length = vs.length
 | _, _, .nil => rfl
 | _, _, .cons _ h => by simp [h.len]
theorem SemL.at_ : ∀ {vs vs' : List SV}, SemL P k e rs vs vs' → ∀ (i : Nat) (v' : SV), vs'[i]? = some v' → ∃ v, vs[i]? = some v ∧ SemV P k e rs v v'
 | _, _, .nil, i, v', h => by simp at h
 | _, _, .cons h1 h2, 0, v', h => by simp at h; subst h; exact ⟨_, rfl, h1⟩
 | _, _, .cons h1 h2, i + 1, v', h => by simp at h; obtain ⟨v, h3, h4⟩ := h2.at_ i v' h; exact ⟨v, by simpa using h3, h4⟩
theorem SemL.rel {vs vs' : List SV} (hs : SemL P k e rs vs vs') {ω : Nat → Value} {w : World} {Im : Nat → Prop} {θ : Th} {h : HpF} (hr : HRel P ω w Im θ h) (hk : h k = some (.seq e rs)) {us : List Value} (hl : LRel P ω w Im θ vs us) : LRel P ω w (frozenBy Im θ h [k]) θ vs' us :=
 ⟨by rw [hs.len]; exact hl.len, fun i v' u hv hu => by
  obtain ⟨v, h1, h2⟩ := hs.at_ i v' hv
  exact h2 ω w Im θ h u hr hk (hl.at_ i v u h1 hu)⟩
theorem SemV.tup {vs vs' : List SV} (hs : SemL P k e rs vs vs') : SemV P k e rs (.tup vs) (.tup vs') := by
 intro ω w Im θ h u hr hk hv
 cases hv with
 | tup h1 h2 =>
  have := hs.rel hr hk ⟨h1, fun i v u a b => h2 i v u a (by simpa using b)⟩
  exact .tup this.len (fun i v u a b => this.at_ i v u a (by simpa using b))
theorem SemV.agg {vs vs' : List SV} (hs : SemL P k e rs vs vs') : SemV P k e rs (.agg vs) (.agg vs') := by
 intro ω w Im θ h u hr hk hv
 cases hv with
 | agg h1 h2 =>
  have := hs.rel hr hk ⟨h1, fun i v u a b => h2 i v u a (by simpa using b)⟩
  exact .agg this.len (fun i v u a b => this.at_ i v u a (by simpa using b))
theorem SemC.rfl' {x : Nat} {c : Chunk} : SemC P k e rs x c c := fun ω w Im θ h _ _ hc => hc.mono (frozenBy_up w) (fun _ _ h => h) rfl (fun _ _ _ => rfl)
theorem SemC.cells {x : Nat} {T : TypeId} {vs vs' : List SV} (hs : SemL P k e rs vs vs') : SemC P k e rs x (.cells T vs) (.cells T vs') := by
 rintro ω w Im θ h hr hk ⟨b, cs, fr, h1, h2, h3, h4⟩
 exact ⟨b, cs, fr, by rw [hs.len]; exact h1, h2, h3, hs.rel hr hk h4⟩
def CoV (P : Program) (v v' : SV) : Prop := ∀ (ω : Nat → Value) (w : World) (Im : Nat → Prop) (θ : Th) (u : Value), VRel P ω w Im θ v u → VRel P ω w Im θ v' u
def CoC (P : Program) (x : Nat) (c c' : Chunk) : Prop := ∀ (ω : Nat → Value) (w : World) (Im : Nat → Prop) (θ : Th), CRel P ω w Im θ x c → CRel P ω w Im θ x c'
theorem CoV.rfl' {v : SV} : CoV P v v := fun _ _ _ _ _ h => h
theorem CoC.rfl' {x : Nat} {c : Chunk} : CoC P x c c := fun _ _ _ _ h => h
theorem CoV.nils {e' : Nat} : CoV P .nils (.psl e' []) := fun _ _ _ _ _ h => nils_psl h
inductive CoL (P : Program) : List SV → List SV → Prop
 | nil : CoL P [] []
 | cons {v v' : SV} {vs vs' : List SV} : CoV P v v' → CoL P vs vs' → CoL P (v :: vs) (v' :: vs')
theorem CoL.rfl' : ∀ {vs : List SV}, CoL P vs vs
 | [] => .nil
 | _ :: _ => .cons .rfl' .rfl'
theorem CoL.len : ∀ {vs vs' : List SV}, CoL P vs vs' → vs'.length = vs.length
 | _, _, .nil => rfl
 | _, _, .cons _ h => by simp [h.len]
theorem CoL.at_ : ∀ {vs vs' : List SV}, CoL P vs vs' → ∀ (i : Nat) (v' : SV), vs'[i]? = some v' → ∃ v, vs[i]? = some v ∧ CoV P v v'
 | _, _, .nil, i, v', h => by simp at h
 | _, _, .cons h1 h2, 0, v', h => by simp at h; subst h; exact ⟨_, rfl, h1⟩
 | _, _, .cons h1 h2, i + 1, v', h => by simp at h; obtain ⟨v, h3, h4⟩ := h2.at_ i v' h; exact ⟨v, by simpa using h3, h4⟩
theorem CoL.rel {vs vs' : List SV} (hs : CoL P vs vs') {ω : Nat → Value} {w : World} {Im : Nat → Prop} {θ : Th} {us : List Value} (hl : LRel P ω w Im θ vs us) : LRel P ω w Im θ vs' us :=
 ⟨by rw [hs.len]; exact hl.len, fun i v' u hv hu => by
  obtain ⟨v, h1, h2⟩ := hs.at_ i v' hv
  exact h2 ω w Im θ u (hl.at_ i v u h1 hu)⟩
theorem CoV.tup {vs vs' : List SV} (hs : CoL P vs vs') : CoV P (.tup vs) (.tup vs') := by
 intro ω w Im θ u hv
 cases hv with
 | tup h1 h2 =>
  have := hs.rel (ω := ω) (w := w) (Im := Im) (θ := θ) ⟨h1, fun i v u a b => h2 i v u a (by simpa using b)⟩
  exact .tup this.len (fun i v u a b => this.at_ i v u a (by simpa using b))
theorem CoV.agg {vs vs' : List SV} (hs : CoL P vs vs') : CoV P (.agg vs) (.agg vs') := by
 intro ω w Im θ u hv
 cases hv with
 | agg h1 h2 =>
  have := hs.rel (ω := ω) (w := w) (Im := Im) (θ := θ) ⟨h1, fun i v u a b => h2 i v u a (by simpa using b)⟩
  exact .agg this.len (fun i v u a b => this.at_ i v u a (by simpa using b))
theorem CoC.cells {x : Nat} {T : TypeId} {vs vs' : List SV} (hs : CoL P vs vs') : CoC P x (.cells T vs) (.cells T vs') := by
 rintro ω w Im θ ⟨b, cs, fr, h1, h2, h3, h4⟩
 exact ⟨b, cs, fr, by rw [hs.len]; exact h1, h2, h3, hs.rel h4⟩
def Told (P : Program) (H : HpL) (v : SV) (ups : List (Nat × Option Chunk)) (v' : SV) (ups' : List (Nat × Option Chunk)) : Prop :=
 CoV P v v' ∧ ∀ x c', updF ups' H.get x = some c' → ∃ c, updF ups H.get x = some c ∧ CoC P x c c'
theorem told_post {ω : Nat → Value} {H : HpL} {w w' : World} {Im Im' : Nat → Prop} {θ θ' : Th} {ups ups' : List (Nat × Option Chunk)}
  (hu : ∀ x c', updF ups' H.get x = some c' → ∃ c, updF ups H.get x = some c ∧ CoC P x c c')
  (hE : Ext (fun x => H.length ≤ x) H.get w Im θ (updF ups H.get) w' Im' θ') (hH : HRel P ω w' Im' θ' (updF ups H.get)) :
  Ext (fun x => H.length ≤ x) H.get w Im θ (updF ups' H.get) w' Im' θ' ∧ HRel P ω w' Im' θ' (updF ups' H.get) := by
 refine ⟨?_, ?_⟩
 · refine { thOld := hE.thOld, thUp := hE.thUp, imUp := hE.imUp, size := hE.size, keep := hE.keep, os := hE.os, output := hE.output, tape := hE.tape, drawn := hE.drawn, imNew := hE.imNew, ownNew := fun x c' b N hx hθ => ?_ }
   obtain ⟨c, h1, _⟩ := hu x c' hx
   exact hE.ownNew x c b N h1 hθ
 · refine ⟨fun x c' hx => ?_, fun x y c c' b N N' hx hy h1 h2 => ?_, fun x c' b N hx hθ => ?_, hH.im, hH.gl⟩
   · obtain ⟨c, h1, h2⟩ := hu x c' hx
     exact h2 ω w' Im' θ' (hH.at_ x c h1)
   · obtain ⟨c1, h3, _⟩ := hu x c hx
     obtain ⟨c2, h4, _⟩ := hu y c' hy
     exact hH.inj x y c1 c2 b N N' h3 h4 h1 h2
   · obtain ⟨c, h1, _⟩ := hu x c' hx
     exact hH.own x c b N h1 hθ
structure From (P : Program) (args : List SV) (H : HpL) (args2 : List SV) (H2 : HpL) : Prop where
 args : CoL P args args2
 canon : Canon H2
 len : H2.length = H.length
 fwd : ∀ x c, H.get x = some c → ∃ c2, H2.get x = some c2 ∧ CoC P x c c2
 bwd : ∀ x c2, H2.get x = some c2 → ∃ c, H.get x = some c
theorem From.ext {args args2 : List SV} {H H2 : HpL} (h : From P args H args2 H2) {w w' : World} {Im Im' : Nat → Prop} {θ θ' : Th} {h' : HpF} (he : Ext (fun x => H2.length ≤ x) H2.get w Im θ h' w' Im' θ') : Ext (fun x => H.length ≤ x) H.get w Im θ h' w' Im' θ' := by
 rw [h.len] at he
 refine { thOld := he.thOld, thUp := he.thUp, imUp := he.imUp, size := he.size, os := he.os, output := he.output, tape := he.tape, drawn := he.drawn, keep := fun b hb hno => ?_, imNew := fun b hb => ?_, ownNew := fun x c b N hx hθ => ?_ }
 · refine he.keep b hb (fun x c N hx hθ => ?_)
   obtain ⟨c0, h1⟩ := h.bwd x c hx
   exact hno x c0 N h1 hθ
 · rcases he.imNew b hb with h1 | ⟨x, c, N, h1, h2⟩ | h1
   · exact .inl h1
   · obtain ⟨c0, h3⟩ := h.bwd x c h1
     exact .inr (.inl ⟨x, c0, N, h3, h2⟩)
   · exact .inr (.inr h1)
 · rcases he.ownNew x c b N hx hθ with ⟨y, c', N', h1, h2⟩ | h1
   · obtain ⟨c0, h3⟩ := h.bwd y c' h1
     exact .inl ⟨y, c0, N', h3, h2⟩
   · exact .inr h1
end Go.Am
/- The abstract machine: loops known by what their rounds come to, told by other words. -/
namespace Go.Am
variable {P : Program}
def ToldL (P : Program) (H : HpL) (v : SV) (ups : List (Nat × Option Chunk)) (v' : SV) (ups' : List (Nat × Option Chunk)) : Prop :=
 ∃ (c : Int) (vs vs' : List SV), v = .tup (.int .i64 c :: vs) ∧ v' = .tup (.int .i64 c :: vs') ∧ CoL P vs vs' ∧ ∀ x c', updF ups' H.get x = some c' → ∃ c, updF ups H.get x = some c ∧ CoC P x c c'
theorem loop_told {e : LEnt} {s' : CSumm} (h : ValidL P e) (hs : ∀ args H v' ups', crun (s' args H) = some (v', ups') → ∃ v ups, crun (e.s args H) = some (v, ups) ∧ ToldL P H v ups v' ups') : ValidL P { e with s := s' } := by
 intro args H kk c0 outs' ups' hr hc ho ha
 obtain ⟨v, ups, hr', c, vs, vs', rfl, hv, hl, hu⟩ := hs args H _ ups' hr
 simp only [SV.tup.injEq, List.cons.injEq, SV.int.injEq] at hv
 obtain ⟨⟨rfl, rfl⟩, rfl⟩ := hv
 obtain ⟨m, hm⟩ := h args H .i64 c0 vs ups hr' hc (by rw [← hl.len]; exact ho) ha
 refine ⟨m, fun ω θ Im w a Q hsz hla hH hfr hmk hQ => hm ω θ Im w a Q hsz hla hH hfr hmk ?_⟩
 intro a' w' Im' θ' b1 b2 b3 b4 b5 b6 b7
 obtain ⟨h1, h2⟩ := told_post hu b2 b4
 refine hQ a' w' Im' θ' b1 h1 (hl.rel b3) h2 b5 ?_ b7
 obtain ⟨rs', base, r1, rb, r2, r3⟩ := b6
 refine ⟨rs', base, r1, rb, r2, fun r hrr => ⟨(r3 r hrr).1, (r3 r hrr).2.1, fun x c' N hx => ?_⟩⟩
 obtain ⟨c, g1, _⟩ := hu x c' hx
 exact (r3 r hrr).2.2 x c N g1
theorem boundT_at {μ : List SV → HpL → Nat} {s : CSumm} {n : Nat} {args : List SV} {H : HpL} {v : SV} {ups : List (Nat × Option Chunk)} (h : crun (boundT μ s n args H) = some (v, ups)) : Nat.blt (μ args H) n = true ∧ crun (s args H) = some (v, ups) := by
 unfold boundT at h
 cases hb : Nat.blt (μ args H) n with
 | false => rw [hb] at h; cases h
 | true => rw [hb] at h; exact ⟨rfl, h⟩
end Go.Am
/- The abstract machine: loops known by what their rounds come to, told by other words in several steps. -/
namespace Go.Am
variable {P : Program}
inductive ChainL (P : Program) (H : HpL) : SV → List (Nat × Option Chunk) → SV → List (Nat × Option Chunk) → Prop
 | same {v ups ups'} : (∀ x, updF ups' H.get x = updF ups H.get x) → ChainL P H v ups v ups'
 | ren {v ups v' ups'} : Renamed H v ups v' ups' → ChainL P H v ups v' ups'
 | told {v ups v' ups'} : ToldL P H v ups v' ups' → ChainL P H v ups v' ups'
 | trans {v ups v1 ups1 v' ups'} : ChainL P H v ups v1 ups1 → ChainL P H v1 ups1 v' ups' → ChainL P H v ups v' ups'
noncomputable def oneS1 (args : List SV) (H : HpL) (v : SV) (ups : List (Nat × Option Chunk)) : CSumm := fun a h => by classical exact if a = args ∧ h = H then .ret v ups else .fail
theorem oneS1_at {args : List SV} {H : HpL} {v : SV} {ups : List (Nat × Option Chunk)} {a : List SV} {h : HpL} {v' : SV} {u' : List (Nat × Option Chunk)} (hx : crun (oneS1 args H v ups a h) = some (v', u')) : a = args ∧ h = H ∧ v' = v ∧ u' = ups := by
 simp only [oneS1] at hx
 split at hx
 · rename_i hq; cases hx; exact ⟨hq.1, hq.2, rfl, rfl⟩
 · cases hx
theorem oneS1_run (args : List SV) (H : HpL) (v : SV) (ups : List (Nat × Option Chunk)) : crun (oneS1 args H v ups args H) = some (v, ups) := by simp [oneS1, crun]
theorem loop_chain {e : LEnt} {args : List SV} {H : HpL} {v : SV} {ups : List (Nat × Option Chunk)} {v' : SV} {ups' : List (Nat × Option Chunk)} (hch : ChainL P H v ups v' ups') : ValidL P { e with s := oneS1 args H v ups } → ValidL P { e with s := oneS1 args H v' ups' } := by
 induction hch with
 | same hs =>
  intro h
  refine loop_ren (e := { e with s := oneS1 args H _ _ }) h (fun a h2 v2 u2 hx => ?_)
  obtain ⟨rfl, rfl, rfl, rfl⟩ := oneS1_at hx
  exact .inl ⟨_, oneS1_run _ _ _ _, hs⟩
 | ren hs =>
  intro h
  refine loop_ren (e := { e with s := oneS1 args H _ _ }) h (fun a h2 v2 u2 hx => ?_)
  obtain ⟨rfl, rfl, rfl, rfl⟩ := oneS1_at hx
  exact .inr ⟨_, _, oneS1_run _ _ _ _, hs⟩
 | told hs =>
  intro h
  refine loop_told (e := { e with s := oneS1 args H _ _ }) h (fun a h2 v2 u2 hx => ?_)
  obtain ⟨rfl, rfl, rfl, rfl⟩ := oneS1_at hx
  exact ⟨_, _, oneS1_run _ _ _ _, hs⟩
 | trans _ _ ih1 ih2 => exact fun h => ih2 (ih1 h)
theorem loop_valid5 {T : LTab} {sp : Bool} {fuel : Nat} {e : LEnt} {c : Code} {μ : List SV → HpL → Nat} (hmix : P.follows .mixedOrders = true) (hT : LOk P T) (hfill : fillC T c = e.code)
  (hstep : ∀ n args H v' ups', Nat.blt (μ args H) (n + 1) = true → crun (e.s args H) = some (v', ups') → ∃ (κ : Nat → Option CSumm) (ι : Nat → Bool), KOk P κ ∧
   ∃ v ups, crun (loopOnce P κ ι T sp fuel e { e with s := boundT μ e.s n } c args H) = some (v, ups) ∧ ChainL P H v ups v' ups') : ValidL P e := by
 have key : ∀ n, ValidL P { e with s := boundT μ e.s n } := by
  intro n
  induction n with
  | zero =>
   intro args H k c outs ups hrun
   obtain ⟨h1, _⟩ := boundT_at hrun
   rw [Nat.blt_eq] at h1; omega
  | succ n ih =>
   intro args H k c0 outs ups hrun hc ho ha
   obtain ⟨hb, hr⟩ := boundT_at hrun
   obtain ⟨κ, ι, hκ, v, u, hrn, hch⟩ := hstep n args H _ ups hb hr
   have hv := round_valid (κ := κ) (ι := ι) (T := T) (sp := sp) (fuel := fuel) (c := c) hκ hmix hT hfill ih
   have h1 : ValidL P { e with s := oneS1 args H v u } := loop_ren (e := { e with s := fun args H => loopOnce P κ ι T sp fuel e { e with s := boundT μ e.s n } c args H }) hv (fun a h v' u' hx => by
    obtain ⟨rfl, rfl, rfl, rfl⟩ := oneS1_at hx
    exact .inl ⟨_, hrn, fun _ => rfl⟩)
   exact loop_chain hch h1 args H k c0 outs ups (oneS1_run _ _ _ _) hc ho ha
 intro args H k c0 outs ups hrun
 exact key (μ args H + 1) args H k c0 outs ups (by
  show crun (boundT μ e.s _ args H) = _
  unfold boundT
  rw [show Nat.blt (μ args H) (μ args H + 1) = true by rw [Nat.blt_eq]; omega]
  exact hrun)
end Go.Am
/- The abstract machine: a loop over a map: in whatever order the entries come, the rounds come to one end. -/
namespace Go.Am
variable {P : Program} {ω : Nat → Value}
inductive NTree where
 | ret (v : SV) (ups : List (Nat × Option Chunk))
 | any (a b : NTree)
 | fail
def toN : CTree → NTree
 | .ret v ups => .ret v ups
 | .ite b t e => bif b then toN t else toN e
 | .fail => .fail
noncomputable def oneOf (x y : Option (SV × List (Nat × Option Chunk))) : Option (SV × List (Nat × Option Chunk)) := by
 classical exact if x = y then x else none
noncomputable def denN : NTree → Option (SV × List (Nat × Option Chunk))
 | .ret v ups => some (v, ups)
 | .any a b => oneOf (denN a) (denN b)
 | .fail => none
theorem denN_any {a b : NTree} {d : SV × List (Nat × Option Chunk)} (h : denN (.any a b) = some d) : denN a = some d ∧ denN b = some d := by
 simp only [denN, oneOf] at h
 split at h
 · rename_i e; exact ⟨h, by rw [← e]; exact h⟩
 · cases h
theorem denN_same {a b : NTree} {d : SV × List (Nat × Option Chunk)} (ha : denN a = some d) (hb : denN b = some d) : denN (.any a b) = some d := by
 simp only [denN, oneOf, ha, hb]
 simp
theorem denN_toN : ∀ (t : CTree), denN (toN t) = crun t
 | .ret _ _ => rfl
 | .ite b t e => by cases b <;> simp [toN, crun, denN_toN t, denN_toN e]
 | .fail => rfl
def anyN : List NTree → NTree
 | [] => .fail
 | a :: l => match l with
  | [] => a
  | _ :: _ => .any a (anyN l)
theorem denN_anyN {d : SV × List (Nat × Option Chunk)} : ∀ {l : List NTree}, denN (anyN l) = some d → ∀ t ∈ l, denN t = some d
 | [], _, t, ht => by cases ht
 | [a], h, t, ht => by
  simp only [List.mem_singleton] at ht
  subst ht; exact h
 | a :: b :: l, h, t, ht => by
  obtain ⟨h1, h2⟩ := denN_any (a := a) (b := anyN (b :: l)) h
  rcases List.mem_cons.1 ht with rfl | ht
  · exact h1
  · exact denN_anyN h2 t ht
def optsB (z since cl : Nat) (seen : List Nat) : List Nat → List (SV × Option Chunk)
 | [] => [(.tup [.bool false], none)]
 | b :: l => (b :: l).map fun b => (.tup [.bool true, .junk, .junk], some (.mit z since (b :: seen) cl))
theorem optsB_mem {z since cl : Nat} {seen l : List Nat} {p : SV × Option Chunk} (h : p ∈ optsB z since cl seen l) : (l = [] ∧ p = (.tup [.bool false], none)) ∨ ∃ b, b ∈ l ∧ p = (.tup [.bool true, .junk, .junk], some (.mit z since (b :: seen) cl)) := by
 cases l with
 | nil => exact .inl ⟨rfl, by simpa [optsB] using h⟩
 | cons b l =>
  obtain ⟨c, h1, h2⟩ := List.mem_map.1 h
  exact .inr ⟨c, h1, h2.symm⟩
def nextOpts (s : St) (it : Operand) : Option (Nat × List (SV × Option Chunk)) :=
 match s.ev it with
 | .ptr y 0 => match s.hp.get y with
  | some (.mit z since seen last) => match s.hp.get z with
   | some (.mpn bs cl ks vs) => bif ageOk since last bs then
     match leftR seen bs ks vs with
     | [] => some (y, [(.tup [.bool false], none)])
     | e :: l => some (y, (e :: l).map fun e => (.tup [.bool true, e.2.1, e.2.2], some (.mit z since (e.1 :: seen) cl)))
    else none
   | some (.ext (.mpo _ _ bs cl _ _)) => bif ageOk since last bs then some (y, optsB z since cl seen (leftB seen bs)) else none
   | _ => none
  | _ => none
 | _ => none
section
variable (P : Program) (κ : Nat → Option CSumm) (ι : Nat → Bool) (fuel : Nat)
def loopN : Nat → Code → St → (Ex → St → NTree) → NTree
 | 0, _, _, _ => .fail
 | n + 1, c, s, k => match c with
  | .seq (.region _ ops false) rest => match ops.toList with
   | o :: os => match o.op, o.guard with
    | .next it false, none => bif dstOk s o.dst then
      match nextOpts s it with
      | some (y, l) => anyN (l.map fun p => opsQ .fail P κ ι (exec .fail P κ ι fuel) (o :: os) (fun s1 => exec .fail P κ ι fuel rest s1 fun e s2 => match e with
        | .normal => loopN n c s2 k
        | e => k e s2) os ((s.upd [(y, p.2)] s.nx).put o.dst p.1))
      | none => .fail
     else .fail
    | _, _ => .fail
   | [] => .fail
  | _ => .fail
def loopNOnce (n : Nat) (sp : Bool) (e : LEnt) (args : List SV) (H : HpL) : NTree :=
 bif canonB H 0 && closedB H.length H && Nat.beq args.length e.ins.length && Nat.blt e.size 16000 && Nat.blt H.length 1000000 && lowB e.size e.ins && lowB e.size e.keep && lowB e.size e.outs && noOpqL args && noOpqH H && lowB H.length (namesL args) then
  loopN P κ ι fuel n e.code (loopSt sp e args H) (fun ex s => toN (finishL e ex s))
 else .fail
end
section
variable {w : World} {Im : Nat → Prop} {θ : Th} {h : HpF}
theorem drop_rel (hr : HRel P ω w Im θ h) (y : Nat) : Ext (fun _ => False) h w Im θ (updF [(y, none)] h) w Im θ ∧ HRel P ω w Im θ (updF [(y, none)] h) := by
 have hs : ∀ x c, updF [(y, none)] h x = some c → h x = some c := by
  intro x c hx
  simp only [updF] at hx
  by_cases e : x = y
  · rw [if_pos e] at hx; cases hx
  · rwa [if_neg e] at hx
 exact ⟨⟨fun _ _ => rfl, fun _ _ h => h, fun _ h => h, Nat.le_refl _, fun _ _ _ => rfl, fun _ h => .inl h, fun x c b N hx hθ => .inl ⟨x, c, N, hs x c hx, hθ⟩, rfl, rfl, rfl, Nat.le_refl _⟩,
  ⟨fun x c hx => hr.at_ x c (hs x c hx), fun x z c c' b N N' hx hz => hr.inj x z c c' b N N' (hs x c hx) (hs z c' hz), fun x c b N hx => hr.own x c b N (hs x c hx), hr.im, hr.gl⟩⟩
end
theorem next_one {o : Oper} {it : Operand} (ho : o.op = .next it false) {s : St} {y' : Nat} {l : List (SV × Option Chunk)} (hs : StOk s) (hd : dstN s.size o.dst) (hyn : y' < s.nx) {ρ : Option Nat} {K : Act → World → Prop} {Q : Exit → Act → World → Prop} {a : Act} {w : World} {Im : Nat → Prop} {θ : Th} (sim : Sim P ω ρ s a w Im θ)
  (hA : ∀ p ∈ l, After P ω ρ s ((s.upd [(y', p.2)] s.nx).put o.dst p.1) a w Im θ K) :
  ∀ (r : SV) (c : Option Chunk), (r, c) ∈ l → ∀ (v : Value) (w' : World), (Instr.next (a.eval it) false o.type).run P w = .ok v w' → VRel P ω w' Im θ r v → Ext (fun _ => False) s.hp.get w Im θ (updF [(y', c)] s.hp.get) w' Im θ → HRel P ω w' Im θ (updF [(y', c)] s.hp.get) → o.wpIn (FR ρ) 0 P a w K Q := by
  intro r c hm v w' hrun hv hE hH
  have hg : Good P ω o a w Im θ s.hp.get r [(y', c)] s.nx s.nx := good_run (by obtain ⟨dst, op, type, pos, after, guard⟩ := o; simp only at ho; subst ho; simp [execOp, hrun]) (hE.mono (fun _ h => h.elim)) hv hH
  refine hg ρ K Q (fun v w' Im' θ' hE hv hH => ?_)
  have hk : ∀ p ∈ [(y', c)], p.1 < s.nx := fun p hp => by simp only [List.mem_singleton] at hp; subst hp; exact hyn
  have hsn := hs.nx
  have hk2 : ∀ p ∈ [(y', c)], p.1 < 1000000 := fun p hp => by have := hk p hp; omega
  have ou := upd_ok hs (Nat.le_refl _) hs.nx hk
  have hhp : (s.upd [(y', c)] s.nx).hp.get = updF [(y', c)] s.hp.get := upsTr_get _ _ hk2
  have hE' : Ext (fun x => s.nx ≤ x) s.hp.get w Im θ (updF [(y', c)] s.hp.get) w' Im' θ' := hE.mono (fun x hx => hx.1)
  refine hA (r, c) hm _ w' Im' θ' ⟨put_ok ou hd r, ?_, ?_, ?_⟩ ?_ (New.refl (put_defers _ _ _))
  · rw [put_sz, put_hp, hhp, tmp_put (s := s.upd [(y', c)] s.nx) hd ou.size]
    exact sim.sf.step hd hE hv hH
  · rw [put_nx, put_hp, hhp]
    intro x hx
    have hx' : s.nx ≤ x := hx
    obtain ⟨f1, f2⟩ := sim.fr x hx'
    refine ⟨by rw [hE.thOld x (by omega)]; exact f1, ?_⟩
    simp only [updF]
    rw [if_neg (by omega)]
    exact f2
  · rw [put_rd]
    rcases sim.rd with g | ⟨y, b, N, g1, g2, g3⟩
    · exact .inl g
    · exact .inr ⟨y, b, N, g1, hE.thUp _ _ g2, g3⟩
  · rw [put_hp, hhp]; exact hE'
theorem next_wp {o : Oper} {it : Operand} (ho : o.op = .next it false) {s : St} {y : Nat} {l : List (SV × Option Chunk)} (hopt : nextOpts s it = some (y, l)) (hs : StOk s) (hd : dstN s.size o.dst) :
  y < s.nx ∧ ∀ (ω : Nat → Value) (ρ : Option Nat) (K : Act → World → Prop) (Q : Exit → Act → World → Prop) (a : Act) (w : World) (Im : Nat → Prop) (θ : Th), Sim P ω ρ s a w Im θ →
   (∀ p ∈ l, After P ω ρ s ((s.upd [(y, p.2)] s.nx).put o.dst p.1) a w Im θ K) → o.wpIn (FR ρ) 0 P a w K Q := by
 unfold nextOpts at hopt
 split at hopt
 case h_2 => cases hopt
 rename_i y' hev
 split at hopt
 case h_2 => cases hopt
 rename_i z since seen last hy
 split at hopt
 · rename_i bs cl ks vs hz
   cases hok : ageOk since last bs with
   | false => rw [hok] at hopt; cases hopt
   | true =>
   rw [hok] at hopt
   simp only [cond_true] at hopt
   have hyn : y' < s.nx := hs.dom _ _ hy
   have hyy : y' = y := by split at hopt <;> (simp only [Option.some.injEq, Prod.mk.injEq] at hopt; exact hopt.1)
   subst hyy
   refine ⟨hyn, fun ω ρ K Q a w Im θ sim hA => ?_⟩
   have hu := sim.sf.eval it
   rw [← evT_ev, hev] at hu
   have hall := run_nextAll (P := P) sim.sf.hp hy hz hok hu o.type
   rcases hall with ⟨h1, h2⟩ | ⟨b, k, v, h1, uk, uv, w', h2, h3, h4, h5, h6⟩
   · rw [h1] at hopt
     simp only [Option.some.injEq, Prod.mk.injEq, true_and] at hopt
     subst hopt
     obtain ⟨d1, d2⟩ := drop_rel sim.sf.hp y'
     exact next_one ho hs hd hyn sim hA (.tup [.bool false]) none (by simp) _ w h2 (.tup rfl (fun i v u hv hu => by
      match i, hv, hu with
      | 0, hv, hu => cases hv; cases hu; exact .bool)) d1 d2
   · cases hl : leftR seen bs ks vs with
     | nil => rw [hl] at h1; cases h1
     | cons e0 l0 =>
      rw [hl] at hopt h1
      simp only [Option.some.injEq, Prod.mk.injEq, true_and] at hopt
      subst hopt
      exact next_one ho hs hd hyn sim hA (.tup [.bool true, k, v]) (some (.mit z since (b :: seen) cl)) (List.mem_map.2 ⟨(b, k, v), h1, rfl⟩) _ w' h2 (.tup rfl (fun i x u hv hu => by
       match i, hv, hu with
       | 0, hv, hu => cases hv; cases hu; exact .bool
       | 1, hv, hu => cases hv; cases hu; exact h3
       | 2, hv, hu => cases hv; cases hu; exact h4)) h5 h6
 · rename_i kt et bs cl ks vs hz
   cases hok : ageOk since last bs with
   | false => rw [hok] at hopt; cases hopt
   | true =>
   rw [hok] at hopt
   simp only [cond_true, Option.some.injEq, Prod.mk.injEq] at hopt
   obtain ⟨rfl, rfl⟩ := hopt
   have hyn : y' < s.nx := hs.dom _ _ hy
   refine ⟨hyn, fun ω ρ K Q a w Im θ sim hA => ?_⟩
   have hu := sim.sf.eval it
   rw [← evT_ev, hev] at hu
   rcases run_nextO (P := P) sim.sf.hp hy hz hok hu o.type with ⟨h1, h2⟩ | ⟨b, h1, uk, uv, w', h2, h5, h6⟩
   · rw [h1] at hA
     obtain ⟨d1, d2⟩ := drop_rel sim.sf.hp y'
     exact next_one ho hs hd hyn sim hA (.tup [.bool false]) none (by simp [optsB]) _ w h2 (.tup rfl (fun i v u hv hu => by
      match i, hv, hu with
      | 0, hv, hu => cases hv; cases hu; exact .bool)) d1 d2
   · cases hl : leftB seen bs with
     | nil => rw [hl] at h1; cases h1
     | cons e0 l0 =>
      rw [hl] at h1 hA
      exact next_one ho hs hd hyn sim hA (.tup [.bool true, .junk, .junk]) (some (.mit z since (b :: seen) cl)) (List.mem_map.2 ⟨b, h1, rfl⟩) _ w' h2 (.tup rfl (fun i x u hv hu => by
       match i, hv, hu with
       | 0, hv, hu => cases hv; cases hu; exact .bool
       | 1, hv, hu => cases hv; cases hu; exact .junk
       | 2, hv, hu => cases hv; cases hu; exact .junk)) h5 h6
 · cases hopt
theorem loopN_run {κ : Nat → Option CSumm} {ι : Nat → Bool} {fuel : Nat} (hκ : KOk P κ) (hmix : P.follows .mixedOrders = true) {c : Code} {k : Ex → St → NTree} {d : SV × List (Nat × Option Chunk)} : ∀ (n : Nat) (s : St), StOk s → denN (loopN P κ ι fuel n c s k) = some d →
  ∀ (ω : Nat → Value) (ρ : Option Nat) (Q : Exit → Act → World → Prop) (a : Act) (w : World) (Im : Nat → Prop) (θ : Th), Sim P ω ρ s a w Im θ →
   (∀ e s', StOk s' → Later s s' → s'.size = s.size → s'.rd = s.rd → denN (k e s') = some d → After P ω ρ s s' a w Im θ (Q (exitOf e))) → Code.roundsIn (FR ρ) 0 P c Q n a w
 | 0, s, hs, h, ω, ρ, Q, a, w, Im, θ, sim, hA => by simp [loopN, denN] at h
 | n + 1, s, hs, h, ω, ρ, Q, a, w, Im, θ, sim, hA => by
  have hno : ∀ {t : SV × List (Nat × Option Chunk)}, denN .fail = some t → False := fun h => by cases h
  simp only [loopN] at h
  split at h
  case h_2 => exact (hno h).elim
  rename_i rid ops rest
  split at h
  case h_2 => exact (hno h).elim
  rename_i o os hops
  split at h
  case h_2 => exact (hno h).elim
  rename_i it hop hguard
  cases hd : dstOk s o.dst with
  | false => rw [hd] at h; exact (hno h).elim
  | true =>
   rw [hd] at h
   simp only [cond_true] at h
   have hdN := dstOk_N hd
   split at h
   case h_2 => exact (hno h).elim
   rename_i y l hopt
   obtain ⟨hyn, hwp⟩ := next_wp (P := P) hop hopt hs hdN
   have hall := denN_anyN h
   have hrec := exec_ok (P := P) (den := denN) (fl := .fail) rfl hκ hmix (ι := ι) fuel
   rw [roundsIn_succ]
   refine wpIn_seq (wpIn_region ?_)
   have hsize : ops.size = os.length + 1 := by rw [← Array.length_toList, hops]; rfl
   have hto : ops = (o :: os).toArray := by rw [← hops]
   rw [hsize, List.range_eq_range', List.range'_succ]
   simp only [wpOpsIn]
   have hget : ops[0]? = some o := by rw [hto]; rfl
   rw [hget]
   simp only []
   have hwant : Region.wanted o (yielded ops a.tmps) = true := by
    unfold Region.wanted
    simp [hguard]
   rw [if_pos hwant]
   refine hwp ω ρ _ _ a w Im θ sim (fun p hp => ?_)
   have hp1 := hall _ (List.mem_map.2 ⟨p, hp, rfl⟩)
   have hk : ∀ q ∈ [(y, p.2)], q.1 < s.nx := fun q hq => by simp only [List.mem_singleton] at hq; subst hq; exact hyn
   have hsn := hs.nx
   have hk2 : ∀ q ∈ [(y, p.2)], q.1 < 1000000 := fun q hq => by have := hk q hq; omega
   have ou := upd_ok hs (Nat.le_refl _) hs.nx hk
   have hs1 := put_ok ou (d := o.dst) hdN p.1
   have hl1 : Later s ((s.upd [(y, p.2)] s.nx).put o.dst p.1) := (upd_later (Nat.le_refl _) hk2).trans (put_later _ _ _)
   obtain ⟨s2, hs2, hl2, z2, r2, h2, hw2⟩ := opsQ_run (P := P) (den := denN) (fl := .fail) rfl hrec hκ os 1 _ (by rfl) hs1 hp1
   obtain ⟨e3, s3, hs3, hc3, h3⟩ := hrec rest s2 _ d hs2 h2
   intro a1 w1 Im1 θ1 sim1 hE1 hN1
   rw [hto]
   refine hw2 ω ρ _ a1 w1 Im1 θ1 sim1 (fun a2 w2 Im2 θ2 sim2 hE2 hN2 => ?_)
   have hE12 : Ext (fun x => s.nx ≤ x) s.hp.get w Im θ s2.hp.get w2 Im2 θ2 := hE1.trans (hE2.mono (fun x hx => Nat.le_trans hl1.nx hx))
   have hN12 : New a a2 w := hN1.trans hN2 hE1.size
   have hl12 : Later s s2 := hl1.trans hl2
   refine hc3.wp ρ _ a2 w2 Im2 θ2 sim2 (fun a3 w3 Im3 θ3 sim3 hE3 hN3 => ?_)
   have hE13 : Ext (fun x => s.nx ≤ x) s.hp.get w Im θ s3.hp.get w3 Im3 θ3 := hE12.trans (hE3.mono (fun x hx => Nat.le_trans hl12.nx hx))
   have hN13 : New a a3 w := hN12.trans hN3 hE12.size
   have hl13 : Later s s3 := hl12.trans hc3.later
   have hsz : s3.size = s.size := by rw [hc3.size, z2, put_sz]; rfl
   have hrd : s3.rd = s.rd := by rw [hc3.rd, r2, put_rd]; rfl
   cases e3 with
   | normal =>
    rw [← hto]
    exact loopN_run hκ hmix n s3 hs3 h3 ω ρ Q a3 w3 Im3 θ3 sim3 (fun e s' h1 h2 h3 h4 h5 => After.trans hl13 hE13 hN13 (hA e s' h1 (hl13.trans h2) (by rw [h3, hsz]) (by rw [h4, hrd]) h5))
   | exit id => exact hA (.exit id) s3 hs3 hl13 hsz hrd h3 a3 w3 Im3 θ3 sim3 hE13 hN13
   | ret => exact hA .ret s3 hs3 hl13 hsz hrd h3 a3 w3 Im3 θ3 sim3 hE13 hN13
theorem mapLoop_valid {κ : Nat → Option CSumm} {ι : Nat → Bool} {fuel n : Nat} {sp : Bool} {e : LEnt} (hκ : KOk P κ) (hmix : P.follows .mixedOrders = true)
  (hstep : ∀ args H r, crun (e.s args H) = some r → denN (loopNOnce P κ ι fuel n sp e args H) = some r) : ValidL P e := by
 intro args H k c0 outs ups hrun hcanon hol hal
 have hl := hstep args H _ hrun
 unfold loopNOnce at hl
 cases hc : canonB H 0 && closedB H.length H && Nat.beq args.length e.ins.length && Nat.blt e.size 16000 && Nat.blt H.length 1000000 && lowB e.size e.ins && lowB e.size e.keep && lowB e.size e.outs && noOpqL args && noOpqH H && lowB H.length (namesL args) with
 | false => rw [hc] at hl; simp [denN] at hl
 | true =>
  rw [hc] at hl
  simp only [cond_true] at hl
  simp only [Bool.and_eq_true] at hc
  obtain ⟨⟨⟨⟨⟨⟨⟨⟨⟨⟨c1, c2⟩, c3⟩, c4⟩, c5⟩, c6⟩, c7⟩, c8⟩, c9⟩, c10⟩, c11⟩ := hc
  have hsz : e.size < 16000 := by rwa [Nat.blt_eq] at c4
  have hHl : H.length < 1000000 := by rwa [Nat.blt_eq] at c5
  have hins := lowB_spec _ c6
  have hkeep := lowB_spec _ c7
  have houts := lowB_spec _ c8
  have hhp : (loopSt sp e args H).hp.get = H.get := heapTr_init c1 (by omega)
  have htm : ∀ j, ((loopSt sp e args H).tmp j = .junk) ∨ (j ∈ e.keep ∧ (loopSt sp e args H).tmp j = .opq j) ∨ ∃ i : Nat, e.ins[i]? = some j ∧ ∃ v, args[i]? = some v ∧ (loopSt sp e args H).tmp j = v := by
   intro j
   have hk16 : ∀ x ∈ e.keep, x < 16000 := fun x hx => by have := hkeep x hx; omega
   have hi16 : ∀ x ∈ e.ins, x < 16000 := fun x hx => by have := hins x hx; omega
   have he : (loopSt sp e args H).tmp j = match (setPs e.ins args (keepI e.keep .lf)).get j with
     | some v => v
     | none => .junk := rfl
   rcases setPs_at e.ins args (keepI e.keep .lf) j hi16 with ⟨g1, -⟩ | ⟨i, g1, v, g2, g3⟩
   · rw [he, g1, keepI_get _ _ _ hk16]
     by_cases hj : j ∈ e.keep
     · simp [hj]
     · simp [hj, Tr.get_lf]
   · exact .inr (.inr ⟨i, g1, v, g2, by rw [he, g3]⟩)
  have hs0 : StOk (loopSt sp e args H) := by
   refine ⟨hsz, hHl, fun t ht => ?_, ?_, Nat.le_refl _⟩
   · have ht' : e.size ≤ t := ht
     rcases htm t with g | ⟨g, _⟩ | ⟨i, g, _⟩
     · exact g
     · have := hkeep t g; omega
     · have := hins t (List.mem_of_getElem? g); omega
   · intro x c hx
     rw [hhp] at hx
     exact canon_lt c1 hx
  refine ⟨n, fun ω θ Im w a Q hsize hargs hH hfr hMk hpost => ?_⟩
  have sim0 : Sim P (fun t => a.tmps.getD t undef) none (loopSt sp e args H) a w Im θ := by
   refine ⟨hs0, ⟨hsize, fun t ht => ?_, hs0.out, by rw [hhp]; exact hMk, by rw [hhp]; exact hH.om (fun x c hx => noOpqH_at c10 hx)⟩, ?_, .inl ⟨rfl, rfl⟩⟩
   · rcases htm t with g | ⟨g, g2⟩ | ⟨i, g, v, g2, g3⟩
     · rw [g]; exact .junk
     · rw [g2]; exact .opq
     · rw [g3]
       exact (hargs.at_ i v _ g2 (by simp [g])).om (noOpqL_at c9 g2)
   · intro x hx
     have hx' : H.length ≤ x := hx
     refine ⟨hfr x hx', ?_⟩
     rw [hhp]
     cases hg : H.get x with
     | none => rfl
     | some c => have := canon_lt c1 hg; omega
  refine loopN_run hκ hmix n _ hs0 hl (fun t => a.tmps.getD t undef) none Q a w Im θ sim0 (fun ex sF hsF hlater hsF2 hrdF hfin0 => ?_)
  rw [denN_toN] at hfin0
  obtain ⟨f1, f2, f3, rfl, ns, hre, rfl, rfl⟩ := finishL_inv hfin0
  have hmF : sF.m = H.length := hlater.m
  have hsF3 : sF.size = e.size := hsF2
  intro a' w' Im' θ' sim' hE hN
  have hsame : ∀ x, x < H.length → sF.hp.get x = H.get x ∨ x ∈ sF.dirty := by
   intro x hx
   have := hlater.same x hx
   rwa [hhp] at this
  have hdl : ∀ x ∈ sF.dirty, x < H.length := by
   intro x hx
   rcases hlater.low x hx with h | h
   · cases h
   · exact h
  have hext : Ext (fun x => H.length ≤ x) H.get w Im θ sF.hp.get w' Im' θ' := by
   rw [← hhp]; exact hE
  have hz : VRel P (fun t => a.tmps.getD t undef) w' Im' θ' (.tup (.int .i64 (codeEx ex) :: e.outs.map sF.tmp)) (.tuple (.int .i64 (codeEx ex) :: (e.outs.map fun t => a'.tmps.getD t undef)).toArray) := by
   have hl := lrel_map (P := P) (ω := fun t => a.tmps.getD t undef) (w := w') (Im := Im') (θ := θ') (f := sF.tmp) (g := fun t => a'.tmps.getD t undef) (l := e.outs) (fun t ht => sim'.sf.tm t (by rw [hsF3]; exact houts t ht))
   refine .tup (by simp) (fun i v u hv hu => ?_)
   cases i with
   | zero => simp at hv hu; subst hv; subst hu; exact .int
   | succ i => exact hl.at_ i v u (by simpa using hv) (by simpa using hu)
  obtain ⟨θ3, g1, g2, g3, g4⟩ := finish_gen c1 c2 hfr hmF hsame hdl hre sim'.sf.hp hext hz
  rw [← hmF] at g1 g2 g3 g4
  have g2' : LRel P (fun t => a.tmps.getD t undef) w' Im' θ3 (renL (outName ns sF.m) (e.outs.map sF.tmp)) (e.outs.map fun t => a'.tmps.getD t undef) := by
   simp only [renS, renL] at g2
   cases g2 with
   | tup p1 p2 => exact ⟨by rw [renL_eq]; simp, fun i v u hv hu => p2 (i + 1) v u (by simpa using hv) (by simpa using hu)⟩
  rw [← hmF] at hpost
  have := hpost a' w' Im' θ3 (by rw [sim'.sf.size]; exact hsF3) g1 (g2'.om (by rw [noOpqL_ren]; exact f2)) (g3.om (noOpqU_at f3 (fun x c hx => noOpqH_at c10 hx))) (fun t ht => ?_) ?_ hN
  · rw [exOf_code] at this; exact this
  · have h1 := sim'.sf.tm t (by rw [hsF3]; exact hkeep t ht)
    rw [f1 t ht] at h1
    generalize a'.tmps.getD t undef = z at h1
    cases h1
    rfl
  · obtain ⟨rs, base, m1, mb, m2, m3⟩ := sim'.sf.df
    refine ⟨rs, base, m1, mb, m2, fun r hr => ⟨(m3 r hr).1, (m3 r hr).2.1, fun y c N hy hb => ?_⟩⟩
    obtain ⟨x, c0, hx, hxb⟩ := g4 y c r N hy hb
    exact (m3 r hr).2.2 x c0 N hx hxb
end Go.Am
/- The abstract machine: a copy of a list is the list. -/
namespace Go.Am
variable {P : Program} {ω : Nat → Value}
def bndE (b : Nat) (es : List SV) : Bool := decide (es.length ≤ 9223372036854775807) && decide (es.length * b ≤ 140737488355328)
def cloneS (e b : Nat) : CSumm
 | [.psl e' es], [] => .ite (Nat.beq e e' && bndE b es) (.ret (.psl e es) []) .fail
 | _, _ => .fail
theorem known_clone (hn : noNum P) (hmix : P.follows .mixedOrders = true) {f : FuncId} {fn : Func} (hf : P.funcs[f]? = some fn) (hb : fn.body.isNone = false) {e b sz : Nat} {body : CSumm} (hv : ValidC P f body)
  (h1 : crun (body [.nils] []) = some (.nils, [])) (h2 : ∀ es, bndE b es = true → crun (body [.pnn e es] []) = some (.qs 0 sz 0 (0 + es.length), [(0, some (.seq e ([] ++ es)))])) : Known P f (cloneS e b) := by
 refine ⟨⟨fn, hf, noNum_at hn hf, hb⟩, ?_⟩
 intro args H v ups hrun hcanon ω θ Im w us hl hH hfr
 unfold cloneS at hrun
 split at hrun
 case h_2 => simp [crun] at hrun
 rename_i e' es
 cases hc : Nat.beq e e' && bndE b es with
 | false => rw [hc] at hrun; simp [crun] at hrun
 | true =>
  rw [hc] at hrun
  simp only [if_true, crun, Option.some.injEq, Prod.mk.injEq] at hrun
  obtain ⟨rfl, rfl⟩ := hrun
  simp only [Bool.and_eq_true] at hc
  have : e = e' := Nat.eq_of_beq_eq_true hc.1
  subst this
  match us, hl with
  | [u], hl =>
   have hu := hl.at_ 0 _ u rfl rfl
   have one : ∀ {v : SV}, VRel P ω w Im θ v u → LRel P ω w Im θ [v] [u] := fun hv => ⟨rfl, fun i x y hx hy => by
    cases i with
    | zero => simp at hx hy; subst hx; subst hy; exact hv
    | succ i => simp at hx⟩
   have hu2 := hu
   cases hu with
   | psl uf g1 g0 g2 g3 g4 =>
    rename_i p n cap
    cases p with
    | none =>
     have hc0 : cap = 0 := g0.2 rfl
     subst hc0
     have hn0 : n = 0 := by omega
     subst hn0
     have he : es = [] := List.eq_nil_of_length_eq_zero g1
     subst he
     refine (hv [.nils] [] _ _ h1 hcanon ω θ Im w _ (one .nils) hH hfr).mono ?_
     rintro o w' ⟨z, θ', Im', rfl, hE, hz, hH'⟩
     refine ⟨z, θ', Im', rfl, hE, ?_, hH'⟩
     cases hz
     exact .psl (fun _ => undef) rfl ⟨Nat.le_refl _, by simp⟩ (fun v hv => by cases hv) (fun i v hv => by simp at hv) (fun hn => absurd rfl hn)
    | some a =>
     refine (hv [.pnn e es] [] _ _ (h2 es hc.2) hcanon ω θ Im w _ (one (.pnn hu2)) hH hfr).mono ?_
     rintro o w' ⟨z, θ', Im', rfl, hE, hz, hH'⟩
     have hget : updF [(0, some (.seq e ([] ++ es)))] (HpL.get []) 0 = some (.seq e es) := by simp [updF]
     have hp := seq_psl hH' hget (by simp) hz
     obtain ⟨hE2, hH2⟩ := drop_step hH' (new := fun x => ([] : HpL).length ≤ x) [0]
     have hfun : updF (drops [0]) (updF [(0, some (.seq e ([] ++ es)))] (HpL.get [])) = updF [] (HpL.get []) := by
      funext x
      by_cases hx : x = 0
      · subst hx; simp [updF, drops, HpL.get]
      · simp [updF, drops, HpL.get, hx]
     rw [hfun] at hE2 hH2
     exact ⟨z, θ', _, rfl, hE.trans hE2, hp, hH2⟩
theorem known_own (hn : noNum P) (hmix : P.follows .mixedOrders = true) {f : FuncId} {fn : Func} (hf : P.funcs[f]? = some fn) (hb : fn.body.isNone = false) {e b sz : Nat} {body : CSumm} (hv : ValidC P f body)
  (h2 : ∀ es, bndE b es = true → crun (body [.psl e es] []) = some (.qs 0 sz 0 (0 + es.length), [(0, some (.seq e ([] ++ es)))])) : Known P f (cloneS e b) := by
 refine ⟨⟨fn, hf, noNum_at hn hf, hb⟩, ?_⟩
 intro args H v ups hrun hcanon ω θ Im w us hl hH hfr
 unfold cloneS at hrun
 split at hrun
 case h_2 => simp [crun] at hrun
 rename_i e' es
 cases hc : Nat.beq e e' && bndE b es with
 | false => rw [hc] at hrun; simp [crun] at hrun
 | true =>
  rw [hc] at hrun
  simp only [if_true, crun, Option.some.injEq, Prod.mk.injEq] at hrun
  obtain ⟨rfl, rfl⟩ := hrun
  simp only [Bool.and_eq_true] at hc
  have : e = e' := Nat.eq_of_beq_eq_true hc.1
  subst this
  refine (hv [.psl e es] [] _ _ (h2 es hc.2) hcanon ω θ Im w _ hl hH hfr).mono ?_
  rintro o w' ⟨z, θ', Im', rfl, hE, hz, hH'⟩
  have hget : updF [(0, some (.seq e ([] ++ es)))] (HpL.get []) 0 = some (.seq e es) := by simp [updF]
  have hp := seq_psl hH' hget (by simp) hz
  obtain ⟨hE2, hH2⟩ := drop_step hH' (new := fun x => ([] : HpL).length ≤ x) [0]
  have hfun : updF (drops [0]) (updF [(0, some (.seq e ([] ++ es)))] (HpL.get [])) = updF [] (HpL.get []) := by
   funext x
   by_cases hx : x = 0
   · subst hx; simp [updF, drops, HpL.get]
   · simp [updF, drops, HpL.get, hx]
  rw [hfun] at hE2 hH2
  exact ⟨z, θ', _, rfl, hE.trans hE2, hp, hH2⟩
end Go.Am
/- The abstract machine: nil lists handed in, taken as lists that have grown to nothing (of any element). -/
namespace Go.Am
variable {P : Program}
def incN : List (Option (Nat × Nat)) → List SV → HpL → HpL → List SV × HpL × HpL
 | some (e, sz) :: fs, .nils :: as, H, pre =>
  let r := incN fs as (H ++ [(H.length, .seq e [])]) (pre ++ [(H.length, .seq e [])])
  (.qs H.length sz 0 0 :: r.1, r.2)
 | _ :: fs, a :: as, H, pre => let r := incN fs as H pre; (a :: r.1, r.2)
 | [], as, H, pre => (as, H, pre)
 | _, [], H, pre => ([], H, pre)
def inN (fs : List (Option (Nat × Nat))) (s : CSumm) : CSumm := fun args H =>
 let r := incN fs args H []
 addU r.2.2 (s r.1 r.2.1)
theorem incN_ok {H0 : HpL} : ∀ (fs : List (Option (Nat × Nat))) (as : List SV) (H pre : HpL), Canon H → H.get = updF (preU pre) H0.get →
  InOk P as H (incN fs as H pre).1 (incN fs as H pre).2.1 ∧ (incN fs as H pre).2.1.get = updF (preU (incN fs as H pre).2.2) H0.get := by
 intro fs as
 induction as generalizing fs with
 | nil =>
  intro H pre hc he
  have h0 : InOk P [] H [] H := ⟨hc, Nat.le_refl _, rfl, fun x c h => .inl ⟨c, h⟩, fun ω θ w Im us hl hH hf => ⟨hl, hH⟩⟩
  cases fs with
  | nil => exact ⟨h0, he⟩
  | cons f fs =>
   have : incN (f :: fs) [] H pre = ([], H, pre) := by cases f <;> rfl
   rw [this]; exact ⟨h0, he⟩
 | cons a as ih =>
  intro H pre hc he
  have hid : InOk P (a :: as) H (a :: as) H := ⟨hc, Nat.le_refl _, rfl, fun x c h => .inl ⟨c, h⟩, fun ω θ w Im us hl hH hf => ⟨hl, hH⟩⟩
  cases fs with
  | nil => exact ⟨hid, he⟩
  | cons f fs =>
   have keep : InOk P (a :: as) H (a :: (incN fs as H pre).1) (incN fs as H pre).2.1 ∧ (incN fs as H pre).2.1.get = updF (preU (incN fs as H pre).2.2) H0.get :=
    ⟨(ih fs H pre hc he).1.cons (fun _ _ _ _ _ h => h), (ih fs H pre hc he).2⟩
   have nil : ∀ (e sz : Nat), f = some (e, sz) → a = .nils → InOk P (a :: as) H (incN (f :: fs) (a :: as) H pre).1 (incN (f :: fs) (a :: as) H pre).2.1 ∧ (incN (f :: fs) (a :: as) H pre).2.1.get = updF (preU (incN (f :: fs) (a :: as) H pre).2.2) H0.get := by
    rintro e sz rfl rfl
    show InOk P (.nils :: as) H (.qs H.length sz 0 0 :: (incN fs as (H ++ [(H.length, .seq e [])]) (pre ++ [(H.length, .seq e [])])).1) (incN fs as (H ++ [(H.length, .seq e [])]) (pre ++ [(H.length, .seq e [])])).2.1 ∧ (incN fs as (H ++ [(H.length, .seq e [])]) (pre ++ [(H.length, .seq e [])])).2.1.get = updF (preU (incN fs as (H ++ [(H.length, .seq e [])]) (pre ++ [(H.length, .seq e [])])).2.2) H0.get
    have hn := canon_next hc
    have hc' : Canon (H ++ [(H.length, .seq e [])]) := by
     intro i p hp
     rw [List.getElem?_append] at hp
     split at hp
     · exact hc i p hp
     · rename_i hlt
       have : i - H.length = 0 := by
        cases hi : i - H.length with
        | zero => rfl
        | succ j => rw [hi] at hp; simp at hp
       rw [this] at hp; simp at hp; subst hp; simp; omega
    obtain ⟨h1, h2⟩ := ih fs (H ++ [(H.length, .seq e [])]) (pre ++ [(H.length, .seq e [])]) hc' (by
     rw [preU_snoc, ← he]; funext y; exact get_app H hn)
    refine ⟨⟨h1.canon, by have := h1.len; simp at this; omega, by simp [h1.al], fun x c hx => ?_, fun ω θ w Im us hl hH hfr => ?_⟩, h2⟩
    · rcases h1.back x c hx with ⟨c', hx'⟩ | hx'
      · rw [get_app H hn] at hx'
        by_cases hxe : x = H.length
        · exact .inr (by omega)
        · rw [if_neg hxe] at hx'; exact .inl ⟨c', hx'⟩
      · simp at hx'; exact .inr (by omega)
    · obtain ⟨u, us', rfl, h3, h4⟩ := hl.uncons
      obtain ⟨h5, h6⟩ := h1.rel ω θ w Im us' h4 (hH.fresh hn (hfr _ (Nat.le_refl _))) (fun x hx => hfr x (by simp at hx; omega))
      refine ⟨h5.cons ?_, h6⟩
      cases h3; exact .qsnil rfl
   have oth : incN (f :: fs) (a :: as) H pre = (a :: (incN fs as H pre).1, (incN fs as H pre).2) → InOk P (a :: as) H (incN (f :: fs) (a :: as) H pre).1 (incN (f :: fs) (a :: as) H pre).2.1 ∧ (incN (f :: fs) (a :: as) H pre).2.1.get = updF (preU (incN (f :: fs) (a :: as) H pre).2.2) H0.get := by
    intro heq; rw [heq]; exact keep
   cases f with
   | none => exact oth rfl
   | some p =>
    obtain ⟨e, sz⟩ := p
    cases a with
    | nils => exact nil e sz rfl rfl
    | _ => exact oth rfl
theorem loop_inN {e : LEnt} (h : ValidL P e) {fs : List (Option (Nat × Nat))} : ValidL P { e with s := inN fs e.s } := by
 intro args H k c outs ups hr hc ho ha
 obtain ⟨ups2, h1, rfl⟩ := crun_addU _ hr
 obtain ⟨hi, he⟩ := incN_ok (P := P) (H0 := H) fs args H [] hc rfl
 obtain ⟨m, hm⟩ := h _ _ k c outs ups2 h1 hi.canon ho (by rw [hi.al]; exact ha)
 refine ⟨m, fun ω θ Im w a Q hsz hl hH hfr hmk hQ => ?_⟩
 obtain ⟨h2, h3⟩ := hi.rel ω θ w Im _ hl hH hfr
 have hu : updF (preU (incN fs args H []).2.2 ++ ups2) H.get = updF ups2 (incN fs args H []).2.1.get := by rw [updF_append, he]
 have hmk2 : Mk w Im θ (incN fs args H []).2.1.get a.defers := by
  obtain ⟨rs, base, r1, rb, r2, r3⟩ := hmk
  refine ⟨rs, base, r1, rb, r2, fun r hrr => ⟨(r3 r hrr).1, (r3 r hrr).2.1, fun x c N hx ht => ?_⟩⟩
  rcases hi.back x c hx with ⟨c', h4⟩ | h4
  · exact (r3 r hrr).2.2 x c' N h4 ht
  · rw [hfr x h4] at ht; cases ht
 refine hm ω θ Im w a Q hsz h2 h3 (fun x hx => hfr x (Nat.le_trans hi.len hx)) hmk2 ?_
 intro a' w' Im' θ' b1 b2 b3 b4 b5 b6 b7
 exact hQ a' w' Im' θ' b1 (by rw [hu]; exact b2.inc hi hfr) b3 (by rw [hu]; exact b4) b5 (by rw [hu]; exact b6) b7
end Go.Am
/- The abstract machine: a list that is handed in, looked at as one that is known by content, where nothing of it is kept. -/
namespace Go.Am
variable {P : Program}
mutual
def pureV : SV → Bool
 | .junk | .bool _ | .int _ _ | .str _ | .nils | .nilp | .nilm | .nilf | .nili => true
 | .agg cs => pureL cs
 | .tup vs => pureL vs
 | _ => false
def pureL : List SV → Bool
 | [] => true
 | v :: vs => pureV v && pureL vs
end
end Go.Am
/- The abstract machine: a list that is handed in, looked at as one that is known by content, beside others that are. -/
namespace Go.Am
variable {P : Program}
mutual
def slimV : SV → Bool
 | .junk | .bool _ | .int _ _ | .str _ | .nils | .nilp | .nilm | .nilf | .nili | .psl _ _ | .emp => true
 | .agg cs => slimL cs
 | .tup vs => slimL vs
 | _ => false
def slimL : List SV → Bool
 | [] => true
 | v :: vs => slimV v && slimL vs
end
end Go.Am
/- The abstract machine: a list that is handed in, looked at as one that is known by content, ahead of others and behind. -/
namespace Go.Am
variable {P : Program}
end Go.Am
/- The abstract machine: a loop over a map of open content: one round for any entry that is left. -/
namespace Go.Am
variable {P : Program}
section
variable (P : Program) (κ : Nat → Option CSumm) (ι : Nat → Bool) (fuel : Nat)
def roundU (e e' : LEnt) (rest : Code) (o : Oper) (os : List Oper) (y : Nat) (sp : Bool) (args : List SV) (H : HpL) (p : SV × Option Chunk) : CTree :=
 opsQ .fail P κ ι (exec .fail P κ ι fuel) (o :: os) (fun s1 => exec .fail P κ ι fuel rest s1 fun ex s2 => match ex with
  | .normal => loopK .fail e' s2 (finishL e)
  | ex => finishL e ex s2) os ((((loopSt sp e args H).upd [(y, p.2)] (loopSt sp e args H).nx)).put o.dst p.1)
def loopChk (e : LEnt) (args : List SV) (H : HpL) : Bool :=
 canonB H 0 && closedB H.length H && Nat.beq args.length e.ins.length && Nat.blt e.size 16000 && Nat.blt H.length 1000000 && lowB e.size e.ins && lowB e.size e.keep && lowB e.size e.outs && noOpqL args && noOpqH H && lowB H.length (namesL args)
end
theorem roundsIn_up {F : Fence} {n : Nat} {c : Code} {Q : Exit → Act → World → Prop} : ∀ (m k : Nat) (a : Act) (w : World), Code.roundsIn F n P c Q m a w → Code.roundsIn F n P c Q (m + k) a w := by
 intro m
 induction m with
 | zero => intro k a w h; exact h.elim
 | succ m ih =>
  intro k a w h
  rw [show m + 1 + k = (m + k) + 1 by omega, roundsIn_succ]
  rw [roundsIn_succ] at h
  refine Code.wpIn_mono (fun e a' w' hq => ?_) h
  cases e <;> first | exact ih k a' w' hq | exact hq
def PostL (P : Program) (e : LEnt) (H : HpL) (ω : Nat → Value) (θ : Th) (Im : Nat → Prop) (w : World) (a : Act) (Q : Exit → Act → World → Prop) (v : SV) (ups : List (Nat × Option Chunk)) : Prop :=
 ∀ (k : IntKind) (c : Int) (outs : List SV), v = .tup (.int k c :: outs) → ∀ a' w' Im' θ', a'.tmps.size = e.size → Ext (fun x => H.length ≤ x) H.get w Im θ (updF ups H.get) w' Im' θ' → LRel P ω w' Im' θ' outs (e.outs.map fun t => a'.tmps.getD t undef) → HRel P ω w' Im' θ' (updF ups H.get) →
  (∀ t ∈ e.keep, a'.tmps.getD t undef = a.tmps.getD t undef) → Mk w' Im' θ' (updF ups H.get) a'.defers → New a a' w → Q (exitOf (exOf c)) a' w'
theorem chain_post {e : LEnt} {H : HpL} {ω : Nat → Value} {θ : Th} {Im : Nat → Prop} {w : World} {a : Act} {Q : Exit → Act → World → Prop} (hfr : ∀ x, H.length ≤ x → θ x = none) {v v' : SV} {ups ups' : List (Nat × Option Chunk)} (hch : ChainL P H v ups v' ups') : PostL P e H ω θ Im w a Q v' ups' → PostL P e H ω θ Im w a Q v ups := by
 induction hch with
 | same hs =>
  intro h k c outs hv a' w' Im' θ' b1 b2 b3 b4 b5 b6 b7
  have he := funext hs
  exact h k c outs hv a' w' Im' θ' b1 (by rw [he]; exact b2) b3 (by rw [he]; exact b4) b5 (by rw [he]; exact b6) b7
 | ren hs =>
  intro h kk c outs hv a' w' Im' θ' b1 b2 b3 b4 b5 b6 b7
  obtain ⟨k, nw, hnw, hv0, hc0, hvr, hu⟩ := hs
  subst hv
  obtain ⟨θ2, h1, h2, h3, h4⟩ := ren_post hfr hnw hc0 hu b2 b4
  refine h kk c (renL (sw k nw) outs) (by rw [hvr]; simp [renS, renL]) a' w' Im' θ2 b1 h1 ⟨by rw [renL_eq]; simpa using b3.len, fun i v u hv hu' => ?_⟩ h2 b5 ?_ b7
  · rw [renL_eq, List.getElem?_map, Option.map_eq_some_iff] at hv
    obtain ⟨x, hx, rfl⟩ := hv
    refine h3 x u (b3.at_ i x u hx hu') (fun hn => hv0 ?_)
    show nw ∈ namesL (.int kk c :: outs)
    exact List.mem_append.2 (.inr (namesS_mem (List.mem_of_getElem? hx) nw hn))
  · obtain ⟨rs, base, r1, rb, r2, r3⟩ := b6
    refine ⟨rs, base, r1, rb, r2, fun r hrr => ⟨(r3 r hrr).1, (r3 r hrr).2.1, fun y c' N hy ht => ?_⟩⟩
    obtain ⟨x, c, hx, hx2⟩ := h4 y c' hy
    exact (r3 r hrr).2.2 x c N hx (hx2 ▸ ht)
 | told hs =>
  intro h kk c outs hv a' w' Im' θ' b1 b2 b3 b4 b5 b6 b7
  obtain ⟨c0, vs, vs', rfl, rfl, hl, hu⟩ := hs
  simp only [SV.tup.injEq, List.cons.injEq, SV.int.injEq] at hv
  obtain ⟨⟨rfl, rfl⟩, rfl⟩ := hv
  obtain ⟨h1, h2⟩ := told_post hu b2 b4
  refine h .i64 _ vs' rfl a' w' Im' θ' b1 h1 (hl.rel b3) h2 b5 ?_ b7
  obtain ⟨rs', base, r1, rb, r2, r3⟩ := b6
  refine ⟨rs', base, r1, rb, r2, fun r hrr => ⟨(r3 r hrr).1, (r3 r hrr).2.1, fun x c' N hx => ?_⟩⟩
  obtain ⟨c, g1, _⟩ := hu x c' hx
  exact (r3 r hrr).2.2 x c N g1
 | trans _ _ ih1 ih2 => exact fun h => ih1 (ih2 h)
theorem finishL_form {e : LEnt} {ex : Ex} {s : St} {v : SV} {ups : List (Nat × Option Chunk)} (h : crun (finishL e ex s) = some (v, ups)) : ∃ outs, v = .tup (.int .i64 (codeEx ex) :: outs) := by
 unfold finishL at h
 cases hb : keepOk s e.keep && noOpqL (e.outs.map s.tmp) with
 | false => rw [hb] at h; simp [crun] at h
 | true =>
  rw [hb] at h
  simp only [cond_true] at h
  unfold finishV at h
  cases hre : reachNew s.hp s.m 2000 (namesS (.tup (.int .i64 (codeEx ex) :: e.outs.map s.tmp)) ++ dirtyNames s.hp s.dirty) [] with
  | none => rw [hre] at h; simp [crun] at h
  | some ns =>
   rw [hre] at h
   simp only [] at h
   cases hu : noOpqU (outOld s.hp (outName ns s.m) s.dirty ++ outNew s.hp (outName ns s.m) ns) with
   | false => rw [hu] at h; simp [crun] at h
   | true =>
    rw [hu] at h
    simp only [cond_true, crun, renS, renL, Option.some.injEq, Prod.mk.injEq] at h
    exact ⟨_, h.1.symm⟩
theorem bound_all {α : Type} {Φ : α → Nat → Prop} (hm : ∀ p m k, Φ p m → Φ p (m + k)) : ∀ (l : List α), (∀ p ∈ l, ∃ m, Φ p m) → ∃ M, ∀ p ∈ l, Φ p M
 | [], _ => ⟨0, fun p hp => by cases hp⟩
 | p :: l, h => by
  obtain ⟨m, h1⟩ := h p (by simp)
  obtain ⟨M, h2⟩ := bound_all hm l (fun q hq => h q (by simp [hq]))
  refine ⟨m + M, fun q hq => ?_⟩
  rcases List.mem_cons.1 hq with rfl | hq
  · exact hm _ _ _ h1
  · rw [Nat.add_comm]; exact hm _ _ _ (h2 q hq)
theorem mapLoopU_valid {κ : Nat → Option CSumm} {ι : Nat → Bool} {fuel : Nat} {sp : Bool} {e : LEnt} {μ : List SV → HpL → Nat} {rid : Nat} {o : Oper} {os : List Oper} {rest : Code} {it : Operand} (hκ : KOk P κ) (hmix : P.follows .mixedOrders = true)
  (hcode : e.code = .seq (.region rid (o :: os).toArray false) rest) (ho : o.op = .next it false) (hg : o.guard = none)
  (hstep : ∀ n args H v' ups', Nat.blt (μ args H) (n + 1) = true → crun (e.s args H) = some (v', ups') → loopChk e args H = true ∧ dstOk (loopSt sp e args H) o.dst = true ∧ ∃ y l, nextOpts (loopSt sp e args H) it = some (y, l) ∧
   ∀ p ∈ l, ∃ v ups, crun (roundU P κ ι fuel e { e with s := boundT μ e.s n } rest o os y sp args H p) = some (v, ups) ∧ ChainL P H v ups v' ups') : ValidL P e := by
 have key : ∀ n, ValidL P { e with s := boundT μ e.s n } := by
  intro n
  induction n with
  | zero =>
   intro args H k c outs ups hrun
   obtain ⟨h1, _⟩ := boundT_at hrun
   rw [Nat.blt_eq] at h1; omega
  | succ n ih =>
   intro args H k c0 outs ups hrun hcanon hol hal
   obtain ⟨hb, hr⟩ := boundT_at hrun
   obtain ⟨hc, hd, y, l, hopt, hall⟩ := hstep n args H _ ups hb hr
   unfold loopChk at hc
   simp only [Bool.and_eq_true] at hc
   obtain ⟨⟨⟨⟨⟨⟨⟨⟨⟨⟨c1, c2⟩, c3⟩, c4⟩, c5⟩, c6⟩, c7⟩, c8⟩, c9⟩, c10⟩, c11⟩ := hc
   have hsz : e.size < 16000 := by rwa [Nat.blt_eq] at c4
   have hHl : H.length < 1000000 := by rwa [Nat.blt_eq] at c5
   have hins := lowB_spec _ c6
   have hkeep := lowB_spec _ c7
   have houts := lowB_spec _ c8
   have hhp : (loopSt sp e args H).hp.get = H.get := heapTr_init c1 (by omega)
   have htm : ∀ j, ((loopSt sp e args H).tmp j = .junk) ∨ (j ∈ e.keep ∧ (loopSt sp e args H).tmp j = .opq j) ∨ ∃ i : Nat, e.ins[i]? = some j ∧ ∃ v, args[i]? = some v ∧ (loopSt sp e args H).tmp j = v := by
    intro j
    have hk16 : ∀ x ∈ e.keep, x < 16000 := fun x hx => by have := hkeep x hx; omega
    have hi16 : ∀ x ∈ e.ins, x < 16000 := fun x hx => by have := hins x hx; omega
    have he : (loopSt sp e args H).tmp j = match (setPs e.ins args (keepI e.keep .lf)).get j with
     | some v => v
     | none => .junk := rfl
    rcases setPs_at e.ins args (keepI e.keep .lf) j hi16 with ⟨g1, -⟩ | ⟨i, g1, v, g2, g3⟩
    · rw [he, g1, keepI_get _ _ _ hk16]
      by_cases hj : j ∈ e.keep
      · simp [hj]
      · simp [hj, Tr.get_lf]
    · exact .inr (.inr ⟨i, g1, v, g2, by rw [he, g3]⟩)
   have hs0 : StOk (loopSt sp e args H) := by
    refine ⟨hsz, hHl, fun t ht => ?_, ?_, Nat.le_refl _⟩
    · have ht' : e.size ≤ t := ht
      rcases htm t with g | ⟨g, _⟩ | ⟨i, g, _⟩
      · exact g
      · have := hkeep t g; omega
      · have := hins t (List.mem_of_getElem? g); omega
    · intro x c hx
      rw [hhp] at hx
      exact canon_lt c1 hx
   have hdN := dstOk_N hd
   obtain ⟨hyn, hwp⟩ := next_wp (P := P) ho hopt hs0 hdN
   have hsn := hs0.nx
   have hrec := exec_ok (P := P) (den := crun) (fl := .fail) rfl hκ hmix (ι := ι) fuel
   -- each option
   have each : ∀ p ∈ l, ∃ m, ∀ m', m ≤ m' → ∀ (ω : Nat → Value) (θ : Th) (Im : Nat → Prop) (w : World) (a : Act) (Q : Exit → Act → World → Prop), (∀ x, H.length ≤ x → θ x = none) → Sim P (fun t => a.tmps.getD t undef) none (loopSt sp e args H) a w Im θ →
     PostL P e H ω θ Im w a Q (.tup (.int k c0 :: outs)) ups →
     After P (fun t => a.tmps.getD t undef) none (loopSt sp e args H) (((loopSt sp e args H).upd [(y, p.2)] (loopSt sp e args H).nx).put o.dst p.1) a w Im θ
      (wpOpsIn (FR none) 0 P (o :: os).toArray (Exit.then (Code.wpIn (FR none) 0 P rest (Exit.then (Code.roundsIn (FR none) 0 P e.code Q m') Q)) (Exit.then (Code.roundsIn (FR none) 0 P e.code Q m') Q)) (List.range' 1 os.length)) := by
    intro p hp
    obtain ⟨v, u, hrn, hch⟩ := hall p hp
    unfold roundU at hrn
    have hk : ∀ q ∈ [(y, p.2)], q.1 < (loopSt sp e args H).nx := fun q hq => by simp only [List.mem_singleton] at hq; subst hq; exact hyn
    have hk2 : ∀ q ∈ [(y, p.2)], q.1 < 1000000 := fun q hq => by have := hk q hq; omega
    have ou := upd_ok hs0 (Nat.le_refl _) hs0.nx hk
    have hs1 := put_ok ou (d := o.dst) hdN p.1
    have hl1 : Later (loopSt sp e args H) (((loopSt sp e args H).upd [(y, p.2)] (loopSt sp e args H).nx).put o.dst p.1) := (upd_later (Nat.le_refl _) hk2).trans (put_later _ _ _)
    obtain ⟨s2, hs2, hl2, z2, r2, h2, hw2⟩ := opsQ_run (P := P) (den := crun) (fl := .fail) rfl hrec hκ os 1 _ (by rfl) hs1 hrn
    obtain ⟨e3, s3, hs3, hc3, h3⟩ := hrec rest s2 _ _ hs2 h2
    have tail : ∃ ex sF m, StOk sF ∧ Later s3 sF ∧ sF.size = s3.size ∧ sF.rd = s3.rd ∧ crun (finishL e ex sF) = some (v, u) ∧ ∀ (ω : Nat → Value) (Q : Exit → Act → World → Prop) (a : Act) (w : World) (Im : Nat → Prop) (θ : Th), Sim P ω none s3 a w Im θ → After P ω none s3 sF a w Im θ (Q (exitOf ex)) →
      ∀ m', m ≤ m' → Exit.then (Code.roundsIn (FR none) 0 P e.code Q m') Q (exitOf e3) a w := by
     cases e3 with
     | normal =>
      simp only [] at h3
      obtain ⟨ex2, s4, hs4, hc4, hk4⟩ := loopK_run (den := crun) rfl ih hs3 h3
      obtain ⟨m, hm⟩ := hc4.wps
      exact ⟨ex2, s4, m, hs4, hc4.later, hc4.size, hc4.rd, hk4, fun ω Q a w Im θ sim hA m' hm' => by
       have := roundsIn_up m (m' - m) a w (hm ω none Q a w Im θ sim hA)
       rw [show m + (m' - m) = m' by omega] at this
       exact this⟩
     | exit id => exact ⟨.exit id, s3, 0, hs3, Later.refl _, rfl, rfl, h3, fun ω Q a w Im θ sim hA _ _ => hA a w Im θ sim (Ext.refl _) (New.refl rfl)⟩
     | ret => exact ⟨.ret, s3, 0, hs3, Later.refl _, rfl, rfl, h3, fun ω Q a w Im θ sim hA _ _ => hA a w Im θ sim (Ext.refl _) (New.refl rfl)⟩
    obtain ⟨ex, sF, m, hsF, hlF, zF, rF, hfin, hwF⟩ := tail
    refine ⟨m, fun m' hm' ω θ Im w a Q hfr sim0 hpost => ?_⟩
    have hpost' := chain_post hfr hch hpost
    obtain ⟨outs', rfl⟩ := finishL_form hfin
    obtain ⟨f1, f2, f3, _, ns, hre, rfl, rfl⟩ := finishL_inv hfin
    have hl03 : Later (loopSt sp e args H) s3 := (hl1.trans hl2).trans hc3.later
    have hl0F : Later (loopSt sp e args H) sF := hl03.trans hlF
    have hmF : sF.m = H.length := hl0F.m
    have hsF2 : sF.size = e.size := by rw [zF, hc3.size, z2, put_sz]; rfl
    intro a1 w1 Im1 θ1 sim1 hE1 hN1
    refine hw2 _ none _ a1 w1 Im1 θ1 sim1 (fun a2 w2 Im2 θ2 sim2 hE2 hN2 => ?_)
    have hE12 : Ext (fun x => (loopSt sp e args H).nx ≤ x) (loopSt sp e args H).hp.get w Im θ s2.hp.get w2 Im2 θ2 := hE1.trans (hE2.mono (fun x hx => Nat.le_trans hl1.nx hx))
    have hN12 : New a a2 w := hN1.trans hN2 hE1.size
    have hl12 := hl1.trans hl2
    show rest.wpIn (FR none) 0 P _ a2 w2
    refine hc3.wp none _ a2 w2 Im2 θ2 sim2 (fun a3 w3 Im3 θ3 sim3 hE3 hN3 => ?_)
    have hE13 : Ext (fun x => (loopSt sp e args H).nx ≤ x) (loopSt sp e args H).hp.get w Im θ s3.hp.get w3 Im3 θ3 := hE12.trans (hE3.mono (fun x hx => Nat.le_trans hl12.nx hx))
    have hN13 : New a a3 w := hN12.trans hN3 hE12.size
    refine hwF _ Q a3 w3 Im3 θ3 sim3 (fun a' w' Im' θ' sim' hE' hN' => ?_) m' hm'
    have hE : Ext (fun x => (loopSt sp e args H).nx ≤ x) (loopSt sp e args H).hp.get w Im θ sF.hp.get w' Im' θ' := hE13.trans (hE'.mono (fun x hx => Nat.le_trans hl03.nx hx))
    have hN : New a a' w := hN13.trans hN' hE13.size
    have hsame : ∀ x, x < H.length → sF.hp.get x = H.get x ∨ x ∈ sF.dirty := by
     intro x hx
     have := hl0F.same x hx
     rwa [hhp] at this
    have hdl : ∀ x ∈ sF.dirty, x < H.length := by
     intro x hx
     rcases hl0F.low x hx with h | h
     · cases h
     · exact h
    have hext : Ext (fun x => H.length ≤ x) H.get w Im θ sF.hp.get w' Im' θ' := by
     rw [← hhp]; exact hE
    have hz : VRel P (fun t => a.tmps.getD t undef) w' Im' θ' (.tup (.int .i64 (codeEx ex) :: e.outs.map sF.tmp)) (.tuple (.int .i64 (codeEx ex) :: (e.outs.map fun t => a'.tmps.getD t undef)).toArray) := by
     have hl := lrel_map (P := P) (ω := fun t => a.tmps.getD t undef) (w := w') (Im := Im') (θ := θ') (f := sF.tmp) (g := fun t => a'.tmps.getD t undef) (l := e.outs) (fun t ht => sim'.sf.tm t (by rw [hsF2]; exact houts t ht))
     refine .tup (by simp) (fun i v u hv hu => ?_)
     cases i with
     | zero => simp at hv hu; subst hv; subst hu; exact .int
     | succ i => exact hl.at_ i v u (by simpa using hv) (by simpa using hu)
    obtain ⟨θ3, g1, g2, g3, g4⟩ := finish_gen c1 c2 hfr hmF hsame hdl hre sim'.sf.hp hext hz
    rw [← hmF] at g1 g2 g3 g4
    have g2' : LRel P (fun t => a.tmps.getD t undef) w' Im' θ3 (renL (outName ns sF.m) (e.outs.map sF.tmp)) (e.outs.map fun t => a'.tmps.getD t undef) := by
     simp only [renS, renL] at g2
     cases g2 with
     | tup p1 p2 => exact ⟨by rw [renL_eq]; simp, fun i v u hv hu => p2 (i + 1) v u (by simpa using hv) (by simpa using hu)⟩
    have hpost2 := hpost'
    unfold PostL at hpost2
    rw [← hmF] at hpost2
    have := hpost2 .i64 _ _ rfl a' w' Im' θ3 (by rw [sim'.sf.size]; exact hsF2) g1 (g2'.om (by rw [noOpqL_ren]; exact f2)) (g3.om (noOpqU_at f3 (fun x c hx => noOpqH_at c10 hx))) (fun t ht => ?_) ?_ hN
    · rw [exOf_code] at this; exact this
    · have h1 := sim'.sf.tm t (by rw [hsF2]; exact hkeep t ht)
      rw [f1 t ht] at h1
      generalize a'.tmps.getD t undef = z at h1
      cases h1
      rfl
    · obtain ⟨rs, base, m1, mb, m2, m3⟩ := sim'.sf.df
      refine ⟨rs, base, m1, mb, m2, fun r hr => ⟨(m3 r hr).1, (m3 r hr).2.1, fun y c N hy hb => ?_⟩⟩
      obtain ⟨x, c0, hx, hxb⟩ := g4 y c r N hy hb
      exact (m3 r hr).2.2 x c0 N hx hxb
   obtain ⟨M, hM⟩ := bound_all (fun p m k' h m' hm' => h m' (by omega)) l each
   refine ⟨M + 1, fun ω θ Im w a Q hsize hargs hH hfr hMk hpost => ?_⟩
   have sim0 : Sim P (fun t => a.tmps.getD t undef) none (loopSt sp e args H) a w Im θ := by
    refine ⟨hs0, ⟨hsize, fun t ht => ?_, hs0.out, by rw [hhp]; exact hMk, by rw [hhp]; exact hH.om (fun x c hx => noOpqH_at c10 hx)⟩, ?_, .inl ⟨rfl, rfl⟩⟩
    · rcases htm t with g | ⟨g, g2⟩ | ⟨i, g, v, g2, g3⟩
      · rw [g]; exact .junk
      · rw [g2]; exact .opq
      · rw [g3]
        exact (hargs.at_ i v _ g2 (by simp [g])).om (noOpqL_at c9 g2)
    · intro x hx
      have hx' : H.length ≤ x := hx
      refine ⟨hfr x hx', ?_⟩
      rw [hhp]
      cases hg : H.get x with
      | none => rfl
      | some c => have := canon_lt c1 hg; omega
   show Code.roundsIn (FR none) 0 P e.code Q (M + 1) a w
   rw [roundsIn_succ]
   conv => arg 4; rw [hcode]
   refine wpIn_seq (wpIn_region ?_)
   have hsize2 : (o :: os).toArray.size = os.length + 1 := by simp
   rw [hsize2, List.range_eq_range', List.range'_succ]
   simp only [wpOpsIn]
   have hget : (o :: os).toArray[0]? = some o := rfl
   rw [hget]
   simp only []
   have hwant : Region.wanted o (yielded (o :: os).toArray a.tmps) = true := by
    unfold Region.wanted
    simp [hg]
   rw [if_pos hwant]
   refine hwp _ none _ _ a w Im θ sim0 (fun p hp => ?_)
   exact hM p hp M (Nat.le_refl _) ω θ Im w a Q hfr sim0 (fun k' c' outs' hv => by
    simp only [SV.tup.injEq, List.cons.injEq, SV.int.injEq] at hv
    obtain ⟨⟨rfl, rfl⟩, rfl⟩ := hv
    exact hpost)
 intro args H k c0 outs ups hrun
 exact key (μ args H + 1) args H k c0 outs ups (by
  show crun (boundT μ e.s _ args H) = _
  unfold boundT
  rw [show Nat.blt (μ args H) (μ args H + 1) = true by rw [Nat.blt_eq]; omega]
  exact hrun)
end Go.Am
