/- The abstract machine: loops, round by round. -/
import Derived.Test.YtecdpdjcojgajaaGreatMachine7
import Derived.Test.YtecdpdjcojgajaaGreatMachine4
set_option linter.unusedVariables false
set_option linter.unusedSimpArgs false
namespace Go.Am
variable {P : Program} {ω : Nat → Value}
def RcrOkL {R D : Type} (P : Program) (T : LTab) (den : R → Option D) (rec : Rcr R) : Prop :=
 ∀ (c : Code) (s : St) (k : Ex → St → R) (d : D), StOk s → den (rec c s k) = some d → ∃ e s2, StOk s2 ∧ Comes P (fillC T c) s e s2 ∧ den (k e s2) = some d
def LOk (P : Program) (T : LTab) : Prop := ∀ w e, T w = some e → ValidL P e
section
variable {R D : Type} {fl : R} {den : R → Option D} (hfl : den fl = none) {T : LTab} {recL rec : Rcr R} (hrecL : RcrOkL P T den recL) (hrec : RcrOk P den rec) {κ : Nat → Option CSumm} {ι : Nat → Bool} (hκ : KOk P κ)
include hfl hrecL hrec hκ
theorem execCL_ok (hmix : P.follows .mixedOrders = true) (hT : LOk P T) : RcrOkL P T den (execCL fl P κ ι T recL rec) := by
 intro c
 induction c with
 | skip => intro s k d hs h; exact ⟨.normal, s, hs, comes_self (fun ρ Q a w hq => wpIn_skip hq), h⟩
 | region id ops draw =>
  intro s k d hs h
  obtain ⟨s', hs', hc, h1⟩ := region_run hfl hrec hκ (id := id) hmix hs h
  exact ⟨.normal, s', hs', hc, h1⟩
 | seq x y ihx ihy =>
  intro s k d hs h
  simp only [execCL] at h
  obtain ⟨e, s1, hs1, hc1, h1⟩ := ihx s _ d hs h
  cases e with
  | normal =>
   simp only [] at h1
   obtain ⟨e2, s2, hs2, hc2, h2⟩ := ihy s1 k d hs1 h1
   refine ⟨e2, s2, hs2, ⟨hc1.later.trans hc2.later, by rw [hc2.size, hc1.size], by rw [hc2.rd, hc1.rd], 0, fun ω ρ Q a w Im θ sim hA => ?_⟩, h2⟩
   refine wpIn_seq (hc1.wp ρ _ a w Im θ sim (fun a' w' Im' θ' sim' hE hN => ?_))
   exact hc2.wp ρ Q a' w' Im' θ' sim' (After.trans hc1.later hE hN hA)
  | exit id =>
   exact ⟨.exit id, s1, hs1, ⟨hc1.later, hc1.size, hc1.rd, 0, fun ω ρ Q a w Im θ sim hA => wpIn_seq (hc1.wp ρ _ a w Im θ sim (fun a' w' Im' θ' sim' hE hN => hA a' w' Im' θ' sim' hE hN))⟩, h1⟩
  | ret =>
   exact ⟨.ret, s1, hs1, ⟨hc1.later, hc1.size, hc1.rd, 0, fun ω ρ Q a w Im θ sim hA => wpIn_seq (hc1.wp ρ _ a w Im θ sim (fun a' w' Im' θ' sim' hE hN => hA a' w' Im' θ' sim' hE hN))⟩, h1⟩
 | cond c x y ihx ihy =>
  intro s k d hs h
  simp only [execCL] at h
  split at h
  · rename_i b hb
    have hev : ∀ {ω : Nat → Value} {ρ : Option Nat} {a : Act} {w : World} {Im : Nat → Prop} {θ : Th}, Sim P ω ρ s a w Im θ → a.eval c = .bool b := by
     intro ω ρ a w Im θ sim
     have := sim.sf.eval c
     rw [← evT_ev, hb] at this
     generalize a.eval c = u at this
     cases this
     rfl
    cases b with
    | true =>
     obtain ⟨e, s1, hs1, hc1, h1⟩ := ihx s k d hs h
     exact ⟨e, s1, hs1, ⟨hc1.later, hc1.size, hc1.rd, 0, fun ω ρ Q a w Im θ sim hA => wpIn_cond_true (hev sim) (hc1.wp ρ Q a w Im θ sim hA)⟩, h1⟩
    | false =>
     obtain ⟨e, s1, hs1, hc1, h1⟩ := ihy s k d hs h
     exact ⟨e, s1, hs1, ⟨hc1.later, hc1.size, hc1.rd, 0, fun ω ρ Q a w Im θ sim hA => wpIn_cond_false (hev sim) (hc1.wp ρ Q a w Im θ sim hA)⟩, h1⟩
  · exact (fl_no hfl h).elim
 | block id c ih =>
  intro s k d hs h
  simp only [execCL] at h
  obtain ⟨e, s1, hs1, hc1, h1⟩ := ih s _ d hs h
  cases e with
  | normal => exact ⟨.normal, s1, hs1, ⟨hc1.later, hc1.size, hc1.rd, 0, fun ω ρ Q a w Im θ sim hA => wpIn_block (hc1.wp ρ _ a w Im θ sim hA)⟩, h1⟩
  | ret => exact ⟨.ret, s1, hs1, ⟨hc1.later, hc1.size, hc1.rd, 0, fun ω ρ Q a w Im θ sim hA => wpIn_block (hc1.wp ρ _ a w Im θ sim hA)⟩, h1⟩
  | exit j =>
   simp only [] at h1
   cases hj : Nat.beq j id with
   | true =>
    rw [hj] at h1
    have hji : j = id := Nat.eq_of_beq_eq_true hj
    subst hji
    refine ⟨.normal, s1, hs1, ⟨hc1.later, hc1.size, hc1.rd, 0, fun ω ρ Q a w Im θ sim hA => wpIn_block (hc1.wp ρ _ a w Im θ sim (fun a' w' Im' θ' sim' hE hN => ?_))⟩, h1⟩
    simp only [exitOf, Exit.inBlock, if_true]
    exact hA a' w' Im' θ' sim' hE hN
   | false =>
    rw [hj] at h1
    have hji : ¬ j = id := fun e => by rw [nb_t e] at hj; cases hj
    refine ⟨.exit j, s1, hs1, ⟨hc1.later, hc1.size, hc1.rd, 0, fun ω ρ Q a w Im θ sim hA => wpIn_block (hc1.wp ρ _ a w Im θ sim (fun a' w' Im' θ' sim' hE hN => ?_))⟩, h1⟩
    simp only [exitOf, Exit.inBlock, if_neg hji]
    exact hA a' w' Im' θ' sim' hE hN
 | loop c ih =>
  intro s k d hs h
  simp only [execCL] at h
  obtain ⟨e, s1, hs1, hc1, h1⟩ := ih s _ d hs h
  cases e with
  | normal =>
   simp only [] at h1
   obtain ⟨e2, s2, hs2, hc2, h2⟩ := hrecL (.loop c) s1 k d hs1 h1
   obtain ⟨m, hm⟩ := hc2.wps
   refine ⟨e2, s2, hs2, ⟨hc1.later.trans hc2.later, by rw [hc2.size, hc1.size], by rw [hc2.rd, hc1.rd], m + 1, fun ω ρ Q a w Im θ sim hA => ?_⟩, h2⟩
   show Code.roundsIn (FR ρ) 0 P (fillC T c) Q (m + 1) a w
   rw [roundsIn_succ]
   refine hc1.wp ρ _ a w Im θ sim (fun a' w' Im' θ' sim' hE hN => ?_)
   exact hm ω ρ Q a' w' Im' θ' sim' (After.trans hc1.later hE hN hA)
  | exit id =>
   refine ⟨.exit id, s1, hs1, ⟨hc1.later, hc1.size, hc1.rd, 1, fun ω ρ Q a w Im θ sim hA => ?_⟩, h1⟩
   show Code.roundsIn (FR ρ) 0 P (fillC T c) Q 1 a w
   rw [roundsIn_succ]
   exact hc1.wp ρ _ a w Im θ sim (fun a' w' Im' θ' sim' hE hN => hA a' w' Im' θ' sim' hE hN)
  | ret =>
   refine ⟨.ret, s1, hs1, ⟨hc1.later, hc1.size, hc1.rd, 1, fun ω ρ Q a w Im θ sim hA => ?_⟩, h1⟩
   show Code.roundsIn (FR ρ) 0 P (fillC T c) Q 1 a w
   rw [roundsIn_succ]
   exact hc1.wp ρ _ a w Im θ sim (fun a' w' Im' θ' sim' hE hN => hA a' w' Im' θ' sim' hE hN)
 | exit id => intro s k d hs h; exact ⟨.exit id, s, hs, comes_self (fun ρ Q a w hq => wpIn_exit hq), h⟩
 | label l => intro s k d hs h; exact ⟨.normal, s, hs, comes_self (fun ρ Q a w hq => wpIn_label hq), h⟩
 | ret => intro s k d hs h; exact ⟨.ret, s, hs, comes_self (fun ρ Q a w hq => wpIn_ret hq), h⟩
 | rangeFunc f ps x y _ _ =>
  intro s k d hs h
  exact execC_ok hfl hrec hκ hmix _ s k d hs h
 | scope c ih =>
  intro s k d hs h
  simp only [execCL] at h
  obtain ⟨e, s1, hs1, hc1, h1⟩ := ih s k d hs h
  exact ⟨e, s1, hs1, ⟨hc1.later, hc1.size, hc1.rd, 0, fun ω ρ Q a w Im θ sim hA => wpIn_scope_straight (hc1.wp ρ _ a w Im θ sim (fun a' w' Im' θ' sim' hE hN => by
   cases e <;> exact hA a' w' Im' θ' sim' hE hN))⟩, h1⟩
 | goto l => intro s k d hs h; exact (fl_no hfl h).elim
 | refuse w =>
  intro s k d hs h
  simp only [execCL] at h
  cases hw : T w with
  | none => rw [hw] at h; exact (fl_no hfl h).elim
  | some e =>
   rw [hw] at h
   have hf : fillC T (.refuse w) = .loop e.code := by simp only [fillC, hw]
   rw [hf]
   exact loopK_run hfl (hT w e hw) hs h
end
theorem execL_ok {R D : Type} {fl : R} {den : R → Option D} (hfl : den fl = none) {T : LTab} {κ : Nat → Option CSumm} {ι : Nat → Bool} (hκ : KOk P κ) (hmix : P.follows .mixedOrders = true) (hT : LOk P T) : ∀ n, RcrOkL P T den (execL fl P κ ι T n)
 | 0 => fun c s k d hs h => (fl_no hfl h).elim
 | n + 1 => execCL_ok hfl (execL_ok hfl hκ hmix hT n) (exec_ok hfl hκ hmix n) hκ hmix hT
theorem exOf_code (e : Ex) : exOf (codeEx e) = e := by cases e <;> rfl
mutual
theorem noOpq_ren (f : Nat → Nat) : ∀ (v : SV), noOpq (renS f v) = noOpq v
 | .fn g a b => by simp only [renS, noOpq, noOpqL_ren f a, noOpqL_ren f b]
 | .iface t v => by simp only [renS, noOpq, noOpq_ren f v]
 | .agg cs => by simp only [renS, noOpq, noOpqL_ren f cs]
 | .tup vs => by simp only [renS, noOpq, noOpqL_ren f vs]
 | .junk | .pnn _ _ | .opq _ | .bool _ | .int _ _ | .str _ | .ptr _ _ | .nilp | .pel _ _ | .sl _ _ _ _ | .nils | .psl _ _ | .emp | .qs _ _ _ _ | .qp _ _ _ _ | .qo _ _ _ | .qop _ _ _ _ | .mp _ | .nilm | .yl _ | .nilf | .nili | .gp _ _ => rfl
theorem noOpqL_ren (f : Nat → Nat) : ∀ (vs : List SV), noOpqL (renL f vs) = noOpqL vs
 | [] => rfl
 | v :: vs => by simp only [renL, noOpqL, noOpq_ren f v, noOpqL_ren f vs]
end
theorem LRel.om {ω' : Nat → Value} {w : World} {Im : Nat → Prop} {θ : Th} {vs : List SV} {us : List Value} (h : LRel P ω w Im θ vs us) (hn : noOpqL vs = true) : LRel P ω' w Im θ vs us :=
 ⟨h.len, fun i v u hv hu => (h.at_ i v u hv hu).om (noOpqL_at hn hv)⟩
theorem noOpq_keysB (kd : IntKind) : ∀ kvs : List (Int × Bool), noOpqL (keysB kd kvs) = true
 | [] => rfl
 | _ :: l => noOpq_keysB kd l
theorem noOpq_valsB : ∀ kvs : List (Int × Bool), noOpqL (valsB kvs) = true
 | [] => rfl
 | _ :: l => noOpq_valsB l
theorem CRel.om {ω' : Nat → Value} {w : World} {Im : Nat → Prop} {θ : Th} {x : Nat} {c : Chunk} (h : CRel P ω w Im θ x c) (hn : noOpqC c = true) : CRel P ω' w Im θ x c := by
 cases c with
 | cells T vs =>
  obtain ⟨b, cs, fr, h1, h2, h3, h4⟩ := h
  exact ⟨b, cs, fr, h1, h2, h3, h4.om hn⟩
 | seq e es => exact h
 | loopr st vs ps asg bdy =>
  obtain ⟨b, N, lp, h1, h2, h3, h4, h5, h6, h7⟩ := h
  exact ⟨b, N, lp, h1, h2, h3, h4, h5, h6, h7.om hn⟩
 | mpc ks vs =>
  obtain ⟨b, N, es, cl, h1, h2, h3, h4, h5⟩ := h
  simp only [noOpqC, Bool.and_eq_true] at hn
  exact ⟨b, N, es, cl, h1, h2, h3.om hn.1, h4.om hn.2, h5⟩
 | mpb kd kvs =>
  obtain ⟨b, N, es, cl, h1, h2, h3, h4, h5⟩ := h
  exact ⟨b, N, es, cl, h1, h2, h3.om (noOpq_keysB kd kvs), h4.om (noOpq_valsB kvs), h5⟩
 | mpn bs cl ks vs =>
  obtain ⟨b, N, es, h1, h2, h3, h4, h5⟩ := h
  simp only [noOpqC, Bool.and_eq_true] at hn
  exact ⟨b, N, es, h1, h2, h3.om hn.1, h4.om hn.2, h5⟩
 | mit z since seen last => exact h
 | sqo e es => exact h
 | sqp e es =>
  obtain ⟨b, N, cs, fr, h1, h2, h3, h4, h5, h6⟩ := h
  exact ⟨b, N, cs, fr, h1, h2, h3, h4, h5, h6.om hn⟩
theorem HRel.om {ω' : Nat → Value} {w : World} {Im : Nat → Prop} {θ : Th} {h : HpF} (hr : HRel P ω w Im θ h) (hn : ∀ x c, h x = some c → noOpqC c = true) : HRel P ω' w Im θ h :=
 ⟨fun x c hx => (hr.at_ x c hx).om (hn x c hx), hr.inj, hr.own, hr.im, hr.gl⟩
theorem noOpqH_at : ∀ {H : HpL}, noOpqH H = true → ∀ {x : Nat} {c : Chunk}, H.get x = some c → noOpqC c = true := by
 intro H hn x c hx
 have hm := HpL_get_some H x c hx
 induction H with
 | nil => cases hm
 | cons p H ih =>
  obtain ⟨y, d⟩ := p
  simp only [noOpqH, Bool.and_eq_true] at hn
  rcases List.mem_cons.1 hm with h | h
  · cases h; exact hn.1
  · have : ∀ (l : HpL), noOpqH l = true → ∀ q ∈ l, noOpqC q.2 = true := by
      intro l
      induction l with
      | nil => intro _ q hq; cases hq
      | cons p l ih =>
       obtain ⟨z, e⟩ := p
       intro hl q hq
       simp only [noOpqH, Bool.and_eq_true] at hl
       rcases List.mem_cons.1 hq with rfl | hq
       · exact hl.1
       · exact ih hl.2 q hq
    exact this H hn.2 (x, c) h
theorem noOpqU_at : ∀ {u : List (Nat × Option Chunk)}, noOpqU u = true → ∀ {h : HpF}, (∀ x c, h x = some c → noOpqC c = true) → ∀ x c, updF u h x = some c → noOpqC c = true
 | [], _, h, hh, x, c, hx => hh x c hx
 | (y, some d) :: u, hn, h, hh, x, c, hx => by
  simp only [noOpqU, Bool.and_eq_true] at hn
  simp only [updF] at hx
  refine noOpqU_at hn.2 (fun z e hz => ?_) x c hx
  by_cases hzy : z = y
  · simp only [hzy, if_true] at hz; cases hz; exact hn.1
  · simp only [hzy, if_false] at hz; exact hh z e hz
 | (y, none) :: u, hn, h, hh, x, c, hx => by
  simp only [noOpqU] at hn
  simp only [updF] at hx
  refine noOpqU_at hn (fun z e hz => ?_) x c hx
  by_cases hzy : z = y
  · simp only [hzy, if_true] at hz; cases hz
  · simp only [hzy, if_false] at hz; exact hh z e hz
theorem keepOk_at {s : St} : ∀ {l : List Nat}, keepOk s l = true → ∀ t ∈ l, s.tmp t = .opq t
 | [], _, t, ht => by cases ht
 | x :: l, h, t, ht => by
  simp only [keepOk, Bool.and_eq_true] at h
  rcases List.mem_cons.1 ht with rfl | ht
  · have h1 := h.1
    split at h1
    · rename_i n hn
      rw [hn, Nat.eq_of_beq_eq_true h1]
    · cases h1
  · exact keepOk_at h.2 t ht
theorem finishL_inv {e : LEnt} {ex : Ex} {s : St} {k : IntKind} {c : Int} {outs : List SV} {ups : List (Nat × Option Chunk)} (h : crun (finishL e ex s) = some (.tup (.int k c :: outs), ups)) :
  (∀ t ∈ e.keep, s.tmp t = .opq t) ∧ noOpqL (e.outs.map s.tmp) = true ∧ noOpqU ups = true ∧ c = codeEx ex ∧ ∃ ns, reachNew s.hp s.m 2000 (namesS (.tup (.int .i64 (codeEx ex) :: e.outs.map s.tmp)) ++ dirtyNames s.hp s.dirty) [] = some ns ∧
   outs = renL (outName ns s.m) (e.outs.map s.tmp) ∧ ups = outOld s.hp (outName ns s.m) s.dirty ++ outNew s.hp (outName ns s.m) ns := by
 unfold finishL at h
 cases hb : keepOk s e.keep && noOpqL (e.outs.map s.tmp) with
 | false => rw [hb] at h; simp [crun] at h
 | true =>
  rw [hb] at h
  simp only [cond_true] at h
  simp only [Bool.and_eq_true] at hb
  unfold finishV at h
  cases hre : reachNew s.hp s.m 2000 (namesS (.tup (.int .i64 (codeEx ex) :: e.outs.map s.tmp)) ++ dirtyNames s.hp s.dirty) [] with
  | none => rw [hre] at h; simp [crun] at h
  | some ns =>
   rw [hre] at h
   simp only [] at h
   cases hu : noOpqU (outOld s.hp (outName ns s.m) s.dirty ++ outNew s.hp (outName ns s.m) ns) with
   | false => rw [hu] at h; simp [crun] at h
   | true =>
    rw [hu] at h
    simp only [cond_true, crun, renS, renL, Option.some.injEq, Prod.mk.injEq, SV.tup.injEq, List.cons.injEq, SV.int.injEq] at h
    obtain ⟨⟨⟨_, rfl⟩, rfl⟩, rfl⟩ := h
    exact ⟨keepOk_at hb.1, hb.2, hu, rfl, ns, rfl, rfl, rfl⟩
def boundT (μ : List SV → HpL → Nat) (s : CSumm) (n : Nat) : CSumm := fun args H => .ite (Nat.blt (μ args H) n) (s args H) .fail
theorem loop_valid {κ : Nat → Option CSumm} {ι : Nat → Bool} {T : LTab} {sp : Bool} {fuel : Nat} {e : LEnt} {c : Code} {μ : List SV → HpL → Nat} (hκ : KOk P κ) (hmix : P.follows .mixedOrders = true) (hT : LOk P T) (hfill : fillC T c = e.code)
  (hstep : ∀ n args H r, Nat.blt (μ args H) (n + 1) = true → crun (e.s args H) = some r → crun (loopOnce P κ ι T sp fuel e { e with s := boundT μ e.s n } c args H) = some r) : ValidL P e := by
 have key : ∀ n, ValidL P { e with s := boundT μ e.s n } := by
  intro n
  induction n with
  | zero =>
   intro args H k c outs ups hrun
   have : Nat.blt (μ args H) 0 = false := by
    cases h : Nat.blt (μ args H) 0 with
    | false => rfl
    | true => rw [Nat.blt_eq] at h; omega
   simp [boundT, this, crun] at hrun
  | succ n ih =>
   intro args H k c0 outs ups hrun hcanon hol hal
   have hb : Nat.blt (μ args H) (n + 1) = true := by
    cases h : Nat.blt (μ args H) (n + 1) with
    | true => rfl
    | false => simp [boundT, h, crun] at hrun
   have hrun' : crun (e.s args H) = some (.tup (.int k c0 :: outs), ups) := by simpa [boundT, hb, crun] using hrun
   have hl := hstep n args H _ hb hrun'
   unfold loopOnce at hl
   cases hc : canonB H 0 && closedB H.length H && Nat.beq args.length e.ins.length && Nat.blt e.size 16000 && Nat.blt H.length 1000000 && lowB e.size e.ins && lowB e.size e.keep && lowB e.size e.outs && noOpqL args && noOpqH H && lowB H.length (namesL args) with
   | false => rw [hc] at hl; simp [crun] at hl
   | true =>
    rw [hc] at hl
    simp only [cond_true] at hl
    simp only [Bool.and_eq_true] at hc
    obtain ⟨⟨⟨⟨⟨⟨⟨⟨⟨⟨c1, c2⟩, c3⟩, c4⟩, c5⟩, c6⟩, c7⟩, c8⟩, c9⟩, c10⟩, c11⟩ := hc
    have hsz : e.size < 16000 := by rwa [Nat.blt_eq] at c4
    have hHl : H.length < 1000000 := by rwa [Nat.blt_eq] at c5
    have hins := lowB_spec _ c6
    have hkeep := lowB_spec _ c7
    have houts := lowB_spec _ c8
    have hhp : (loopSt sp e args H).hp.get = H.get := heapTr_init c1 (by omega)
    have htm : ∀ j, ((loopSt sp e args H).tmp j = .junk) ∨ (j ∈ e.keep ∧ (loopSt sp e args H).tmp j = .opq j) ∨ ∃ i : Nat, e.ins[i]? = some j ∧ ∃ v, args[i]? = some v ∧ (loopSt sp e args H).tmp j = v := by
     intro j
     have hk16 : ∀ x ∈ e.keep, x < 16000 := fun x hx => by have := hkeep x hx; omega
     have hi16 : ∀ x ∈ e.ins, x < 16000 := fun x hx => by have := hins x hx; omega
     have he : (loopSt sp e args H).tmp j = match (setPs e.ins args (keepI e.keep .lf)).get j with
      | some v => v
      | none => .junk := rfl
     rcases setPs_at e.ins args (keepI e.keep .lf) j hi16 with ⟨g1, -⟩ | ⟨i, g1, v, g2, g3⟩
     · rw [he, g1, keepI_get _ _ _ hk16]
       by_cases hj : j ∈ e.keep
       · simp [hj]
       · simp [hj, Tr.get_lf]
     · exact .inr (.inr ⟨i, g1, v, g2, by rw [he, g3]⟩)
    have hs0 : StOk (loopSt sp e args H) := by
     refine ⟨hsz, hHl, fun t ht => ?_, ?_, Nat.le_refl _⟩
     · have ht' : e.size ≤ t := ht
       rcases htm t with g | ⟨g, _⟩ | ⟨i, g, _⟩
       · exact g
       · have := hkeep t g; omega
       · have := hins t (List.mem_of_getElem? g); omega
     · intro x c hx
       rw [hhp] at hx
       exact canon_lt c1 hx
    obtain ⟨ex1, s1, hs1, hc1, hk1⟩ := execL_ok (den := crun) rfl hκ hmix hT fuel c _ _ _ hs0 hl
    rw [hfill] at hc1
    have hall : ∃ ex sF, StOk sF ∧ Comes P (.loop e.code) (loopSt sp e args H) ex sF ∧ crun (finishL e ex sF) = some (.tup (.int k c0 :: outs), ups) := by
     cases ex1 with
     | normal =>
      simp only [] at hk1
      obtain ⟨ex2, s2, hs2, hc2, hk2⟩ := loopK_run (den := crun) rfl ih hs1 hk1
      obtain ⟨m, hm⟩ := hc2.wps
      refine ⟨ex2, s2, hs2, ⟨hc1.later.trans hc2.later, by rw [hc2.size, hc1.size], by rw [hc2.rd, hc1.rd], m + 1, fun ω ρ Q a w Im θ sim hA => ?_⟩, hk2⟩
      show Code.roundsIn (FR ρ) 0 P e.code Q (m + 1) a w
      rw [roundsIn_succ]
      refine hc1.wp ρ _ a w Im θ sim (fun a' w' Im' θ' sim' hE hN => ?_)
      exact hm ω ρ Q a' w' Im' θ' sim' (After.trans hc1.later hE hN hA)
     | exit id =>
      refine ⟨.exit id, s1, hs1, ⟨hc1.later, hc1.size, hc1.rd, 1, fun ω ρ Q a w Im θ sim hA => ?_⟩, hk1⟩
      show Code.roundsIn (FR ρ) 0 P e.code Q 1 a w
      rw [roundsIn_succ]
      exact hc1.wp ρ _ a w Im θ sim (fun a' w' Im' θ' sim' hE hN => hA a' w' Im' θ' sim' hE hN)
     | ret =>
      refine ⟨.ret, s1, hs1, ⟨hc1.later, hc1.size, hc1.rd, 1, fun ω ρ Q a w Im θ sim hA => ?_⟩, hk1⟩
      show Code.roundsIn (FR ρ) 0 P e.code Q 1 a w
      rw [roundsIn_succ]
      exact hc1.wp ρ _ a w Im θ sim (fun a' w' Im' θ' sim' hE hN => hA a' w' Im' θ' sim' hE hN)
    obtain ⟨ex, sF, hsF, hC, hfin⟩ := hall
    obtain ⟨f1, f2, f3, rfl, ns, hre, rfl, rfl⟩ := finishL_inv hfin
    obtain ⟨m, hm⟩ := hC.wps
    refine ⟨m, fun ω θ Im w a Q hsize hargs hH hfr hMk hpost => ?_⟩
    have hmF : sF.m = H.length := hC.later.m
    have hsF2 : sF.size = e.size := hC.size
    have sim0 : Sim P (fun t => a.tmps.getD t undef) none (loopSt sp e args H) a w Im θ := by
     refine ⟨hs0, ⟨hsize, fun t ht => ?_, hs0.out, by rw [hhp]; exact hMk, by rw [hhp]; exact hH.om (fun x c hx => noOpqH_at c10 hx)⟩, ?_, .inl ⟨rfl, rfl⟩⟩
     · rcases htm t with g | ⟨g, g2⟩ | ⟨i, g, v, g2, g3⟩
       · rw [g]; exact .junk
       · rw [g2]; exact .opq
       · rw [g3]
         exact (hargs.at_ i v _ g2 (by simp [g])).om (noOpqL_at c9 g2)
     · intro x hx
       have hx' : H.length ≤ x := hx
       refine ⟨hfr x hx', ?_⟩
       rw [hhp]
       cases hg : H.get x with
       | none => rfl
       | some c => have := canon_lt c1 hg; omega
    refine hm (fun t => a.tmps.getD t undef) none Q a w Im θ sim0 (fun a' w' Im' θ' sim' hE hN => ?_)
    have hsame : ∀ x, x < H.length → sF.hp.get x = H.get x ∨ x ∈ sF.dirty := by
     intro x hx
     have := hC.later.same x hx
     rwa [hhp] at this
    have hdl : ∀ x ∈ sF.dirty, x < H.length := by
     intro x hx
     rcases hC.later.low x hx with h | h
     · cases h
     · exact h
    have hext : Ext (fun x => H.length ≤ x) H.get w Im θ sF.hp.get w' Im' θ' := by
     rw [← hhp]; exact hE
    have hz : VRel P (fun t => a.tmps.getD t undef) w' Im' θ' (.tup (.int .i64 (codeEx ex) :: e.outs.map sF.tmp)) (.tuple (.int .i64 (codeEx ex) :: (e.outs.map fun t => a'.tmps.getD t undef)).toArray) := by
     have hl := lrel_map (P := P) (ω := fun t => a.tmps.getD t undef) (w := w') (Im := Im') (θ := θ') (f := sF.tmp) (g := fun t => a'.tmps.getD t undef) (l := e.outs) (fun t ht => sim'.sf.tm t (by rw [hsF2]; exact houts t ht))
     refine .tup (by simp) (fun i v u hv hu => ?_)
     cases i with
     | zero => simp at hv hu; subst hv; subst hu; exact .int
     | succ i => exact hl.at_ i v u (by simpa using hv) (by simpa using hu)
    obtain ⟨θ3, g1, g2, g3, g4⟩ := finish_gen c1 c2 hfr hmF hsame hdl hre sim'.sf.hp hext hz
    rw [← hmF] at g1 g2 g3 g4
    have g2' : LRel P (fun t => a.tmps.getD t undef) w' Im' θ3 (renL (outName ns sF.m) (e.outs.map sF.tmp)) (e.outs.map fun t => a'.tmps.getD t undef) := by
     simp only [renS, renL] at g2
     cases g2 with
     | tup p1 p2 => exact ⟨by rw [renL_eq]; simp, fun i v u hv hu => p2 (i + 1) v u (by simpa using hv) (by simpa using hu)⟩
    rw [← hmF] at hpost
    have := hpost a' w' Im' θ3 (by rw [sim'.sf.size]; exact hsF2) g1 (g2'.om (by rw [noOpqL_ren]; exact f2)) (g3.om (noOpqU_at f3 (fun x c hx => noOpqH_at c10 hx))) (fun t ht => ?_) ?_ hN
    · rw [exOf_code] at this; exact this
    · have h1 := sim'.sf.tm t (by rw [hsF2]; exact hkeep t ht)
      rw [f1 t ht] at h1
      generalize a'.tmps.getD t undef = z at h1
      cases h1
      rfl
    · obtain ⟨rs, base, m1, mb, m2, m3⟩ := sim'.sf.df
      refine ⟨rs, base, m1, mb, m2, fun r hr => ⟨(m3 r hr).1, (m3 r hr).2.1, fun y c N hy hb => ?_⟩⟩
      obtain ⟨x, c0, hx, hxb⟩ := g4 y c r N hy hb
      exact (m3 r hr).2.2 x c0 N hx hxb
 intro args H k c0 outs ups hrun hcanon hol hal
 refine key (μ args H + 1) args H k c0 outs ups ?_ hcanon hol hal
 have : Nat.blt (μ args H) (μ args H + 1) = true := by rw [Nat.blt_eq]; omega
 simp only [boundT, crun, this, if_true]
 exact hrun
end Go.Am
/- The abstract machine: a body with loops that are known. -/
namespace Go.Am
variable {P : Program} {ω : Nat → Value}
theorem bodyL_valid {κ : Nat → Option CSumm} (hκ : KOk P κ) (hmix : P.follows .mixedOrders = true) {T : LTab} (hT : LOk P T) {f : FuncId} {fn : Func} (hf : P.funcs[f]? = some fn) {c : Code} (hb : fn.body = some (fillC T c)) {ι : Nat → Bool} {sp : Bool} {fuel : Nat} : ValidC P f (bodyCL P κ ι T sp fuel fn c) := by
 intro args H v ups hrun _ ω θ Im w us hargs hH hfr
 unfold bodyCL at hrun
 cases hc : canonB H 0 && closedB H.length H && Nat.ble args.length fn.ntmps && Nat.blt fn.ntmps 16000 && Nat.blt H.length 1000000 with
 | false => rw [hc] at hrun; simp [crun] at hrun
 | true =>
  rw [hc] at hrun
  simp only [cond_true] at hrun
  simp only [Bool.and_eq_true] at hc
  obtain ⟨⟨⟨⟨c1, c2⟩, c3⟩, c4⟩, c5⟩ := hc
  have hal : args.length ≤ fn.ntmps := by rwa [Nat.ble_eq] at c3
  have hnt : fn.ntmps < 16000 := by rwa [Nat.blt_eq] at c4
  have hHl : H.length < 1000000 := by rwa [Nat.blt_eq] at c5
  have hhp : (initSt sp fn args H).hp.get = H.get := heapTr_init c1 (by omega)
  have hs0 : StOk { initSt sp fn args H with tm := .lf, size := 0 } := by
   refine ⟨by show 0 < 16000; omega, hHl, fun t _ => rfl, ?_, Nat.le_refl _⟩
   intro x c hx
   have hx' : (initSt sp fn args H).hp.get x = some c := hx
   rw [hhp] at hx'
   exact canon_lt c1 hx'
  have hst : StOk (initSt sp fn args H) := enter_ok hs0 hal hnt
  obtain ⟨e, s2, hs2, hcomes, hfin⟩ := execL_ok (den := crun) rfl hκ hmix hT fuel c _ _ _ hst hrun
  have hm2 : s2.m = H.length := hcomes.later.m
  have he : ∀ id, e ≠ .exit id := by
   rintro id rfl
   simp [crun] at hfin
  have hfin' : crun (finishC P fn s2) = some (v, ups) := by
   cases e with
   | exit id => exact absurd rfl (he id)
   | normal => exact hfin
   | ret => exact hfin
  unfold finishC at hfin'
  cases hrs : resultsS P s2 fn.results.toList with
  | none => rw [hrs] at hfin'; simp [crun] at hfin'
  | some vs =>
   rw [hrs] at hfin'
   simp only [] at hfin'
   cases hre : reachNew s2.hp s2.m 2000 (namesS (oneOrTup vs) ++ dirtyNames s2.hp s2.dirty) [] with
   | none => rw [hre] at hfin'; simp [crun] at hfin'
   | some ns =>
     rw [hre] at hfin'
     simp only [crun, Option.some.injEq, Prod.mk.injEq] at hfin'
     rw [hm2] at hfin'
     obtain ⟨rfl, rfl⟩ := hfin'
     have hfr0 : Fr (initSt sp fn args H).nx θ (initSt sp fn args H).hp.get := by
      intro x hx
      have hx' : H.length ≤ x := hx
      refine ⟨hfr x hx', ?_⟩
      rw [hhp]
      cases hg : H.get x with
      | none => rfl
      | some c => have := canon_lt c1 hg; omega
     have sim0 := enter_sim (P := P) hs0 (args := args) (us := us) hal hnt (w := w) (Im := Im) (θ := θ) (by show HRel P ω w Im θ (initSt sp fn args H).hp.get; rw [hhp]; exact hH) hfr0 hargs
     refine (callsIn_wide (n := 0)).1 (body_calls (ρ := none) hf hb he hcomes sim0 hrs (fun u w' Im' θ' hH2 _ hE hvu => ?_))
     have hsame : ∀ x, x < H.length → s2.hp.get x = H.get x ∨ x ∈ s2.dirty := by
      intro x hx
      have := hcomes.later.same x hx
      rwa [hhp] at this
     have hdl : ∀ x ∈ s2.dirty, x < H.length := by
      intro x hx
      rcases hcomes.later.low x hx with h | h
      · cases h
      · exact h
     have hext : Ext (fun x => H.length ≤ x) H.get w Im θ s2.hp.get w' Im' θ' := by
      rw [← hhp]; exact hE
     obtain ⟨θ3, g1, g2, g3, -⟩ := finish_gen c1 c2 hfr hm2 hsame hdl hre hH2 hext hvu
     exact ⟨u, θ3, Im', rfl, g1, g2, g3⟩
def ltab : List (String × LEnt) → LTab
 | [], _ => none
 | (w, e) :: l, x => if w = x then some e else ltab l x
theorem ltab_nil : LOk P (ltab []) := fun w e h => by cases h
theorem ltab_cons {w : String} {e : LEnt} {l : List (String × LEnt)} (h : ValidL P e) (hl : LOk P (ltab l)) : LOk P (ltab ((w, e) :: l)) := by
 intro x e' hx
 simp only [ltab] at hx
 split at hx
 · cases hx; exact h
 · exact hl x e' hx
end Go.Am
/- The abstract machine: summaries that name a block anew, or that are told of nil lists as lists that have grown to nothing. -/
namespace Go.Am
variable {P : Program}
def sw (k nw x : Nat) : Nat := bif Nat.beq x k then nw else x
def Renamed (H : HpL) (v : SV) (ups : List (Nat × Option Chunk)) (v' : SV) (ups' : List (Nat × Option Chunk)) : Prop :=
 ∃ k nw, H.length ≤ nw ∧ nw ∉ namesS v ∧ (∀ x c, updF ups H.get x = some c → nw ∉ namesC c) ∧ v' = renS (sw k nw) v ∧
   (∀ x, updF ups' H.get x = if x = nw then (updF ups H.get k).map (renC (sw k nw)) else if x = k then none else (updF ups H.get x).map (renC (sw k nw)))
/- What is handed in. -/
def putH : HpL → Nat → Chunk → HpL
 | [], x, c => [(x, c)]
 | p :: H, x, c => bif Nat.beq p.1 x then (x, c) :: H else p :: putH H x c
theorem get_put {x y : Nat} {c : Chunk} : ∀ (H : HpL), HpL.get (putH H y c) x = if x = y then some c else H.get x
 | [] => by
  simp only [putH, HpL.get]
  by_cases h : x = y
  · subst h; simp
  · rw [nb_f (fun e => h e.symm), if_neg h]; rfl
 | (z, d) :: H => by
  simp only [putH]
  by_cases hz : z = y
  · subst hz
    rw [nb_t rfl, cond_true]
    simp only [HpL.get]
    by_cases h : z = x
    · subst h; simp
    · rw [nb_f h, if_neg (fun e => h e.symm)]; rfl
  · rw [nb_f hz, cond_false]
    simp only [HpL.get]
    rw [get_put H]
    by_cases h : z = x
    · subst h; simp only [nb_t rfl, if_neg hz, cond_true]
    · rw [nb_f h]; rfl
structure InOk (P : Program) (args : List SV) (H : HpL) (args2 : List SV) (H2 : HpL) : Prop where
 canon : Canon H2
 len : H.length ≤ H2.length
 al : args2.length = args.length
 back : ∀ x c, H2.get x = some c → (∃ c', H.get x = some c') ∨ H.length ≤ x
 rel : ∀ (ω : Nat → Value) (θ : Th) (w : World) (Im : Nat → Prop) (us : List Value), LRel P ω w Im θ args us → HRel P ω w Im θ H.get → (∀ x, H.length ≤ x → θ x = none) → LRel P ω w Im θ args2 us ∧ HRel P ω w Im θ H2.get
theorem LRel.cons {ω : Nat → Value} {w : World} {Im : Nat → Prop} {θ : Th} {v : SV} {vs : List SV} {u : Value} {us : List Value} (h : VRel P ω w Im θ v u) (hl : LRel P ω w Im θ vs us) : LRel P ω w Im θ (v :: vs) (u :: us) :=
 ⟨by simp [hl.len], fun i v' u' hv hu => by
  cases i with
  | zero => simp at hv hu; subst hv; subst hu; exact h
  | succ i => exact hl.at_ i v' u' (by simpa using hv) (by simpa using hu)⟩
theorem LRel.uncons {ω : Nat → Value} {w : World} {Im : Nat → Prop} {θ : Th} {v : SV} {vs : List SV} {us : List Value} (h : LRel P ω w Im θ (v :: vs) us) : ∃ u us', us = u :: us' ∧ VRel P ω w Im θ v u ∧ LRel P ω w Im θ vs us' := by
 cases us with
 | nil => have := h.len; simp at this
 | cons u us => exact ⟨u, us, rfl, h.at_ 0 v u rfl rfl, ⟨by simpa using h.len, fun i v u hv hu => h.at_ (i + 1) v u (by simpa using hv) (by simpa using hu)⟩⟩
theorem InOk.cons {a a2 : SV} {as as2 : List SV} {H H2 : HpL} (h : InOk P as H as2 H2) (ha : ∀ (ω : Nat → Value) (θ : Th) (w : World) (Im : Nat → Prop) (u : Value), VRel P ω w Im θ a u → VRel P ω w Im θ a2 u) : InOk P (a :: as) H (a2 :: as2) H2 :=
 ⟨h.canon, h.len, by simp [h.al], h.back, fun ω θ w Im us hl hH hf => by
  obtain ⟨u, us', rfl, h1, h2⟩ := hl.uncons
  obtain ⟨h3, h4⟩ := h.rel ω θ w Im us' h2 hH hf
  exact ⟨h3.cons (ha _ _ _ _ _ h1), h4⟩⟩
theorem CRel.bytes {ω : Nat → Value} {w : World} {Im : Nat → Prop} {θ : Th} {x : Nat} {T : TypeId} {cs : List SV} (h : CRel P ω w Im θ x (.cells T cs)) (hb : byteL cs = true) (hu : P.underlying T = some (.int .u8)) (h1 : P.cellsOf T = 1) : CRel P ω w Im θ x (.seq T cs) := by
 obtain ⟨b, us, fr, ht, hw, hf, hl⟩ := h
 have hlen := hl.len
 have hex : ∀ v ∈ cs, expand P T v = v := by
  intro v hv
  obtain ⟨n, rfl⟩ := byteL_at hb v hv
  have ha : isAggT P T = false := by unfold isAggT; rw [hu]
  simp only [expand, ha, cond_false, expandLeaf, hu, asI]
 refine .inr ⟨b, cs.length, us, T, fr, fun i => us.toList.getD i undef, ht, hw, hf, ⟨by simpa using hlen.symm, rfl⟩, by rw [h1]; omega, hex, ?_⟩
 intro i v hi
 have hlt : i < us.size := by
  obtain ⟨hlt, _⟩ := List.getElem?_eq_some_iff.1 hi
  rw [hlen] at hlt; simpa using hlt
 have hui : us.toList[i]? = some (us.toList.getD i undef) := by
  rw [List.getD_eq_getElem?_getD, Array.getElem?_toList, Array.getElem?_eq_getElem hlt]; rfl
 have hv := hl.at_ i v _ hi hui
 obtain ⟨n, rfl⟩ := byteL_at hb v (List.mem_of_getElem? hi)
 show VRel P om0 w Im noTh _ (us.toList.getD i undef) ∧ (us.toList.getD i undef).cells.size = _ ∧ ∀ (d : Nat) (c : Value), (us.toList.getD i undef).cells[d]? = some c → _
 generalize hg : us.toList.getD i undef = u at hv hui ⊢
 cases hv
 refine ⟨.int, by rw [h1]; rfl, fun d c hd => ?_⟩
 rw [h1, Nat.mul_one]
 cases d with
 | zero =>
  simp [Value.cells] at hd; subst hd
  simpa [Array.getElem?_toList] using hui
 | succ d => simp [Value.cells] at hd
theorem HRel.bytes {ω : Nat → Value} {w : World} {Im : Nat → Prop} {θ : Th} {H : HpL} (h : HRel P ω w Im θ H.get) {x : Nat} {T : TypeId} {cs : List SV} (hx : H.get x = some (.cells T cs)) (hb : byteL cs = true) (hu : P.underlying T = some (.int .u8)) (h1 : P.cellsOf T = 1) : HRel P ω w Im θ (HpL.get (putH H x (.seq T cs))) := by
 have up : ∀ y c, HpL.get (putH H x (.seq T cs)) y = some c → ∃ c', H.get y = some c' := by
  intro y c hy
  rw [get_put] at hy
  by_cases he : y = x
  · subst he; exact ⟨_, hx⟩
  · rw [if_neg he] at hy; exact ⟨_, hy⟩
 refine ⟨fun y c hy => ?_, fun y z c c' b N N' hy hz h2 h3 => ?_, fun y c b N hy h2 => ?_, h.im, h.gl⟩
 · rw [get_put] at hy
   by_cases he : y = x
   · subst he; rw [if_pos rfl] at hy; cases hy; exact (h.at_ _ _ hx).bytes hb hu h1
   · rw [if_neg he] at hy; exact h.at_ y c hy
 · obtain ⟨d, hd⟩ := up y c hy
   obtain ⟨d', hd'⟩ := up z c' hz
   exact h.inj y z d d' b N N' hd hd' h2 h3
 · obtain ⟨d, hd⟩ := up y c hy
   exact h.own y d b N hd h2
end Go.Am
/- The abstract machine: a round of a loop; loops by what is known up to other words. -/
namespace Go.Am
variable {P : Program} {ω : Nat → Value}
end Go.Am
/- The abstract machine: lists that are answered or left in the heap, known by content from there on. -/
namespace Go.Am
variable {P : Program}
def SemV (P : Program) (k e : Nat) (rs : List SV) (v v' : SV) : Prop :=
 ∀ (ω : Nat → Value) (w : World) (Im : Nat → Prop) (θ : Th) (h : HpF) (u : Value), HRel P ω w Im θ h → h k = some (.seq e rs) → VRel P ω w Im θ v u → VRel P ω w (frozenBy Im θ h [k]) θ v' u
def SemC (P : Program) (k e : Nat) (rs : List SV) (x : Nat) (c c' : Chunk) : Prop :=
 ∀ (ω : Nat → Value) (w : World) (Im : Nat → Prop) (θ : Th) (h : HpF), HRel P ω w Im θ h → h k = some (.seq e rs) → CRel P ω w Im θ x c → CRel P ω w (frozenBy Im θ h [k]) θ x c'
variable {k e : Nat} {rs : List SV}
theorem SemV.qs {sz n : Nat} (hn : n = rs.length) : SemV P k e rs (.qs k sz 0 n) (.psl e rs) := fun ω w Im θ h u hr hk hv => seq_psl hr hk hn hv
theorem SemV.nils {e' : Nat} : SemV P k e rs .nils (.psl e' []) := fun ω w Im θ h u _ _ hv => (nils_psl hv).mono (frozenBy_up w) (fun _ _ h => h)
inductive SemL (P : Program) (k e : Nat) (rs : List SV) : List SV → List SV → Prop
 | nil : SemL P k e rs [] []
 | cons {v v' : SV} {vs vs' : List SV} : SemV P k e rs v v' → SemL P k e rs vs vs' → SemL P k e rs (v :: vs) (v' :: vs')
theorem SemL.len : ∀ {vs vs' : List SV}, SemL P k e rs vs vs' → vs'.length = vs.length
 | _, _, .nil => rfl
 | _, _, .cons _ h => by simp [h.len]
theorem SemL.at_ : ∀ {vs vs' : List SV}, SemL P k e rs vs vs' → ∀ (i : Nat) (v' : SV), vs'[i]? = some v' → ∃ v, vs[i]? = some v ∧ SemV P k e rs v v'
 | _, _, .nil, i, v', h => by simp at h
 | _, _, .cons h1 h2, 0, v', h => by simp at h; subst h; exact ⟨_, rfl, h1⟩
 | _, _, .cons h1 h2, i + 1, v', h => by simp at h; obtain ⟨v, h3, h4⟩ := h2.at_ i v' h; exact ⟨v, by simpa using h3, h4⟩
theorem SemL.rel {vs vs' : List SV} (hs : SemL P k e rs vs vs') {ω : Nat → Value} {w : World} {Im : Nat → Prop} {θ : Th} {h : HpF} (hr : HRel P ω w Im θ h) (hk : h k = some (.seq e rs)) {us : List Value} (hl : LRel P ω w Im θ vs us) : LRel P ω w (frozenBy Im θ h [k]) θ vs' us :=
 ⟨by rw [hs.len]; exact hl.len, fun i v' u hv hu => by
  obtain ⟨v, h1, h2⟩ := hs.at_ i v' hv
  exact h2 ω w Im θ h u hr hk (hl.at_ i v u h1 hu)⟩
theorem SemV.tup {vs vs' : List SV} (hs : SemL P k e rs vs vs') : SemV P k e rs (.tup vs) (.tup vs') := by
 intro ω w Im θ h u hr hk hv
 cases hv with
 | tup h1 h2 =>
  have := hs.rel hr hk ⟨h1, fun i v u a b => h2 i v u a (by simpa using b)⟩
  exact .tup this.len (fun i v u a b => this.at_ i v u a (by simpa using b))
theorem SemV.agg {vs vs' : List SV} (hs : SemL P k e rs vs vs') : SemV P k e rs (.agg vs) (.agg vs') := by
 intro ω w Im θ h u hr hk hv
 cases hv with
 | agg h1 h2 =>
  have := hs.rel hr hk ⟨h1, fun i v u a b => h2 i v u a (by simpa using b)⟩
  exact .agg this.len (fun i v u a b => this.at_ i v u a (by simpa using b))
theorem SemC.cells {x : Nat} {T : TypeId} {vs vs' : List SV} (hs : SemL P k e rs vs vs') : SemC P k e rs x (.cells T vs) (.cells T vs') := by
 rintro ω w Im θ h hr hk ⟨b, cs, fr, h1, h2, h3, h4⟩
 exact ⟨b, cs, fr, by rw [hs.len]; exact h1, h2, h3, hs.rel hr hk h4⟩
def CoV (P : Program) (v v' : SV) : Prop := ∀ (ω : Nat → Value) (w : World) (Im : Nat → Prop) (θ : Th) (u : Value), VRel P ω w Im θ v u → VRel P ω w Im θ v' u
def CoC (P : Program) (x : Nat) (c c' : Chunk) : Prop := ∀ (ω : Nat → Value) (w : World) (Im : Nat → Prop) (θ : Th), CRel P ω w Im θ x c → CRel P ω w Im θ x c'
theorem CoV.nils {e' : Nat} : CoV P .nils (.psl e' []) := fun _ _ _ _ _ h => nils_psl h
inductive CoL (P : Program) : List SV → List SV → Prop
 | nil : CoL P [] []
 | cons {v v' : SV} {vs vs' : List SV} : CoV P v v' → CoL P vs vs' → CoL P (v :: vs) (v' :: vs')
theorem CoL.len : ∀ {vs vs' : List SV}, CoL P vs vs' → vs'.length = vs.length
 | _, _, .nil => rfl
 | _, _, .cons _ h => by simp [h.len]
theorem CoL.at_ : ∀ {vs vs' : List SV}, CoL P vs vs' → ∀ (i : Nat) (v' : SV), vs'[i]? = some v' → ∃ v, vs[i]? = some v ∧ CoV P v v'
 | _, _, .nil, i, v', h => by simp at h
 | _, _, .cons h1 h2, 0, v', h => by simp at h; subst h; exact ⟨_, rfl, h1⟩
 | _, _, .cons h1 h2, i + 1, v', h => by simp at h; obtain ⟨v, h3, h4⟩ := h2.at_ i v' h; exact ⟨v, by simpa using h3, h4⟩
theorem CoL.rel {vs vs' : List SV} (hs : CoL P vs vs') {ω : Nat → Value} {w : World} {Im : Nat → Prop} {θ : Th} {us : List Value} (hl : LRel P ω w Im θ vs us) : LRel P ω w Im θ vs' us :=
 ⟨by rw [hs.len]; exact hl.len, fun i v' u hv hu => by
  obtain ⟨v, h1, h2⟩ := hs.at_ i v' hv
  exact h2 ω w Im θ u (hl.at_ i v u h1 hu)⟩
theorem CoV.tup {vs vs' : List SV} (hs : CoL P vs vs') : CoV P (.tup vs) (.tup vs') := by
 intro ω w Im θ u hv
 cases hv with
 | tup h1 h2 =>
  have := hs.rel (ω := ω) (w := w) (Im := Im) (θ := θ) ⟨h1, fun i v u a b => h2 i v u a (by simpa using b)⟩
  exact .tup this.len (fun i v u a b => this.at_ i v u a (by simpa using b))
theorem CoV.agg {vs vs' : List SV} (hs : CoL P vs vs') : CoV P (.agg vs) (.agg vs') := by
 intro ω w Im θ u hv
 cases hv with
 | agg h1 h2 =>
  have := hs.rel (ω := ω) (w := w) (Im := Im) (θ := θ) ⟨h1, fun i v u a b => h2 i v u a (by simpa using b)⟩
  exact .agg this.len (fun i v u a b => this.at_ i v u a (by simpa using b))
theorem CoC.cells {x : Nat} {T : TypeId} {vs vs' : List SV} (hs : CoL P vs vs') : CoC P x (.cells T vs) (.cells T vs') := by
 rintro ω w Im θ ⟨b, cs, fr, h1, h2, h3, h4⟩
 exact ⟨b, cs, fr, by rw [hs.len]; exact h1, h2, h3, hs.rel h4⟩
def Told (P : Program) (H : HpL) (v : SV) (ups : List (Nat × Option Chunk)) (v' : SV) (ups' : List (Nat × Option Chunk)) : Prop :=
 CoV P v v' ∧ ∀ x c', updF ups' H.get x = some c' → ∃ c, updF ups H.get x = some c ∧ CoC P x c c'
structure From (P : Program) (args : List SV) (H : HpL) (args2 : List SV) (H2 : HpL) : Prop where
 args : CoL P args args2
 canon : Canon H2
 len : H2.length = H.length
 fwd : ∀ x c, H.get x = some c → ∃ c2, H2.get x = some c2 ∧ CoC P x c c2
 bwd : ∀ x c2, H2.get x = some c2 → ∃ c, H.get x = some c
theorem From.ext {args args2 : List SV} {H H2 : HpL} (h : From P args H args2 H2) {w w' : World} {Im Im' : Nat → Prop} {θ θ' : Th} {h' : HpF} (he : Ext (fun x => H2.length ≤ x) H2.get w Im θ h' w' Im' θ') : Ext (fun x => H.length ≤ x) H.get w Im θ h' w' Im' θ' := by
 rw [h.len] at he
 refine { thOld := he.thOld, thUp := he.thUp, imUp := he.imUp, size := he.size, os := he.os, output := he.output, tape := he.tape, keep := fun b hb hno => ?_, imNew := fun b hb => ?_, ownNew := fun x c b N hx hθ => ?_ }
 · refine he.keep b hb (fun x c N hx hθ => ?_)
   obtain ⟨c0, h1⟩ := h.bwd x c hx
   exact hno x c0 N h1 hθ
 · rcases he.imNew b hb with h1 | ⟨x, c, N, h1, h2⟩ | h1
   · exact .inl h1
   · obtain ⟨c0, h3⟩ := h.bwd x c h1
     exact .inr (.inl ⟨x, c0, N, h3, h2⟩)
   · exact .inr (.inr h1)
 · rcases he.ownNew x c b N hx hθ with ⟨y, c', N', h1, h2⟩ | h1
   · obtain ⟨c0, h3⟩ := h.bwd y c' h1
     exact .inl ⟨y, c0, N', h3, h2⟩
   · exact .inr h1
end Go.Am
/- The abstract machine: loops known by what their rounds come to, told by other words. -/
namespace Go.Am
variable {P : Program}
def ToldL (P : Program) (H : HpL) (v : SV) (ups : List (Nat × Option Chunk)) (v' : SV) (ups' : List (Nat × Option Chunk)) : Prop :=
 ∃ (c : Int) (vs vs' : List SV), v = .tup (.int .i64 c :: vs) ∧ v' = .tup (.int .i64 c :: vs') ∧ CoL P vs vs' ∧ ∀ x c', updF ups' H.get x = some c' → ∃ c, updF ups H.get x = some c ∧ CoC P x c c'
end Go.Am
/- The abstract machine: loops known by what their rounds come to, told by other words in several steps. -/
namespace Go.Am
variable {P : Program}
inductive ChainL (P : Program) (H : HpL) : SV → List (Nat × Option Chunk) → SV → List (Nat × Option Chunk) → Prop
 | same {v ups ups'} : (∀ x, updF ups' H.get x = updF ups H.get x) → ChainL P H v ups v ups'
 | ren {v ups v' ups'} : Renamed H v ups v' ups' → ChainL P H v ups v' ups'
 | told {v ups v' ups'} : ToldL P H v ups v' ups' → ChainL P H v ups v' ups'
 | trans {v ups v1 ups1 v' ups'} : ChainL P H v ups v1 ups1 → ChainL P H v1 ups1 v' ups' → ChainL P H v ups v' ups'
end Go.Am
/- The abstract machine: a loop over a map: in whatever order the entries come, the rounds come to one end. -/
namespace Go.Am
variable {P : Program} {ω : Nat → Value}
inductive NTree where
 | ret (v : SV) (ups : List (Nat × Option Chunk))
 | any (a b : NTree)
 | fail
def toN : CTree → NTree
 | .ret v ups => .ret v ups
 | .ite b t e => bif b then toN t else toN e
 | .fail => .fail
noncomputable def oneOf (x y : Option (SV × List (Nat × Option Chunk))) : Option (SV × List (Nat × Option Chunk)) := by
 classical exact if x = y then x else none
noncomputable def denN : NTree → Option (SV × List (Nat × Option Chunk))
 | .ret v ups => some (v, ups)
 | .any a b => oneOf (denN a) (denN b)
 | .fail => none
theorem denN_any {a b : NTree} {d : SV × List (Nat × Option Chunk)} (h : denN (.any a b) = some d) : denN a = some d ∧ denN b = some d := by
 simp only [denN, oneOf] at h
 split at h
 · rename_i e; exact ⟨h, by rw [← e]; exact h⟩
 · cases h
theorem denN_same {a b : NTree} {d : SV × List (Nat × Option Chunk)} (ha : denN a = some d) (hb : denN b = some d) : denN (.any a b) = some d := by
 simp only [denN, oneOf, ha, hb]
 simp
theorem denN_toN : ∀ (t : CTree), denN (toN t) = crun t
 | .ret _ _ => rfl
 | .ite b t e => by cases b <;> simp [toN, crun, denN_toN t, denN_toN e]
 | .fail => rfl
def anyN : List NTree → NTree
 | [] => .fail
 | a :: l => match l with
  | [] => a
  | _ :: _ => .any a (anyN l)
theorem denN_anyN {d : SV × List (Nat × Option Chunk)} : ∀ {l : List NTree}, denN (anyN l) = some d → ∀ t ∈ l, denN t = some d
 | [], _, t, ht => by cases ht
 | [a], h, t, ht => by
  simp only [List.mem_singleton] at ht
  subst ht; exact h
 | a :: b :: l, h, t, ht => by
  obtain ⟨h1, h2⟩ := denN_any (a := a) (b := anyN (b :: l)) h
  rcases List.mem_cons.1 ht with rfl | ht
  · exact h1
  · exact denN_anyN h2 t ht
def nextOpts (s : St) (it : Operand) : Option (Nat × List (SV × Option Chunk)) :=
 match s.ev it with
 | .ptr y 0 => match s.hp.get y with
  | some (.mit z since seen last) => match s.hp.get z with
   | some (.mpn bs cl ks vs) => bif ageOk since last bs then
     match leftR seen bs ks vs with
     | [] => some (y, [(.tup [.bool false], none)])
     | e :: l => some (y, (e :: l).map fun e => (.tup [.bool true, e.2.1, e.2.2], some (.mit z since (seen ++ [e.1]) cl)))
    else none
   | _ => none
  | _ => none
 | _ => none
section
variable (P : Program) (κ : Nat → Option CSumm) (ι : Nat → Bool) (fuel : Nat)
def loopN : Nat → Code → St → (Ex → St → NTree) → NTree
 | 0, _, _, _ => .fail
 | n + 1, c, s, k => match c with
  | .seq (.region _ ops false) rest => match ops.toList with
   | o :: os => match o.op, o.guard with
    | .next it false, none => bif dstOk s o.dst then
      match nextOpts s it with
      | some (y, l) => anyN (l.map fun p => opsQ .fail P κ ι (exec .fail P κ ι fuel) (o :: os) (fun s1 => exec .fail P κ ι fuel rest s1 fun e s2 => match e with
        | .normal => loopN n c s2 k
        | e => k e s2) os ((s.upd [(y, p.2)] s.nx).put o.dst p.1))
      | none => .fail
     else .fail
    | _, _ => .fail
   | [] => .fail
  | _ => .fail
def loopNOnce (n : Nat) (sp : Bool) (e : LEnt) (args : List SV) (H : HpL) : NTree :=
 bif canonB H 0 && closedB H.length H && Nat.beq args.length e.ins.length && Nat.blt e.size 16000 && Nat.blt H.length 1000000 && lowB e.size e.ins && lowB e.size e.keep && lowB e.size e.outs && noOpqL args && noOpqH H && lowB H.length (namesL args) then
  loopN P κ ι fuel n e.code (loopSt sp e args H) (fun ex s => toN (finishL e ex s))
 else .fail
end
section
variable {w : World} {Im : Nat → Prop} {θ : Th} {h : HpF}
theorem drop_rel (hr : HRel P ω w Im θ h) (y : Nat) : Ext (fun _ => False) h w Im θ (updF [(y, none)] h) w Im θ ∧ HRel P ω w Im θ (updF [(y, none)] h) := by
 have hs : ∀ x c, updF [(y, none)] h x = some c → h x = some c := by
  intro x c hx
  simp only [updF] at hx
  by_cases e : x = y
  · rw [if_pos e] at hx; cases hx
  · rwa [if_neg e] at hx
 exact ⟨⟨fun _ _ => rfl, fun _ _ h => h, fun _ h => h, Nat.le_refl _, fun _ _ _ => rfl, fun _ h => .inl h, fun x c b N hx hθ => .inl ⟨x, c, N, hs x c hx, hθ⟩, rfl, rfl, rfl⟩,
  ⟨fun x c hx => hr.at_ x c (hs x c hx), fun x z c c' b N N' hx hz => hr.inj x z c c' b N N' (hs x c hx) (hs z c' hz), fun x c b N hx => hr.own x c b N (hs x c hx), hr.im, hr.gl⟩⟩
end
theorem next_wp {o : Oper} {it : Operand} (ho : o.op = .next it false) {s : St} {y : Nat} {l : List (SV × Option Chunk)} (hopt : nextOpts s it = some (y, l)) (hs : StOk s) (hd : dstN s.size o.dst) :
  y < s.nx ∧ ∀ (ω : Nat → Value) (ρ : Option Nat) (K : Act → World → Prop) (Q : Exit → Act → World → Prop) (a : Act) (w : World) (Im : Nat → Prop) (θ : Th), Sim P ω ρ s a w Im θ →
   (∀ p ∈ l, After P ω ρ s ((s.upd [(y, p.2)] s.nx).put o.dst p.1) a w Im θ K) → o.wpIn (FR ρ) 0 P a w K Q := by
 unfold nextOpts at hopt
 split at hopt
 case h_2 => cases hopt
 rename_i y' hev
 split at hopt
 case h_2 => cases hopt
 rename_i z since seen last hy
 split at hopt
 case h_2 => cases hopt
 rename_i bs cl ks vs hz
 cases hok : ageOk since last bs with
 | false => rw [hok] at hopt; cases hopt
 | true =>
  rw [hok] at hopt
  simp only [cond_true] at hopt
  have hyn : y' < s.nx := hs.dom _ _ hy
  have hyy : y' = y := by split at hopt <;> (simp only [Option.some.injEq, Prod.mk.injEq] at hopt; exact hopt.1)
  subst hyy
  refine ⟨hyn, fun ω ρ K Q a w Im θ sim hA => ?_⟩
  have hu := sim.sf.eval it
  rw [← evT_ev, hev] at hu
  have hall := run_nextAll (P := P) sim.sf.hp hy hz hok hu o.type
  -- one outcome
  have one : ∀ (r : SV) (c : Option Chunk), (r, c) ∈ l → ∀ (v : Value) (w' : World), (Instr.next (a.eval it) false o.type).run P w = .ok v w' → VRel P ω w' Im θ r v → Ext (fun _ => False) s.hp.get w Im θ (updF [(y', c)] s.hp.get) w' Im θ → HRel P ω w' Im θ (updF [(y', c)] s.hp.get) → o.wpIn (FR ρ) 0 P a w K Q := by
   intro r c hm v w' hrun hv hE hH
   have hg : Good P ω o a w Im θ s.hp.get r [(y', c)] s.nx s.nx := good_run (by obtain ⟨dst, op, type, pos, after, guard⟩ := o; simp only at ho; subst ho; simp [execOp, hrun]) (hE.mono (fun _ h => h.elim)) hv hH
   refine hg ρ K Q (fun v w' Im' θ' hE hv hH => ?_)
   have hk : ∀ p ∈ [(y', c)], p.1 < s.nx := fun p hp => by simp only [List.mem_singleton] at hp; subst hp; exact hyn
   have hsn := hs.nx
   have hk2 : ∀ p ∈ [(y', c)], p.1 < 1000000 := fun p hp => by have := hk p hp; omega
   have ou := upd_ok hs (Nat.le_refl _) hs.nx hk
   have hhp : (s.upd [(y', c)] s.nx).hp.get = updF [(y', c)] s.hp.get := upsTr_get _ _ hk2
   have hE' : Ext (fun x => s.nx ≤ x) s.hp.get w Im θ (updF [(y', c)] s.hp.get) w' Im' θ' := hE.mono (fun x hx => hx.1)
   refine hA (r, c) hm _ w' Im' θ' ⟨put_ok ou hd r, ?_, ?_, ?_⟩ ?_ (New.refl (put_defers _ _ _))
   · rw [put_sz, put_hp, hhp, tmp_put (s := s.upd [(y', c)] s.nx) hd ou.size]
     exact sim.sf.step hd hE hv hH
   · rw [put_nx, put_hp, hhp]
     intro x hx
     have hx' : s.nx ≤ x := hx
     obtain ⟨f1, f2⟩ := sim.fr x hx'
     refine ⟨by rw [hE.thOld x (by omega)]; exact f1, ?_⟩
     simp only [updF]
     rw [if_neg (by omega)]
     exact f2
   · rw [put_rd]
     rcases sim.rd with g | ⟨y, b, N, g1, g2, g3⟩
     · exact .inl g
     · exact .inr ⟨y, b, N, g1, hE.thUp _ _ g2, g3⟩
   · rw [put_hp, hhp]; exact hE'
  rcases hall with ⟨h1, h2⟩ | ⟨b, k, v, h1, uk, uv, w', h2, h3, h4, h5, h6⟩
  · rw [h1] at hopt
    simp only [Option.some.injEq, Prod.mk.injEq, true_and] at hopt
    subst hopt
    obtain ⟨d1, d2⟩ := drop_rel sim.sf.hp y'
    exact one (.tup [.bool false]) none (by simp) _ w h2 (.tup rfl (fun i v u hv hu => by
     match i, hv, hu with
     | 0, hv, hu => cases hv; cases hu; exact .bool)) d1 d2
  · cases hl : leftR seen bs ks vs with
    | nil => rw [hl] at h1; cases h1
    | cons e0 l0 =>
     rw [hl] at hopt h1
     simp only [Option.some.injEq, Prod.mk.injEq, true_and] at hopt
     subst hopt
     exact one (.tup [.bool true, k, v]) (some (.mit z since (seen ++ [b]) cl)) (List.mem_map.2 ⟨(b, k, v), h1, rfl⟩) _ w' h2 (.tup rfl (fun i x u hv hu => by
      match i, hv, hu with
      | 0, hv, hu => cases hv; cases hu; exact .bool
      | 1, hv, hu => cases hv; cases hu; exact h3
      | 2, hv, hu => cases hv; cases hu; exact h4)) h5 h6
theorem loopN_run {κ : Nat → Option CSumm} {ι : Nat → Bool} {fuel : Nat} (hκ : KOk P κ) (hmix : P.follows .mixedOrders = true) {c : Code} {k : Ex → St → NTree} {d : SV × List (Nat × Option Chunk)} : ∀ (n : Nat) (s : St), StOk s → denN (loopN P κ ι fuel n c s k) = some d →
  ∀ (ω : Nat → Value) (ρ : Option Nat) (Q : Exit → Act → World → Prop) (a : Act) (w : World) (Im : Nat → Prop) (θ : Th), Sim P ω ρ s a w Im θ →
   (∀ e s', StOk s' → Later s s' → s'.size = s.size → s'.rd = s.rd → denN (k e s') = some d → After P ω ρ s s' a w Im θ (Q (exitOf e))) → Code.roundsIn (FR ρ) 0 P c Q n a w
 | 0, s, hs, h, ω, ρ, Q, a, w, Im, θ, sim, hA => by simp [loopN, denN] at h
 | n + 1, s, hs, h, ω, ρ, Q, a, w, Im, θ, sim, hA => by
  have hno : ∀ {t : SV × List (Nat × Option Chunk)}, denN .fail = some t → False := fun h => by cases h
  simp only [loopN] at h
  split at h
  case h_2 => exact (hno h).elim
  rename_i rid ops rest
  split at h
  case h_2 => exact (hno h).elim
  rename_i o os hops
  split at h
  case h_2 => exact (hno h).elim
  rename_i it hop hguard
  cases hd : dstOk s o.dst with
  | false => rw [hd] at h; exact (hno h).elim
  | true =>
   rw [hd] at h
   simp only [cond_true] at h
   have hdN := dstOk_N hd
   split at h
   case h_2 => exact (hno h).elim
   rename_i y l hopt
   obtain ⟨hyn, hwp⟩ := next_wp (P := P) hop hopt hs hdN
   have hall := denN_anyN h
   have hrec := exec_ok (P := P) (den := denN) (fl := .fail) rfl hκ hmix (ι := ι) fuel
   rw [roundsIn_succ]
   refine wpIn_seq (wpIn_region ?_)
   have hsize : ops.size = os.length + 1 := by rw [← Array.length_toList, hops]; rfl
   have hto : ops = (o :: os).toArray := by rw [← hops]
   rw [hsize, List.range_eq_range', List.range'_succ]
   simp only [wpOpsIn]
   have hget : ops[0]? = some o := by rw [hto]; rfl
   rw [hget]
   simp only []
   have hwant : Region.wanted o (yielded ops a.tmps) = true := by
    unfold Region.wanted
    simp [hguard]
   rw [if_pos hwant]
   refine hwp ω ρ _ _ a w Im θ sim (fun p hp => ?_)
   have hp1 := hall _ (List.mem_map.2 ⟨p, hp, rfl⟩)
   have hk : ∀ q ∈ [(y, p.2)], q.1 < s.nx := fun q hq => by simp only [List.mem_singleton] at hq; subst hq; exact hyn
   have hsn := hs.nx
   have hk2 : ∀ q ∈ [(y, p.2)], q.1 < 1000000 := fun q hq => by have := hk q hq; omega
   have ou := upd_ok hs (Nat.le_refl _) hs.nx hk
   have hs1 := put_ok ou (d := o.dst) hdN p.1
   have hl1 : Later s ((s.upd [(y, p.2)] s.nx).put o.dst p.1) := (upd_later (Nat.le_refl _) hk2).trans (put_later _ _ _)
   obtain ⟨s2, hs2, hl2, z2, r2, h2, hw2⟩ := opsQ_run (P := P) (den := denN) (fl := .fail) rfl hrec hκ os 1 _ (by rfl) hs1 hp1
   obtain ⟨e3, s3, hs3, hc3, h3⟩ := hrec rest s2 _ d hs2 h2
   intro a1 w1 Im1 θ1 sim1 hE1 hN1
   rw [hto]
   refine hw2 ω ρ _ a1 w1 Im1 θ1 sim1 (fun a2 w2 Im2 θ2 sim2 hE2 hN2 => ?_)
   have hE12 : Ext (fun x => s.nx ≤ x) s.hp.get w Im θ s2.hp.get w2 Im2 θ2 := hE1.trans (hE2.mono (fun x hx => Nat.le_trans hl1.nx hx))
   have hN12 : New a a2 w := hN1.trans hN2 hE1.size
   have hl12 : Later s s2 := hl1.trans hl2
   refine hc3.wp ρ _ a2 w2 Im2 θ2 sim2 (fun a3 w3 Im3 θ3 sim3 hE3 hN3 => ?_)
   have hE13 : Ext (fun x => s.nx ≤ x) s.hp.get w Im θ s3.hp.get w3 Im3 θ3 := hE12.trans (hE3.mono (fun x hx => Nat.le_trans hl12.nx hx))
   have hN13 : New a a3 w := hN12.trans hN3 hE12.size
   have hl13 : Later s s3 := hl12.trans hc3.later
   have hsz : s3.size = s.size := by rw [hc3.size, z2, put_sz]; rfl
   have hrd : s3.rd = s.rd := by rw [hc3.rd, r2, put_rd]; rfl
   cases e3 with
   | normal =>
    rw [← hto]
    exact loopN_run hκ hmix n s3 hs3 h3 ω ρ Q a3 w3 Im3 θ3 sim3 (fun e s' h1 h2 h3 h4 h5 => After.trans hl13 hE13 hN13 (hA e s' h1 (hl13.trans h2) (by rw [h3, hsz]) (by rw [h4, hrd]) h5))
   | exit id => exact hA (.exit id) s3 hs3 hl13 hsz hrd h3 a3 w3 Im3 θ3 sim3 hE13 hN13
   | ret => exact hA .ret s3 hs3 hl13 hsz hrd h3 a3 w3 Im3 θ3 sim3 hE13 hN13
theorem mapLoop_valid {κ : Nat → Option CSumm} {ι : Nat → Bool} {fuel n : Nat} {sp : Bool} {e : LEnt} (hκ : KOk P κ) (hmix : P.follows .mixedOrders = true)
  (hstep : ∀ args H r, crun (e.s args H) = some r → denN (loopNOnce P κ ι fuel n sp e args H) = some r) : ValidL P e := by
 intro args H k c0 outs ups hrun hcanon hol hal
 have hl := hstep args H _ hrun
 unfold loopNOnce at hl
 cases hc : canonB H 0 && closedB H.length H && Nat.beq args.length e.ins.length && Nat.blt e.size 16000 && Nat.blt H.length 1000000 && lowB e.size e.ins && lowB e.size e.keep && lowB e.size e.outs && noOpqL args && noOpqH H && lowB H.length (namesL args) with
 | false => rw [hc] at hl; simp [denN] at hl
 | true =>
  rw [hc] at hl
  simp only [cond_true] at hl
  simp only [Bool.and_eq_true] at hc
  obtain ⟨⟨⟨⟨⟨⟨⟨⟨⟨⟨c1, c2⟩, c3⟩, c4⟩, c5⟩, c6⟩, c7⟩, c8⟩, c9⟩, c10⟩, c11⟩ := hc
  have hsz : e.size < 16000 := by rwa [Nat.blt_eq] at c4
  have hHl : H.length < 1000000 := by rwa [Nat.blt_eq] at c5
  have hins := lowB_spec _ c6
  have hkeep := lowB_spec _ c7
  have houts := lowB_spec _ c8
  have hhp : (loopSt sp e args H).hp.get = H.get := heapTr_init c1 (by omega)
  have htm : ∀ j, ((loopSt sp e args H).tmp j = .junk) ∨ (j ∈ e.keep ∧ (loopSt sp e args H).tmp j = .opq j) ∨ ∃ i : Nat, e.ins[i]? = some j ∧ ∃ v, args[i]? = some v ∧ (loopSt sp e args H).tmp j = v := by
   intro j
   have hk16 : ∀ x ∈ e.keep, x < 16000 := fun x hx => by have := hkeep x hx; omega
   have hi16 : ∀ x ∈ e.ins, x < 16000 := fun x hx => by have := hins x hx; omega
   have he : (loopSt sp e args H).tmp j = match (setPs e.ins args (keepI e.keep .lf)).get j with
     | some v => v
     | none => .junk := rfl
   rcases setPs_at e.ins args (keepI e.keep .lf) j hi16 with ⟨g1, -⟩ | ⟨i, g1, v, g2, g3⟩
   · rw [he, g1, keepI_get _ _ _ hk16]
     by_cases hj : j ∈ e.keep
     · simp [hj]
     · simp [hj, Tr.get_lf]
   · exact .inr (.inr ⟨i, g1, v, g2, by rw [he, g3]⟩)
  have hs0 : StOk (loopSt sp e args H) := by
   refine ⟨hsz, hHl, fun t ht => ?_, ?_, Nat.le_refl _⟩
   · have ht' : e.size ≤ t := ht
     rcases htm t with g | ⟨g, _⟩ | ⟨i, g, _⟩
     · exact g
     · have := hkeep t g; omega
     · have := hins t (List.mem_of_getElem? g); omega
   · intro x c hx
     rw [hhp] at hx
     exact canon_lt c1 hx
  refine ⟨n, fun ω θ Im w a Q hsize hargs hH hfr hMk hpost => ?_⟩
  have sim0 : Sim P (fun t => a.tmps.getD t undef) none (loopSt sp e args H) a w Im θ := by
   refine ⟨hs0, ⟨hsize, fun t ht => ?_, hs0.out, by rw [hhp]; exact hMk, by rw [hhp]; exact hH.om (fun x c hx => noOpqH_at c10 hx)⟩, ?_, .inl ⟨rfl, rfl⟩⟩
   · rcases htm t with g | ⟨g, g2⟩ | ⟨i, g, v, g2, g3⟩
     · rw [g]; exact .junk
     · rw [g2]; exact .opq
     · rw [g3]
       exact (hargs.at_ i v _ g2 (by simp [g])).om (noOpqL_at c9 g2)
   · intro x hx
     have hx' : H.length ≤ x := hx
     refine ⟨hfr x hx', ?_⟩
     rw [hhp]
     cases hg : H.get x with
     | none => rfl
     | some c => have := canon_lt c1 hg; omega
  refine loopN_run hκ hmix n _ hs0 hl (fun t => a.tmps.getD t undef) none Q a w Im θ sim0 (fun ex sF hsF hlater hsF2 hrdF hfin0 => ?_)
  rw [denN_toN] at hfin0
  obtain ⟨f1, f2, f3, rfl, ns, hre, rfl, rfl⟩ := finishL_inv hfin0
  have hmF : sF.m = H.length := hlater.m
  have hsF3 : sF.size = e.size := hsF2
  intro a' w' Im' θ' sim' hE hN
  have hsame : ∀ x, x < H.length → sF.hp.get x = H.get x ∨ x ∈ sF.dirty := by
   intro x hx
   have := hlater.same x hx
   rwa [hhp] at this
  have hdl : ∀ x ∈ sF.dirty, x < H.length := by
   intro x hx
   rcases hlater.low x hx with h | h
   · cases h
   · exact h
  have hext : Ext (fun x => H.length ≤ x) H.get w Im θ sF.hp.get w' Im' θ' := by
   rw [← hhp]; exact hE
  have hz : VRel P (fun t => a.tmps.getD t undef) w' Im' θ' (.tup (.int .i64 (codeEx ex) :: e.outs.map sF.tmp)) (.tuple (.int .i64 (codeEx ex) :: (e.outs.map fun t => a'.tmps.getD t undef)).toArray) := by
   have hl := lrel_map (P := P) (ω := fun t => a.tmps.getD t undef) (w := w') (Im := Im') (θ := θ') (f := sF.tmp) (g := fun t => a'.tmps.getD t undef) (l := e.outs) (fun t ht => sim'.sf.tm t (by rw [hsF3]; exact houts t ht))
   refine .tup (by simp) (fun i v u hv hu => ?_)
   cases i with
   | zero => simp at hv hu; subst hv; subst hu; exact .int
   | succ i => exact hl.at_ i v u (by simpa using hv) (by simpa using hu)
  obtain ⟨θ3, g1, g2, g3, g4⟩ := finish_gen c1 c2 hfr hmF hsame hdl hre sim'.sf.hp hext hz
  rw [← hmF] at g1 g2 g3 g4
  have g2' : LRel P (fun t => a.tmps.getD t undef) w' Im' θ3 (renL (outName ns sF.m) (e.outs.map sF.tmp)) (e.outs.map fun t => a'.tmps.getD t undef) := by
   simp only [renS, renL] at g2
   cases g2 with
   | tup p1 p2 => exact ⟨by rw [renL_eq]; simp, fun i v u hv hu => p2 (i + 1) v u (by simpa using hv) (by simpa using hu)⟩
  rw [← hmF] at hpost
  have := hpost a' w' Im' θ3 (by rw [sim'.sf.size]; exact hsF3) g1 (g2'.om (by rw [noOpqL_ren]; exact f2)) (g3.om (noOpqU_at f3 (fun x c hx => noOpqH_at c10 hx))) (fun t ht => ?_) ?_ hN
  · rw [exOf_code] at this; exact this
  · have h1 := sim'.sf.tm t (by rw [hsF3]; exact hkeep t ht)
    rw [f1 t ht] at h1
    generalize a'.tmps.getD t undef = z at h1
    cases h1
    rfl
  · obtain ⟨rs, base, m1, mb, m2, m3⟩ := sim'.sf.df
    refine ⟨rs, base, m1, mb, m2, fun r hr => ⟨(m3 r hr).1, (m3 r hr).2.1, fun y c N hy hb => ?_⟩⟩
    obtain ⟨x, c0, hx, hxb⟩ := g4 y c r N hy hb
    exact (m3 r hr).2.2 x c0 N hx hxb
end Go.Am
/- The abstract machine: a copy of a list is the list. -/
namespace Go.Am
variable {P : Program} {ω : Nat → Value}
def bndE (b : Nat) (es : List SV) : Bool := decide (es.length ≤ 9223372036854775807) && decide (es.length * b ≤ 140737488355328)
def cloneS (e b : Nat) : CSumm
 | [.psl e' es], [] => .ite (Nat.beq e e' && bndE b es) (.ret (.psl e es) []) .fail
 | _, _ => .fail
theorem known_clone (hn : noNum P) (hmix : P.follows .mixedOrders = true) {f : FuncId} {fn : Func} (hf : P.funcs[f]? = some fn) (hb : fn.body.isNone = false) {e b sz : Nat} {body : CSumm} (hv : ValidC P f body)
  (h1 : crun (body [.nils] []) = some (.nils, [])) (h2 : ∀ es, bndE b es = true → crun (body [.pnn e es] []) = some (.qs 0 sz 0 (0 + es.length), [(0, some (.seq e ([] ++ es)))])) : Known P f (cloneS e b) := by
 refine ⟨⟨fn, hf, noNum_at hn hf, hb⟩, ?_⟩
 intro args H v ups hrun hcanon ω θ Im w us hl hH hfr
 unfold cloneS at hrun
 split at hrun
 case h_2 => simp [crun] at hrun
 rename_i e' es
 cases hc : Nat.beq e e' && bndE b es with
 | false => rw [hc] at hrun; simp [crun] at hrun
 | true =>
  rw [hc] at hrun
  simp only [if_true, crun, Option.some.injEq, Prod.mk.injEq] at hrun
  obtain ⟨rfl, rfl⟩ := hrun
  simp only [Bool.and_eq_true] at hc
  have : e = e' := Nat.eq_of_beq_eq_true hc.1
  subst this
  match us, hl with
  | [u], hl =>
   have hu := hl.at_ 0 _ u rfl rfl
   have one : ∀ {v : SV}, VRel P ω w Im θ v u → LRel P ω w Im θ [v] [u] := fun hv => ⟨rfl, fun i x y hx hy => by
    cases i with
    | zero => simp at hx hy; subst hx; subst hy; exact hv
    | succ i => simp at hx⟩
   have hu2 := hu
   cases hu with
   | psl uf g1 g0 g2 g3 g4 =>
    rename_i p n cap
    cases p with
    | none =>
     have hc0 : cap = 0 := g0.2 rfl
     subst hc0
     have hn0 : n = 0 := by omega
     subst hn0
     have he : es = [] := List.eq_nil_of_length_eq_zero g1
     subst he
     refine (hv [.nils] [] _ _ h1 hcanon ω θ Im w _ (one .nils) hH hfr).mono ?_
     rintro o w' ⟨z, θ', Im', rfl, hE, hz, hH'⟩
     refine ⟨z, θ', Im', rfl, hE, ?_, hH'⟩
     cases hz
     exact .psl (fun _ => undef) rfl ⟨Nat.le_refl _, by simp⟩ (fun v hv => by cases hv) (fun i v hv => by simp at hv) (fun hn => absurd rfl hn)
    | some a =>
     refine (hv [.pnn e es] [] _ _ (h2 es hc.2) hcanon ω θ Im w _ (one (.pnn hu2)) hH hfr).mono ?_
     rintro o w' ⟨z, θ', Im', rfl, hE, hz, hH'⟩
     have hget : updF [(0, some (.seq e ([] ++ es)))] (HpL.get []) 0 = some (.seq e es) := by simp [updF]
     have hp := seq_psl hH' hget (by simp) hz
     obtain ⟨hE2, hH2⟩ := drop_step hH' (new := fun x => ([] : HpL).length ≤ x) [0]
     have hfun : updF (drops [0]) (updF [(0, some (.seq e ([] ++ es)))] (HpL.get [])) = updF [] (HpL.get []) := by
      funext x
      by_cases hx : x = 0
      · subst hx; simp [updF, drops, HpL.get]
      · simp [updF, drops, HpL.get, hx]
     rw [hfun] at hE2 hH2
     exact ⟨z, θ', _, rfl, hE.trans hE2, hp, hH2⟩
end Go.Am
/- The abstract machine: nil lists handed in, taken as lists that have grown to nothing (of any element). -/
namespace Go.Am
variable {P : Program}
end Go.Am
