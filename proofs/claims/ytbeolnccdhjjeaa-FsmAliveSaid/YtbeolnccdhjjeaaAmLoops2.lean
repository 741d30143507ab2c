/- The abstract machine: loops, round by round. -/
import Derived.Test.YtbeolnccdhjjeaaAmLoops
namespace Go.Am
variable {P : Program} {ω : Nat → Value}

def RcrOkL {R D : Type} (P : Program) (T : LTab) (den : R → Option D) (rec : Rcr R) : Prop :=
  ∀ (c : Code) (s : St) (k : Ex → St → R) (d : D), StOk s → den (rec c s k) = some d → ∃ e s2, StOk s2 ∧ Comes P (fillC T c) s e s2 ∧ den (k e s2) = some d
def LOk (P : Program) (T : LTab) : Prop := ∀ w e, T w = some e → ValidL P e

section
variable {R D : Type} {fl : R} {den : R → Option D} (hfl : den fl = none) {T : LTab} {recL rec : Rcr R} (hrecL : RcrOkL P T den recL) (hrec : RcrOk P den rec) {κ : Nat → Option CSumm} {ι : Nat → Bool} (hκ : KOk P κ)
include hfl hrecL hrec hκ

theorem execCL_ok (hmix : P.follows .mixedOrders = true) (hT : LOk P T) : RcrOkL P T den (execCL fl P κ ι T recL rec) := by
  intro c
  induction c with
  | skip => intro s k d hs h; exact ⟨.normal, s, hs, comes_self (fun ρ Q a w hq => wpIn_skip hq), h⟩
  | region id ops draw =>
    intro s k d hs h
    obtain ⟨s', hs', hc, h1⟩ := region_run hfl hrec hκ (id := id) hmix hs h
    exact ⟨.normal, s', hs', hc, h1⟩
  | seq x y ihx ihy =>
    intro s k d hs h
    simp only [execCL] at h
    obtain ⟨e, s1, hs1, hc1, h1⟩ := ihx s _ d hs h
    cases e with
    | normal =>
      simp only [] at h1
      obtain ⟨e2, s2, hs2, hc2, h2⟩ := ihy s1 k d hs1 h1
      refine ⟨e2, s2, hs2, ⟨hc1.later.trans hc2.later, by rw [hc2.size, hc1.size], by rw [hc2.rd, hc1.rd], 0, fun ω ρ Q a w Im θ sim hA => ?_⟩, h2⟩
      refine wpIn_seq (hc1.wp ρ _ a w Im θ sim (fun a' w' Im' θ' sim' hE hN => ?_))
      exact hc2.wp ρ Q a' w' Im' θ' sim' (After.trans hc1.later hE hN hA)
    | exit id =>
      exact ⟨.exit id, s1, hs1, ⟨hc1.later, hc1.size, hc1.rd, 0, fun ω ρ Q a w Im θ sim hA => wpIn_seq (hc1.wp ρ _ a w Im θ sim (fun a' w' Im' θ' sim' hE hN => hA a' w' Im' θ' sim' hE hN))⟩, h1⟩
    | ret =>
      exact ⟨.ret, s1, hs1, ⟨hc1.later, hc1.size, hc1.rd, 0, fun ω ρ Q a w Im θ sim hA => wpIn_seq (hc1.wp ρ _ a w Im θ sim (fun a' w' Im' θ' sim' hE hN => hA a' w' Im' θ' sim' hE hN))⟩, h1⟩
  | cond c x y ihx ihy =>
    intro s k d hs h
    simp only [execCL] at h
    split at h
    · rename_i b hb
      have hev : ∀ {ω : Nat → Value} {ρ : Option Nat} {a : Act} {w : World} {Im : Nat → Prop} {θ : Th}, Sim P ω ρ s a w Im θ → a.eval c = .bool b := by
        intro ω ρ a w Im θ sim
        have := sim.sf.eval c
        rw [← evT_ev, hb] at this
        generalize a.eval c = u at this
        cases this
        rfl
      cases b with
      | true =>
        obtain ⟨e, s1, hs1, hc1, h1⟩ := ihx s k d hs h
        exact ⟨e, s1, hs1, ⟨hc1.later, hc1.size, hc1.rd, 0, fun ω ρ Q a w Im θ sim hA => wpIn_cond_true (hev sim) (hc1.wp ρ Q a w Im θ sim hA)⟩, h1⟩
      | false =>
        obtain ⟨e, s1, hs1, hc1, h1⟩ := ihy s k d hs h
        exact ⟨e, s1, hs1, ⟨hc1.later, hc1.size, hc1.rd, 0, fun ω ρ Q a w Im θ sim hA => wpIn_cond_false (hev sim) (hc1.wp ρ Q a w Im θ sim hA)⟩, h1⟩
    · exact (fl_no hfl h).elim
  | block id c ih =>
    intro s k d hs h
    simp only [execCL] at h
    obtain ⟨e, s1, hs1, hc1, h1⟩ := ih s _ d hs h
    cases e with
    | normal => exact ⟨.normal, s1, hs1, ⟨hc1.later, hc1.size, hc1.rd, 0, fun ω ρ Q a w Im θ sim hA => wpIn_block (hc1.wp ρ _ a w Im θ sim hA)⟩, h1⟩
    | ret => exact ⟨.ret, s1, hs1, ⟨hc1.later, hc1.size, hc1.rd, 0, fun ω ρ Q a w Im θ sim hA => wpIn_block (hc1.wp ρ _ a w Im θ sim hA)⟩, h1⟩
    | exit j =>
      simp only [] at h1
      cases hj : Nat.beq j id with
      | true =>
        rw [hj] at h1
        have hji : j = id := Nat.eq_of_beq_eq_true hj
        subst hji
        refine ⟨.normal, s1, hs1, ⟨hc1.later, hc1.size, hc1.rd, 0, fun ω ρ Q a w Im θ sim hA => wpIn_block (hc1.wp ρ _ a w Im θ sim (fun a' w' Im' θ' sim' hE hN => ?_))⟩, h1⟩
        simp only [exitOf, Exit.inBlock, if_true]
        exact hA a' w' Im' θ' sim' hE hN
      | false =>
        rw [hj] at h1
        have hji : ¬ j = id := fun e => by rw [nb_t e] at hj; cases hj
        refine ⟨.exit j, s1, hs1, ⟨hc1.later, hc1.size, hc1.rd, 0, fun ω ρ Q a w Im θ sim hA => wpIn_block (hc1.wp ρ _ a w Im θ sim (fun a' w' Im' θ' sim' hE hN => ?_))⟩, h1⟩
        simp only [exitOf, Exit.inBlock, if_neg hji]
        exact hA a' w' Im' θ' sim' hE hN
  | loop c ih =>
    intro s k d hs h
    simp only [execCL] at h
    obtain ⟨e, s1, hs1, hc1, h1⟩ := ih s _ d hs h
    cases e with
    | normal =>
      simp only [] at h1
      obtain ⟨e2, s2, hs2, hc2, h2⟩ := hrecL (.loop c) s1 k d hs1 h1
      obtain ⟨m, hm⟩ := hc2.wps
      refine ⟨e2, s2, hs2, ⟨hc1.later.trans hc2.later, by rw [hc2.size, hc1.size], by rw [hc2.rd, hc1.rd], m + 1, fun ω ρ Q a w Im θ sim hA => ?_⟩, h2⟩
      show Code.roundsIn (FR ρ) 0 P (fillC T c) Q (m + 1) a w
      rw [roundsIn_succ]
      refine hc1.wp ρ _ a w Im θ sim (fun a' w' Im' θ' sim' hE hN => ?_)
      exact hm ω ρ Q a' w' Im' θ' sim' (After.trans hc1.later hE hN hA)
    | exit id =>
      refine ⟨.exit id, s1, hs1, ⟨hc1.later, hc1.size, hc1.rd, 1, fun ω ρ Q a w Im θ sim hA => ?_⟩, h1⟩
      show Code.roundsIn (FR ρ) 0 P (fillC T c) Q 1 a w
      rw [roundsIn_succ]
      exact hc1.wp ρ _ a w Im θ sim (fun a' w' Im' θ' sim' hE hN => hA a' w' Im' θ' sim' hE hN)
    | ret =>
      refine ⟨.ret, s1, hs1, ⟨hc1.later, hc1.size, hc1.rd, 1, fun ω ρ Q a w Im θ sim hA => ?_⟩, h1⟩
      show Code.roundsIn (FR ρ) 0 P (fillC T c) Q 1 a w
      rw [roundsIn_succ]
      exact hc1.wp ρ _ a w Im θ sim (fun a' w' Im' θ' sim' hE hN => hA a' w' Im' θ' sim' hE hN)
  | exit id => intro s k d hs h; exact ⟨.exit id, s, hs, comes_self (fun ρ Q a w hq => wpIn_exit hq), h⟩
  | label l => intro s k d hs h; exact ⟨.normal, s, hs, comes_self (fun ρ Q a w hq => wpIn_label hq), h⟩
  | ret => intro s k d hs h; exact ⟨.ret, s, hs, comes_self (fun ρ Q a w hq => wpIn_ret hq), h⟩
  | rangeFunc f ps x y _ _ =>
    intro s k d hs h
    exact execC_ok hfl hrec hκ hmix _ s k d hs h
  | scope c ih =>
    intro s k d hs h
    simp only [execCL] at h
    obtain ⟨e, s1, hs1, hc1, h1⟩ := ih s k d hs h
    exact ⟨e, s1, hs1, ⟨hc1.later, hc1.size, hc1.rd, 0, fun ω ρ Q a w Im θ sim hA => wpIn_scope_straight (hc1.wp ρ _ a w Im θ sim (fun a' w' Im' θ' sim' hE hN => by
      cases e <;> exact hA a' w' Im' θ' sim' hE hN))⟩, h1⟩
  | goto l => intro s k d hs h; exact (fl_no hfl h).elim
  | refuse w =>
    intro s k d hs h
    simp only [execCL] at h
    cases hw : T w with
    | none => rw [hw] at h; exact (fl_no hfl h).elim
    | some e =>
      rw [hw] at h
      have hf : fillC T (.refuse w) = .loop e.code := by simp only [fillC, hw]
      rw [hf]
      exact loopK_run hfl (hT w e hw) hs h
end

theorem execL_ok {R D : Type} {fl : R} {den : R → Option D} (hfl : den fl = none) {T : LTab} {κ : Nat → Option CSumm} {ι : Nat → Bool} (hκ : KOk P κ) (hmix : P.follows .mixedOrders = true) (hT : LOk P T) : ∀ n, RcrOkL P T den (execL fl P κ ι T n)
  | 0 => fun c s k d hs h => (fl_no hfl h).elim
  | n + 1 => execCL_ok hfl (execL_ok hfl hκ hmix hT n) (exec_ok hfl hκ hmix n) hκ hmix hT

theorem exOf_code (e : Ex) : exOf (codeEx e) = e := by cases e <;> rfl

mutual
theorem noOpq_ren (f : Nat → Nat) : ∀ (v : SV), noOpq (renS f v) = noOpq v
  | .fn g a b => by simp only [renS, noOpq, noOpqL_ren f a, noOpqL_ren f b]
  | .iface t v => by simp only [renS, noOpq, noOpq_ren f v]
  | .agg cs => by simp only [renS, noOpq, noOpqL_ren f cs]
  | .tup vs => by simp only [renS, noOpq, noOpqL_ren f vs]
  | .junk | .pnn _ _ | .opq _ | .bool _ | .int _ _ | .str _ | .ptr _ _ | .nilp | .pel _ _ | .sl _ _ _ _ | .nils | .psl _ _ | .emp | .qs _ _ _ _ | .qp _ _ _ _ | .mp _ | .nilm | .yl _ | .nilf | .nili => rfl
theorem noOpqL_ren (f : Nat → Nat) : ∀ (vs : List SV), noOpqL (renL f vs) = noOpqL vs
  | [] => rfl
  | v :: vs => by simp only [renL, noOpqL, noOpq_ren f v, noOpqL_ren f vs]
end

theorem LRel.om {ω' : Nat → Value} {w : World} {Im : Nat → Prop} {θ : Th} {vs : List SV} {us : List Value} (h : LRel P ω w Im θ vs us) (hn : noOpqL vs = true) : LRel P ω' w Im θ vs us :=
  ⟨h.len, fun i v u hv hu => (h.at_ i v u hv hu).om (noOpqL_at hn hv)⟩
theorem CRel.om {ω' : Nat → Value} {w : World} {Im : Nat → Prop} {θ : Th} {x : Nat} {c : Chunk} (h : CRel P ω w Im θ x c) (hn : noOpqC c = true) : CRel P ω' w Im θ x c := by
  cases c with
  | cells T vs =>
    obtain ⟨b, cs, fr, h1, h2, h3, h4⟩ := h
    exact ⟨b, cs, fr, h1, h2, h3, h4.om hn⟩
  | seq e es => exact h
  | loopr st vs ps asg bdy =>
    obtain ⟨b, N, lp, h1, h2, h3, h4, h5, h6, h7⟩ := h
    exact ⟨b, N, lp, h1, h2, h3, h4, h5, h6, h7.om hn⟩
  | mpc ks vs =>
    obtain ⟨b, N, es, cl, h1, h2, h3, h4, h5⟩ := h
    simp only [noOpqC, Bool.and_eq_true] at hn
    exact ⟨b, N, es, cl, h1, h2, h3.om hn.1, h4.om hn.2, h5⟩
theorem HRel.om {ω' : Nat → Value} {w : World} {Im : Nat → Prop} {θ : Th} {h : HpF} (hr : HRel P ω w Im θ h) (hn : ∀ x c, h x = some c → noOpqC c = true) : HRel P ω' w Im θ h :=
  ⟨fun x c hx => (hr.at_ x c hx).om (hn x c hx), hr.inj, hr.own, hr.im⟩
theorem noOpqH_at : ∀ {H : HpL}, noOpqH H = true → ∀ {x : Nat} {c : Chunk}, H.get x = some c → noOpqC c = true := by
  intro H hn x c hx
  have hm := HpL_get_some H x c hx
  induction H with
  | nil => cases hm
  | cons p H ih =>
    obtain ⟨y, d⟩ := p
    simp only [noOpqH, Bool.and_eq_true] at hn
    rcases List.mem_cons.1 hm with h | h
    · cases h; exact hn.1
    · have : ∀ (l : HpL), noOpqH l = true → ∀ q ∈ l, noOpqC q.2 = true := by
        intro l
        induction l with
        | nil => intro _ q hq; cases hq
        | cons p l ih =>
          obtain ⟨z, e⟩ := p
          intro hl q hq
          simp only [noOpqH, Bool.and_eq_true] at hl
          rcases List.mem_cons.1 hq with rfl | hq
          · exact hl.1
          · exact ih hl.2 q hq
      exact this H hn.2 (x, c) h
theorem noOpqU_at : ∀ {u : List (Nat × Option Chunk)}, noOpqU u = true → ∀ {h : HpF}, (∀ x c, h x = some c → noOpqC c = true) → ∀ x c, updF u h x = some c → noOpqC c = true
  | [], _, h, hh, x, c, hx => hh x c hx
  | (y, some d) :: u, hn, h, hh, x, c, hx => by
    simp only [noOpqU, Bool.and_eq_true] at hn
    simp only [updF] at hx
    refine noOpqU_at hn.2 (fun z e hz => ?_) x c hx
    by_cases hzy : z = y
    · simp only [hzy, if_true] at hz; cases hz; exact hn.1
    · simp only [hzy, if_false] at hz; exact hh z e hz
  | (y, none) :: u, hn, h, hh, x, c, hx => by
    simp only [noOpqU] at hn
    simp only [updF] at hx
    refine noOpqU_at hn (fun z e hz => ?_) x c hx
    by_cases hzy : z = y
    · simp only [hzy, if_true] at hz; cases hz
    · simp only [hzy, if_false] at hz; exact hh z e hz
theorem keepOk_at {s : St} : ∀ {l : List Nat}, keepOk s l = true → ∀ t ∈ l, s.tmp t = .opq t
  | [], _, t, ht => by cases ht
  | x :: l, h, t, ht => by
    simp only [keepOk, Bool.and_eq_true] at h
    rcases List.mem_cons.1 ht with rfl | ht
    · have h1 := h.1
      split at h1
      · rename_i n hn
        rw [hn, Nat.eq_of_beq_eq_true h1]
      · cases h1
    · exact keepOk_at h.2 t ht

theorem finishL_inv {e : LEnt} {ex : Ex} {s : St} {k : IntKind} {c : Int} {outs : List SV} {ups : List (Nat × Option Chunk)} (h : crun (finishL e ex s) = some (.tup (.int k c :: outs), ups)) :
    (∀ t ∈ e.keep, s.tmp t = .opq t) ∧ noOpqL (e.outs.map s.tmp) = true ∧ noOpqU ups = true ∧ c = codeEx ex ∧ ∃ ns, reachNew s.hp s.m 2000 (namesS (.tup (.int .i64 (codeEx ex) :: e.outs.map s.tmp)) ++ dirtyNames s.hp s.dirty) [] = some ns ∧
      outs = renL (outName ns s.m) (e.outs.map s.tmp) ∧ ups = outOld s.hp (outName ns s.m) s.dirty ++ outNew s.hp (outName ns s.m) ns := by
  unfold finishL at h
  cases hb : keepOk s e.keep && noOpqL (e.outs.map s.tmp) with
  | false => rw [hb] at h; simp [crun] at h
  | true =>
    rw [hb] at h
    simp only [cond_true] at h
    simp only [Bool.and_eq_true] at hb
    unfold finishV at h
    cases hre : reachNew s.hp s.m 2000 (namesS (.tup (.int .i64 (codeEx ex) :: e.outs.map s.tmp)) ++ dirtyNames s.hp s.dirty) [] with
    | none => rw [hre] at h; simp [crun] at h
    | some ns =>
      rw [hre] at h
      simp only [] at h
      cases hu : noOpqU (outOld s.hp (outName ns s.m) s.dirty ++ outNew s.hp (outName ns s.m) ns) with
      | false => rw [hu] at h; simp [crun] at h
      | true =>
        rw [hu] at h
        simp only [cond_true, crun, renS, renL, Option.some.injEq, Prod.mk.injEq, SV.tup.injEq, List.cons.injEq, SV.int.injEq] at h
        obtain ⟨⟨⟨_, rfl⟩, rfl⟩, rfl⟩ := h
        exact ⟨keepOk_at hb.1, hb.2, hu, rfl, ns, rfl, rfl, rfl⟩

/-- Known of fewer than n rounds' worth. -/
def boundT (μ : List SV → HpL → Nat) (s : CSumm) (n : Nat) : CSumm := fun args H => .ite (Nat.blt (μ args H) n) (s args H) .fail
/-- A loop is what its rounds are. -/
theorem loop_valid {κ : Nat → Option CSumm} {ι : Nat → Bool} {T : LTab} {sp : Bool} {fuel : Nat} {e : LEnt} {c : Code} {μ : List SV → HpL → Nat} (hκ : KOk P κ) (hmix : P.follows .mixedOrders = true) (hT : LOk P T) (hfill : fillC T c = e.code)
    (hstep : ∀ n args H r, Nat.blt (μ args H) (n + 1) = true → crun (e.s args H) = some r → crun (loopOnce P κ ι T sp fuel e { e with s := boundT μ e.s n } c args H) = some r) : ValidL P e := by
  have key : ∀ n, ValidL P { e with s := boundT μ e.s n } := by
    intro n
    induction n with
    | zero =>
      intro args H k c outs ups hrun
      have : Nat.blt (μ args H) 0 = false := by
        cases h : Nat.blt (μ args H) 0 with
        | false => rfl
        | true => rw [Nat.blt_eq] at h; omega
      simp [boundT, this, crun] at hrun
    | succ n ih =>
      intro args H k c0 outs ups hrun hcanon hol hal
      have hb : Nat.blt (μ args H) (n + 1) = true := by
        cases h : Nat.blt (μ args H) (n + 1) with
        | true => rfl
        | false => simp [boundT, h, crun] at hrun
      have hrun' : crun (e.s args H) = some (.tup (.int k c0 :: outs), ups) := by simpa [boundT, hb, crun] using hrun
      have hl := hstep n args H _ hb hrun'
      unfold loopOnce at hl
      cases hc : canonB H 0 && closedB H.length H && Nat.beq args.length e.ins.length && Nat.blt e.size 16000 && Nat.blt H.length 1000000 && lowB e.size e.ins && lowB e.size e.keep && lowB e.size e.outs && noOpqL args && noOpqH H && lowB H.length (namesL args) with
      | false => rw [hc] at hl; simp [crun] at hl
      | true =>
        rw [hc] at hl
        simp only [cond_true] at hl
        simp only [Bool.and_eq_true] at hc
        obtain ⟨⟨⟨⟨⟨⟨⟨⟨⟨⟨c1, c2⟩, c3⟩, c4⟩, c5⟩, c6⟩, c7⟩, c8⟩, c9⟩, c10⟩, c11⟩ := hc
        have hsz : e.size < 16000 := by rwa [Nat.blt_eq] at c4
        have hHl : H.length < 1000000 := by rwa [Nat.blt_eq] at c5
        have hins := lowB_spec _ c6
        have hkeep := lowB_spec _ c7
        have houts := lowB_spec _ c8
        have hhp : (loopSt sp e args H).hp.get = H.get := heapTr_init c1 (by omega)
        have htm : ∀ j, ((loopSt sp e args H).tmp j = .junk) ∨ (j ∈ e.keep ∧ (loopSt sp e args H).tmp j = .opq j) ∨ ∃ i : Nat, e.ins[i]? = some j ∧ ∃ v, args[i]? = some v ∧ (loopSt sp e args H).tmp j = v := by
          intro j
          have hk16 : ∀ x ∈ e.keep, x < 16000 := fun x hx => by have := hkeep x hx; omega
          have hi16 : ∀ x ∈ e.ins, x < 16000 := fun x hx => by have := hins x hx; omega
          have he : (loopSt sp e args H).tmp j = match (setPs e.ins args (keepI e.keep .lf)).get j with
            | some v => v
            | none => .junk := rfl
          rcases setPs_at e.ins args (keepI e.keep .lf) j hi16 with ⟨g1, -⟩ | ⟨i, g1, v, g2, g3⟩
          · rw [he, g1, keepI_get _ _ _ hk16]
            by_cases hj : j ∈ e.keep
            · simp [hj]
            · simp [hj, Tr.get_lf]
          · exact .inr (.inr ⟨i, g1, v, g2, by rw [he, g3]⟩)
        have hs0 : StOk (loopSt sp e args H) := by
          refine ⟨hsz, hHl, fun t ht => ?_, ?_, Nat.le_refl _⟩
          · have ht' : e.size ≤ t := ht
            rcases htm t with g | ⟨g, _⟩ | ⟨i, g, _⟩
            · exact g
            · have := hkeep t g; omega
            · have := hins t (List.mem_of_getElem? g); omega
          · intro x c hx
            rw [hhp] at hx
            exact canon_lt c1 hx
        obtain ⟨ex1, s1, hs1, hc1, hk1⟩ := execL_ok (den := crun) rfl hκ hmix hT fuel c _ _ _ hs0 hl
        rw [hfill] at hc1
        have hall : ∃ ex sF, StOk sF ∧ Comes P (.loop e.code) (loopSt sp e args H) ex sF ∧ crun (finishL e ex sF) = some (.tup (.int k c0 :: outs), ups) := by
          cases ex1 with
          | normal =>
            simp only [] at hk1
            obtain ⟨ex2, s2, hs2, hc2, hk2⟩ := loopK_run (den := crun) rfl ih hs1 hk1
            obtain ⟨m, hm⟩ := hc2.wps
            refine ⟨ex2, s2, hs2, ⟨hc1.later.trans hc2.later, by rw [hc2.size, hc1.size], by rw [hc2.rd, hc1.rd], m + 1, fun ω ρ Q a w Im θ sim hA => ?_⟩, hk2⟩
            show Code.roundsIn (FR ρ) 0 P e.code Q (m + 1) a w
            rw [roundsIn_succ]
            refine hc1.wp ρ _ a w Im θ sim (fun a' w' Im' θ' sim' hE hN => ?_)
            exact hm ω ρ Q a' w' Im' θ' sim' (After.trans hc1.later hE hN hA)
          | exit id =>
            refine ⟨.exit id, s1, hs1, ⟨hc1.later, hc1.size, hc1.rd, 1, fun ω ρ Q a w Im θ sim hA => ?_⟩, hk1⟩
            show Code.roundsIn (FR ρ) 0 P e.code Q 1 a w
            rw [roundsIn_succ]
            exact hc1.wp ρ _ a w Im θ sim (fun a' w' Im' θ' sim' hE hN => hA a' w' Im' θ' sim' hE hN)
          | ret =>
            refine ⟨.ret, s1, hs1, ⟨hc1.later, hc1.size, hc1.rd, 1, fun ω ρ Q a w Im θ sim hA => ?_⟩, hk1⟩
            show Code.roundsIn (FR ρ) 0 P e.code Q 1 a w
            rw [roundsIn_succ]
            exact hc1.wp ρ _ a w Im θ sim (fun a' w' Im' θ' sim' hE hN => hA a' w' Im' θ' sim' hE hN)
        obtain ⟨ex, sF, hsF, hC, hfin⟩ := hall
        obtain ⟨f1, f2, f3, rfl, ns, hre, rfl, rfl⟩ := finishL_inv hfin
        obtain ⟨m, hm⟩ := hC.wps
        refine ⟨m, fun ω θ Im w a Q hsize hargs hH hfr hMk hpost => ?_⟩
        have hmF : sF.m = H.length := hC.later.m
        have hsF2 : sF.size = e.size := hC.size
        have sim0 : Sim P (fun t => a.tmps.getD t undef) none (loopSt sp e args H) a w Im θ := by
          refine ⟨hs0, ⟨hsize, fun t ht => ?_, hs0.out, by rw [hhp]; exact hMk, by rw [hhp]; exact hH.om (fun x c hx => noOpqH_at c10 hx)⟩, ?_, .inl ⟨rfl, rfl⟩⟩
          · rcases htm t with g | ⟨g, g2⟩ | ⟨i, g, v, g2, g3⟩
            · rw [g]; exact .junk
            · rw [g2]; exact .opq
            · rw [g3]
              exact (hargs.at_ i v _ g2 (by simp [g])).om (noOpqL_at c9 g2)
          · intro x hx
            have hx' : H.length ≤ x := hx
            refine ⟨hfr x hx', ?_⟩
            rw [hhp]
            cases hg : H.get x with
            | none => rfl
            | some c => have := canon_lt c1 hg; omega
        refine hm (fun t => a.tmps.getD t undef) none Q a w Im θ sim0 (fun a' w' Im' θ' sim' hE hN => ?_)
        have hsame : ∀ x, x < H.length → sF.hp.get x = H.get x ∨ x ∈ sF.dirty := by
          intro x hx
          have := hC.later.same x hx
          rwa [hhp] at this
        have hdl : ∀ x ∈ sF.dirty, x < H.length := by
          intro x hx
          rcases hC.later.low x hx with h | h
          · cases h
          · exact h
        have hext : Ext (fun x => H.length ≤ x) H.get w Im θ sF.hp.get w' Im' θ' := by
          rw [← hhp]; exact hE
        have hz : VRel P (fun t => a.tmps.getD t undef) w' Im' θ' (.tup (.int .i64 (codeEx ex) :: e.outs.map sF.tmp)) (.tuple (.int .i64 (codeEx ex) :: (e.outs.map fun t => a'.tmps.getD t undef)).toArray) := by
          have hl := lrel_map (P := P) (ω := fun t => a.tmps.getD t undef) (w := w') (Im := Im') (θ := θ') (f := sF.tmp) (g := fun t => a'.tmps.getD t undef) (l := e.outs) (fun t ht => sim'.sf.tm t (by rw [hsF2]; exact houts t ht))
          refine .tup (by simp) (fun i v u hv hu => ?_)
          cases i with
          | zero => simp at hv hu; subst hv; subst hu; exact .int
          | succ i => exact hl.at_ i v u (by simpa using hv) (by simpa using hu)
        obtain ⟨θ3, g1, g2, g3, g4⟩ := finish_gen c1 c2 hfr hmF hsame hdl hre sim'.sf.hp hext hz
        rw [← hmF] at g1 g2 g3 g4
        have g2' : LRel P (fun t => a.tmps.getD t undef) w' Im' θ3 (renL (outName ns sF.m) (e.outs.map sF.tmp)) (e.outs.map fun t => a'.tmps.getD t undef) := by
          simp only [renS, renL] at g2
          cases g2 with
          | tup p1 p2 => exact ⟨by rw [renL_eq]; simp, fun i v u hv hu => p2 (i + 1) v u (by simpa using hv) (by simpa using hu)⟩
        rw [← hmF] at hpost
        have := hpost a' w' Im' θ3 (by rw [sim'.sf.size]; exact hsF2) g1 (g2'.om (by rw [noOpqL_ren]; exact f2)) (g3.om (noOpqU_at f3 (fun x c hx => noOpqH_at c10 hx))) (fun t ht => ?_) ?_ hN
        · rw [exOf_code] at this; exact this
        · have h1 := sim'.sf.tm t (by rw [hsF2]; exact hkeep t ht)
          rw [f1 t ht] at h1
          generalize a'.tmps.getD t undef = z at h1
          cases h1
          rfl
        · obtain ⟨rs, m1, m2, m3⟩ := sim'.sf.df
          refine ⟨rs, m1, m2, fun r hr => ⟨(m3 r hr).1, (m3 r hr).2.1, fun y c N hy hb => ?_⟩⟩
          obtain ⟨x, c0, hx, hxb⟩ := g4 y c r N hy hb
          exact (m3 r hr).2.2 x c0 N hx hxb
  intro args H k c0 outs ups hrun hcanon hol hal
  refine key (μ args H + 1) args H k c0 outs ups ?_ hcanon hol hal
  have : Nat.blt (μ args H) (μ args H + 1) = true := by rw [Nat.blt_eq]; omega
  simp only [boundT, crun, this, if_true]
  exact hrun
end Go.Am
