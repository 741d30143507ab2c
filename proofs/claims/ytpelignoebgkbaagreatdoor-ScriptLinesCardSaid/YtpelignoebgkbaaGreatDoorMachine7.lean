/- The abstract machine: loops, by what is known of them. -/
import Derived.Test.YtpelignoebgkbaaGreatDoorMachine6
import Derived.RecoverIn
set_option linter.unusedVariables false
set_option linter.unusedSimpArgs false
namespace Go.Am
variable {P : Program} {ω : Nat → Value}
def ValidL (P : Program) (e : LEnt) : Prop :=
 ∀ (args : List SV) (H : HpL) (k : IntKind) (c : Int) (outs : List SV) (ups : List (Nat × Option Chunk)), crun (e.s args H) = some (.tup (.int k c :: outs), ups) → Canon H → outs.length = e.outs.length → args.length = e.ins.length →
  ∃ m, ∀ (ω : Nat → Value) (θ : Th) (Im : Nat → Prop) (w : World) (a : Act) (Q : Exit → Act → World → Prop), a.tmps.size = e.size → LRel P ω w Im θ args (e.ins.map fun t => a.tmps.getD t undef) → HRel P ω w Im θ H.get →
   (∀ x, H.length ≤ x → θ x = none) → Mk w Im θ H.get a.defers →
   (∀ a' w' Im' θ', a'.tmps.size = e.size → Ext (fun x => H.length ≤ x) H.get w Im θ (updF ups H.get) w' Im' θ' → LRel P ω w' Im' θ' outs (e.outs.map fun t => a'.tmps.getD t undef) → HRel P ω w' Im' θ' (updF ups H.get) →
    (∀ t ∈ e.keep, a'.tmps.getD t undef = a.tmps.getD t undef) → Mk w' Im' θ' (updF ups H.get) a'.defers → New a a' w → Q (exitOf (exOf c)) a' w') →
   Code.roundsIn (FR none) 0 P e.code Q m a w
theorem keepT_get : ∀ (l : List Nat) (s : St) (t : Tr SV) (j : Nat), (∀ x ∈ l, x < 16000) → (keepT l s t).get j = if j ∈ l then some (s.tmp j) else t.get j
 | [], s, t, j, _ => by simp [keepT]
 | x :: l, s, t, j, h => by
  simp only [keepT]
  rw [keepT_get l s _ j (fun y hy => h y (by simp [hy]))]
  rw [Tr.get_set 14 t x _ j (by have := h x (by simp); omega)]
  by_cases h1 : j ∈ l
  · simp [h1]
  · by_cases h2 : j = x
    · subst h2; simp [h1]
    · simp [h1, h2]
theorem keepI_get : ∀ (l : List Nat) (t : Tr SV) (j : Nat), (∀ x ∈ l, x < 16000) → (keepI l t).get j = if j ∈ l then some (.opq j) else t.get j
 | [], t, j, _ => by simp [keepI]
 | x :: l, t, j, h => by
  simp only [keepI]
  rw [keepI_get l _ j (fun y hy => h y (by simp [hy]))]
  rw [Tr.get_set 14 t x _ j (by have := h x (by simp); omega)]
  by_cases h1 : j ∈ l
  · simp [h1]
  · by_cases h2 : j = x
    · subst h2; simp [h1]
    · simp [h1, h2]
theorem setPs_at : ∀ (l : List Nat) (vs : List SV) (t : Tr SV) (j : Nat), (∀ x ∈ l, x < 16000) → ((setPs l vs t).get j = t.get j ∧ (j ∉ l ∨ l.length ≠ vs.length)) ∨ ∃ i : Nat, l[i]? = some j ∧ ∃ v, vs[i]? = some v ∧ (setPs l vs t).get j = some v
 | [], vs, t, j, _ => by left; cases vs <;> exact ⟨rfl, .inl (by simp)⟩
 | x :: l, [], t, j, _ => .inl ⟨rfl, .inr (by simp)⟩
 | x :: l, v :: vs, t, j, h => by
  simp only [setPs]
  rcases setPs_at l vs (t.set 14 x (some v)) j (fun y hy => h y (by simp [hy])) with ⟨h1, h2⟩ | ⟨i, h1, v', h2, h3⟩
  · rw [h1, Tr.get_set 14 t x _ j (by have := h x (by simp); omega)]
    by_cases h4 : j = x
    · subst h4
      exact .inr ⟨0, rfl, v, rfl, by simp⟩
    · rw [if_neg h4]
      refine .inl ⟨rfl, ?_⟩
      rcases h2 with h2 | h2
      · exact .inl (by simp [h4, h2])
      · exact .inr (by simpa using h2)
  · exact .inr ⟨i + 1, by simpa using h1, v', by simpa using h2, h3⟩
theorem lrel_map {w : World} {Im : Nat → Prop} {θ : Th} {f : Nat → SV} {g : Nat → Value} : ∀ {l : List Nat}, (∀ t ∈ l, VRel P ω w Im θ (f t) (g t)) → LRel P ω w Im θ (l.map f) (l.map g) := by
 intro l hl
 refine ⟨by simp, fun i v u hv hu => ?_⟩
 simp only [List.getElem?_map, Option.map_eq_some_iff] at hv hu
 obtain ⟨t, ht, rfl⟩ := hv
 obtain ⟨t', ht', rfl⟩ := hu
 rw [ht] at ht'
 cases ht'
 exact hl t (List.mem_of_getElem? ht)
section
variable {R D : Type} {fl : R} {den : R → Option D} (hfl : den fl = none)
include hfl
theorem loopK_run {e : LEnt} (hv : ValidL P e) {s : St} {k : Ex → St → R} {d : D} (hs : StOk s) (h : den (loopK fl e s k) = some d) : ∃ ex s2, StOk s2 ∧ Comes P (.loop e.code) s ex s2 ∧ den (k ex s2) = some d := by
 unfold loopK at h
 cases hrd : s.rd with
 | some y => rw [hrd] at h; exact (fl_no hfl h).elim
 | none =>
  rw [hrd] at h
  simp only [] at h
  cases hb : Nat.beq s.size e.size && lowB s.size e.ins && lowB s.size e.outs && lowB s.size e.keep with
  | false => rw [hb] at h; exact (fl_no hfl h).elim
  | true =>
   rw [hb] at h
   simp only [cond_true] at h
   simp only [Bool.and_eq_true] at hb
   obtain ⟨⟨⟨b1, b2⟩, b3⟩, b4⟩ := hb
   have hsz : s.size = e.size := Nat.eq_of_beq_eq_true b1
   have hins := lowB_spec _ b2
   have houts := lowB_spec _ b3
   have hkeep := lowB_spec _ b4
   have hsmall := hs.size
   obtain ⟨r, ups, nx, rs', hm, h2⟩ := interp_run hfl _ _ h
   cases hbn : Nat.blt nx 1000000 with
   | false => rw [hbn] at h2; exact (fl_no hfl h2).elim
   | true =>
    rw [hbn] at h2
    simp only [cond_true] at h2
    have hnx : nx < 1000000 := by rw [Nat.blt_eq] at hbn; exact hbn
    split at h2
    case h_2 => exact (fl_no hfl h2).elim
    rename_i kk c outs
    cases hbl : Nat.beq outs.length e.outs.length with
    | false => rw [hbl] at h2; exact (fl_no hfl h2).elim
    | true =>
     rw [hbl] at h2
     simp only [cond_true] at h2
     have hol : outs.length = e.outs.length := Nat.eq_of_beq_eq_true hbl
     obtain ⟨hle, hkeys⟩ := callS_wf hm
     have hk : ∀ p ∈ ups, p.1 < nx := by
      intro p hp
      rcases hkeys p hp with h3 | h3
      · obtain ⟨c, hc⟩ := mrun_reads _ _ hm p.1 h3
        have := hs.dom _ c hc; omega
      · exact h3.2
     have hk2 : ∀ p ∈ ups, p.1 < 1000000 := fun p hp => by have := hk p hp; omega
     have ou := upd_ok hs hle hnx hk
     have hhp : (s.upd ups nx).hp.get = updF ups s.hp.get := upsTr_get _ _ hk2
     -- the temporaries behind the loop
     have htm : ∀ j, ((afterL e outs ups nx s).tmp j = .junk) ∨ (j ∈ e.keep ∧ (afterL e outs ups nx s).tmp j = s.tmp j) ∨ ∃ i : Nat, e.outs[i]? = some j ∧ ∃ v, outs[i]? = some v ∧ (afterL e outs ups nx s).tmp j = v := by
      intro j
      have hk16 : ∀ x ∈ e.keep, x < 16000 := fun x hx => by have := hkeep x hx; omega
      have ho16 : ∀ x ∈ e.outs, x < 16000 := fun x hx => by have := houts x hx; omega
      have he : (afterL e outs ups nx s).tmp j = match (setPs e.outs outs (keepT e.keep s .lf)).get j with
       | some v => v
       | none => .junk := rfl
      rcases setPs_at e.outs outs (keepT e.keep s .lf) j ho16 with ⟨g1, -⟩ | ⟨i, g1, v, g2, g3⟩
      · rw [he, g1, keepT_get _ _ _ _ hk16]
        by_cases hj : j ∈ e.keep
        · simp [hj]
        · simp [hj, Tr.get_lf]
      · exact .inr (.inr ⟨i, g1, v, g2, by rw [he, g3]⟩)
     have hok : StOk (afterL e outs ups nx s) := by
      refine ⟨hs.size, ou.nx, fun t ht => ?_, ou.dom, ou.m⟩
      have ht' : s.size ≤ t := ht
      rcases htm t with g | ⟨g, _⟩ | ⟨i, g, _⟩
      · exact g
      · have := hkeep t g; omega
      · have := houts t (List.mem_of_getElem? g); omega
     obtain ⟨args', H, v, u, back, q1, q2, q3, q4, hsem⟩ := enter_gen (P := P) hm
     -- the loop's own names
     have hvf : ∃ outsL, v = .tup (.int kk c :: outsL) ∧ outs = renL back outsL := by
      cases v <;> simp only [renS] at q4 <;> try (cases q4; done)
      rename_i vs
      cases vs with
      | nil => simp [renL] at q4
      | cons x vs =>
       simp only [renL, SV.tup.injEq, List.cons.injEq] at q4
       obtain ⟨h3, h4⟩ := q4
       cases x <;> simp only [renS] at h3 <;> try (cases h3; done)
       cases h3
       exact ⟨vs, rfl, h4⟩
     obtain ⟨outsL, rfl, rfl⟩ := hvf
     have holL : outsL.length = e.outs.length := by rw [renL_eq] at hol; simpa using hol
     obtain ⟨m, hmv⟩ := hv args' H kk c outsL u q1 q2 holL (by rw [q3]; simp)
     refine ⟨exOf c, afterL e (renL back outsL) ups nx s, hok, ⟨⟨rfl, hle, (upd_later hle hk2).same, (upd_later hle hk2).up, (upd_later hle hk2).low⟩, rfl, rfl, m, ?_⟩, h2⟩
     intro ω ρ Q a w Im θ sim hA
     have hρ : ρ = none := by
      rcases sim.rd with ⟨_, g⟩ | ⟨y, b, N, g, _⟩
      · exact g
      · rw [hrd] at g; cases g
     subst hρ
     show Code.roundsIn (FR none) 0 P e.code Q m a w
     have hargs : LRel P ω w Im θ (e.ins.map s.tmp) (e.ins.map fun t => a.tmps.getD t undef) := lrel_map (fun t ht => sim.sf.tm t (hins t ht))
     obtain ⟨θL, l1, l2, l3, l4, l5⟩ := hsem sim.sf.hp hargs (fun x h1 _ => sim.fr x h1)
     obtain ⟨rs0, base0, d1, db, d2, d3⟩ := sim.sf.df
     have hMkL : Mk w Im θL H.get a.defers := ⟨rs0, base0, d1, db, d2, fun r hr => ⟨(d3 r hr).1, (d3 r hr).2.1, fun y c N hy hb => by
      obtain ⟨x, c0, hx, hxb⟩ := l4 y c r N hy hb
      exact (d3 r hr).2.2 x c0 N hx hxb⟩⟩
     refine hmv ω θL Im w a Q (by rw [sim.sf.size, hsz]) l1 l2 l3 hMkL (fun a' w' Im' θL' e1 e2 e3 e4 e5 e6 e7 => ?_)
     -- back
     have hz : VRel P ω w' Im' θL' (.tup (.int kk c :: outsL)) (.tuple (.int kk c :: (e.outs.map fun t => a'.tmps.getD t undef)).toArray) := by
      refine .tup (by simpa using e3.len) (fun i v u hv hu => ?_)
      cases i with
      | zero => simp at hv hu; subst hv; subst hu; exact .int
      | succ i => exact e3.at_ i v u (by simpa using hv) (by simpa using hu)
     obtain ⟨θ', f1, f2, f3, f4, f5⟩ := l5 _ w' θL' Im' e2 hz e4
     have hE' : Ext (fun x => s.nx ≤ x) s.hp.get w Im θ (updF ups s.hp.get) w' Im' θ' := f1.mono (fun x hx => hx.1)
     have hval : ∀ t, VRel P ω w Im θ (s.tmp t) (a.tmps.getD t undef) → VRel P ω w' Im' θ' (s.tmp t) (a.tmps.getD t undef) := fun t ht => hE'.val sim.sf.hp ht
     refine hA a' w' Im' θ' ⟨hok, ⟨by rw [e1]; exact hsz.symm, fun t ht => ?_, hok.out, ?_, ?_⟩, ?_, .inl ⟨hrd, rfl⟩⟩ ?_ e7
     · have ht' : t < s.size := ht
       rcases htm t with g | ⟨g, g2⟩ | ⟨i, g, v, g2, g3⟩
       · rw [g]; exact .junk
       · rw [g2, e5 t g]; exact hval t (sim.sf.tm t ht')
       · rw [g3]
         have f2' : LRel P ω w' Im' θ' (.int kk c :: renL back outsL) (.int kk c :: (e.outs.map fun t => a'.tmps.getD t undef)) := by
          cases f2 with
          | tup p1 p2 => exact ⟨by simpa using p1, fun i v u hv hu => p2 i v u hv (by simpa using hu)⟩
         exact f2'.at_ (i + 1) v _ (by simpa using g2) (by simp [g])
     · -- marks
       show Mk w' Im' θ' ((s.upd ups nx).hp.get) a'.defers
       rw [hhp]
       obtain ⟨rs1, base1, m1, mb, m2, m3⟩ := e6
       obtain ⟨rs2, n1, n2⟩ := e7
       refine ⟨rs1, base1, m1, mb, m2, fun r hr => ⟨(m3 r hr).1, (m3 r hr).2.1, fun x c N hx hb => ?_⟩⟩
       rcases f4 x c r N hx hb with ⟨y, c0, hy, hyb⟩ | ⟨c0, hx0, hxb⟩
       · exact (m3 r hr).2.2 y c0 N hy hyb
       · have hr2 : r ∈ rs2 ∨ r ∈ rs0 := by
           have : rs1 = rs2 ++ rs0 := mark_inj2 mb db (by
            have h5 : a'.defers = rs1.map mark ++ base1 := m1
            have h6 : a.defers = rs0.map mark ++ base0 := d1
            rw [List.map_append, List.append_assoc, ← h5, n1, h6])
           rw [this] at hr
           exact List.mem_append.1 hr
         rcases hr2 with h3 | h3
         · have h4 := n2 r h3
           have := (sim.sf.hp.own x c0 r N hx0 hxb).2
           omega
         · exact (d3 r h3).2.2 x c0 N hx0 hxb
     · show HRel P ω w' Im' θ' ((s.upd ups nx).hp.get)
       rw [hhp]; exact f3
     · show Fr nx θ' ((s.upd ups nx).hp.get)
       rw [hhp]
       exact sim.fr.step hle hkeys (mrun_reads _ _ hm) f1
     · show Ext (fun x => s.nx ≤ x) s.hp.get w Im θ ((s.upd ups nx).hp.get) w' Im' θ'
       rw [hhp]; exact hE'
end
end Go.Am
/- The abstract machine: loops, round by round. -/
namespace Go.Am
variable {P : Program} {ω : Nat → Value}
def RcrOkL {R D : Type} (P : Program) (T : LTab) (den : R → Option D) (rec : Rcr R) : Prop :=
 ∀ (c : Code) (s : St) (k : Ex → St → R) (d : D), StOk s → den (rec c s k) = some d → ∃ e s2, StOk s2 ∧ Comes P (fillC T c) s e s2 ∧ den (k e s2) = some d
def LOk (P : Program) (T : LTab) : Prop := ∀ w e, T w = some e → ValidL P e
section
variable {R D : Type} {fl : R} {den : R → Option D} (hfl : den fl = none) {T : LTab} {recL rec : Rcr R} (hrecL : RcrOkL P T den recL) (hrec : RcrOk P den rec) {κ : Nat → Option CSumm} {ι : Nat → Bool} (hκ : KOk P κ)
include hfl hrecL hrec hκ
theorem execCL_ok (hmix : P.follows .mixedOrders = true) (hT : LOk P T) : RcrOkL P T den (execCL fl P κ ι T recL rec) := by
 intro c
 induction c with
 | skip => intro s k d hs h; exact ⟨.normal, s, hs, comes_self (fun ρ Q a w hq => wpIn_skip hq), h⟩
 | region id ops draw =>
  intro s k d hs h
  obtain ⟨s', hs', hc, h1⟩ := region_run hfl hrec hκ (id := id) hmix hs h
  exact ⟨.normal, s', hs', hc, h1⟩
 | seq x y ihx ihy =>
  intro s k d hs h
  simp only [execCL] at h
  obtain ⟨e, s1, hs1, hc1, h1⟩ := ihx s _ d hs h
  cases e with
  | normal =>
   simp only [] at h1
   obtain ⟨e2, s2, hs2, hc2, h2⟩ := ihy s1 k d hs1 h1
   refine ⟨e2, s2, hs2, ⟨hc1.later.trans hc2.later, by rw [hc2.size, hc1.size], by rw [hc2.rd, hc1.rd], 0, fun ω ρ Q a w Im θ sim hA => ?_⟩, h2⟩
   refine wpIn_seq (hc1.wp ρ _ a w Im θ sim (fun a' w' Im' θ' sim' hE hN => ?_))
   exact hc2.wp ρ Q a' w' Im' θ' sim' (After.trans hc1.later hE hN hA)
  | exit id =>
   exact ⟨.exit id, s1, hs1, ⟨hc1.later, hc1.size, hc1.rd, 0, fun ω ρ Q a w Im θ sim hA => wpIn_seq (hc1.wp ρ _ a w Im θ sim (fun a' w' Im' θ' sim' hE hN => hA a' w' Im' θ' sim' hE hN))⟩, h1⟩
  | ret =>
   exact ⟨.ret, s1, hs1, ⟨hc1.later, hc1.size, hc1.rd, 0, fun ω ρ Q a w Im θ sim hA => wpIn_seq (hc1.wp ρ _ a w Im θ sim (fun a' w' Im' θ' sim' hE hN => hA a' w' Im' θ' sim' hE hN))⟩, h1⟩
 | cond c x y ihx ihy =>
  intro s k d hs h
  simp only [execCL] at h
  split at h
  · rename_i b hb
    have hev : ∀ {ω : Nat → Value} {ρ : Option Nat} {a : Act} {w : World} {Im : Nat → Prop} {θ : Th}, Sim P ω ρ s a w Im θ → a.eval c = .bool b := by
     intro ω ρ a w Im θ sim
     have := sim.sf.eval c
     rw [← evT_ev, hb] at this
     generalize a.eval c = u at this
     cases this
     rfl
    cases b with
    | true =>
     obtain ⟨e, s1, hs1, hc1, h1⟩ := ihx s k d hs h
     exact ⟨e, s1, hs1, ⟨hc1.later, hc1.size, hc1.rd, 0, fun ω ρ Q a w Im θ sim hA => wpIn_cond_true (hev sim) (hc1.wp ρ Q a w Im θ sim hA)⟩, h1⟩
    | false =>
     obtain ⟨e, s1, hs1, hc1, h1⟩ := ihy s k d hs h
     exact ⟨e, s1, hs1, ⟨hc1.later, hc1.size, hc1.rd, 0, fun ω ρ Q a w Im θ sim hA => wpIn_cond_false (hev sim) (hc1.wp ρ Q a w Im θ sim hA)⟩, h1⟩
  · exact (fl_no hfl h).elim
 | block id c ih =>
  intro s k d hs h
  simp only [execCL] at h
  obtain ⟨e, s1, hs1, hc1, h1⟩ := ih s _ d hs h
  cases e with
  | normal => exact ⟨.normal, s1, hs1, ⟨hc1.later, hc1.size, hc1.rd, 0, fun ω ρ Q a w Im θ sim hA => wpIn_block (hc1.wp ρ _ a w Im θ sim hA)⟩, h1⟩
  | ret => exact ⟨.ret, s1, hs1, ⟨hc1.later, hc1.size, hc1.rd, 0, fun ω ρ Q a w Im θ sim hA => wpIn_block (hc1.wp ρ _ a w Im θ sim hA)⟩, h1⟩
  | exit j =>
   simp only [] at h1
   cases hj : Nat.beq j id with
   | true =>
    rw [hj] at h1
    have hji : j = id := Nat.eq_of_beq_eq_true hj
    subst hji
    refine ⟨.normal, s1, hs1, ⟨hc1.later, hc1.size, hc1.rd, 0, fun ω ρ Q a w Im θ sim hA => wpIn_block (hc1.wp ρ _ a w Im θ sim (fun a' w' Im' θ' sim' hE hN => ?_))⟩, h1⟩
    simp only [exitOf, Exit.inBlock, if_true]
    exact hA a' w' Im' θ' sim' hE hN
   | false =>
    rw [hj] at h1
    have hji : ¬ j = id := fun e => by rw [nb_t e] at hj; cases hj
    refine ⟨.exit j, s1, hs1, ⟨hc1.later, hc1.size, hc1.rd, 0, fun ω ρ Q a w Im θ sim hA => wpIn_block (hc1.wp ρ _ a w Im θ sim (fun a' w' Im' θ' sim' hE hN => ?_))⟩, h1⟩
    simp only [exitOf, Exit.inBlock, if_neg hji]
    exact hA a' w' Im' θ' sim' hE hN
 | loop c ih =>
  intro s k d hs h
  simp only [execCL] at h
  obtain ⟨e, s1, hs1, hc1, h1⟩ := ih s _ d hs h
  cases e with
  | normal =>
   simp only [] at h1
   obtain ⟨e2, s2, hs2, hc2, h2⟩ := hrecL (.loop c) s1 k d hs1 h1
   obtain ⟨m, hm⟩ := hc2.wps
   refine ⟨e2, s2, hs2, ⟨hc1.later.trans hc2.later, by rw [hc2.size, hc1.size], by rw [hc2.rd, hc1.rd], m + 1, fun ω ρ Q a w Im θ sim hA => ?_⟩, h2⟩
   show Code.roundsIn (FR ρ) 0 P (fillC T c) Q (m + 1) a w
   rw [roundsIn_succ]
   refine hc1.wp ρ _ a w Im θ sim (fun a' w' Im' θ' sim' hE hN => ?_)
   exact hm ω ρ Q a' w' Im' θ' sim' (After.trans hc1.later hE hN hA)
  | exit id =>
   refine ⟨.exit id, s1, hs1, ⟨hc1.later, hc1.size, hc1.rd, 1, fun ω ρ Q a w Im θ sim hA => ?_⟩, h1⟩
   show Code.roundsIn (FR ρ) 0 P (fillC T c) Q 1 a w
   rw [roundsIn_succ]
   exact hc1.wp ρ _ a w Im θ sim (fun a' w' Im' θ' sim' hE hN => hA a' w' Im' θ' sim' hE hN)
  | ret =>
   refine ⟨.ret, s1, hs1, ⟨hc1.later, hc1.size, hc1.rd, 1, fun ω ρ Q a w Im θ sim hA => ?_⟩, h1⟩
   show Code.roundsIn (FR ρ) 0 P (fillC T c) Q 1 a w
   rw [roundsIn_succ]
   exact hc1.wp ρ _ a w Im θ sim (fun a' w' Im' θ' sim' hE hN => hA a' w' Im' θ' sim' hE hN)
 | exit id => intro s k d hs h; exact ⟨.exit id, s, hs, comes_self (fun ρ Q a w hq => wpIn_exit hq), h⟩
 | label l => intro s k d hs h; exact ⟨.normal, s, hs, comes_self (fun ρ Q a w hq => wpIn_label hq), h⟩
 | ret => intro s k d hs h; exact ⟨.ret, s, hs, comes_self (fun ρ Q a w hq => wpIn_ret hq), h⟩
 | rangeFunc f ps x y _ _ =>
  intro s k d hs h
  exact execC_ok hfl hrec hκ hmix _ s k d hs h
 | scope c ih =>
  intro s k d hs h
  simp only [execCL] at h
  obtain ⟨e, s1, hs1, hc1, h1⟩ := ih s k d hs h
  exact ⟨e, s1, hs1, ⟨hc1.later, hc1.size, hc1.rd, 0, fun ω ρ Q a w Im θ sim hA => wpIn_scope_straight (hc1.wp ρ _ a w Im θ sim (fun a' w' Im' θ' sim' hE hN => by
   cases e <;> exact hA a' w' Im' θ' sim' hE hN))⟩, h1⟩
 | goto l => intro s k d hs h; exact (fl_no hfl h).elim
 | refuse w =>
  intro s k d hs h
  simp only [execCL] at h
  cases hw : T w with
  | none => rw [hw] at h; exact (fl_no hfl h).elim
  | some e =>
   rw [hw] at h
   have hf : fillC T (.refuse w) = .loop e.code := by simp only [fillC, hw]
   rw [hf]
   exact loopK_run hfl (hT w e hw) hs h
end
theorem execL_ok {R D : Type} {fl : R} {den : R → Option D} (hfl : den fl = none) {T : LTab} {κ : Nat → Option CSumm} {ι : Nat → Bool} (hκ : KOk P κ) (hmix : P.follows .mixedOrders = true) (hT : LOk P T) : ∀ n, RcrOkL P T den (execL fl P κ ι T n)
 | 0 => fun c s k d hs h => (fl_no hfl h).elim
 | n + 1 => execCL_ok hfl (execL_ok hfl hκ hmix hT n) (exec_ok hfl hκ hmix n) hκ hmix hT
theorem exOf_code (e : Ex) : exOf (codeEx e) = e := by cases e <;> rfl
mutual
theorem noOpq_ren (f : Nat → Nat) : ∀ (v : SV), noOpq (renS f v) = noOpq v
 | .fn g a b => by simp only [renS, noOpq, noOpqL_ren f a, noOpqL_ren f b]
 | .iface t v => by simp only [renS, noOpq, noOpq_ren f v]
 | .agg cs => by simp only [renS, noOpq, noOpqL_ren f cs]
 | .tup vs => by simp only [renS, noOpq, noOpqL_ren f vs]
 | .junk | .pnn _ _ | .opq _ | .bool _ | .int _ _ | .str _ | .ptr _ _ | .nilp | .pel _ _ | .sl _ _ _ _ | .nils | .psl _ _ | .emp | .qs _ _ _ _ | .qp _ _ _ _ | .mp _ | .nilm | .yl _ | .nilf | .nili | .gp _ _ => rfl
theorem noOpqL_ren (f : Nat → Nat) : ∀ (vs : List SV), noOpqL (renL f vs) = noOpqL vs
 | [] => rfl
 | v :: vs => by simp only [renL, noOpqL, noOpq_ren f v, noOpqL_ren f vs]
end
theorem LRel.om {ω' : Nat → Value} {w : World} {Im : Nat → Prop} {θ : Th} {vs : List SV} {us : List Value} (h : LRel P ω w Im θ vs us) (hn : noOpqL vs = true) : LRel P ω' w Im θ vs us :=
 ⟨h.len, fun i v u hv hu => (h.at_ i v u hv hu).om (noOpqL_at hn hv)⟩
theorem noOpq_keysB (kd : IntKind) : ∀ kvs : List (Int × Bool), noOpqL (keysB kd kvs) = true
 | [] => rfl
 | _ :: l => noOpq_keysB kd l
theorem noOpq_valsB : ∀ kvs : List (Int × Bool), noOpqL (valsB kvs) = true
 | [] => rfl
 | _ :: l => noOpq_valsB l
theorem CRel.om {ω' : Nat → Value} {w : World} {Im : Nat → Prop} {θ : Th} {x : Nat} {c : Chunk} (h : CRel P ω w Im θ x c) (hn : noOpqC c = true) : CRel P ω' w Im θ x c := by
 cases c with
 | cells T vs =>
  obtain ⟨b, cs, fr, h1, h2, h3, h4⟩ := h
  exact ⟨b, cs, fr, h1, h2, h3, h4.om hn⟩
 | seq e es => exact h
 | loopr st vs ps asg bdy =>
  obtain ⟨b, N, lp, h1, h2, h3, h4, h5, h6, h7⟩ := h
  exact ⟨b, N, lp, h1, h2, h3, h4, h5, h6, h7.om hn⟩
 | mpc ks vs =>
  obtain ⟨b, N, es, cl, h1, h2, h3, h4, h5⟩ := h
  simp only [noOpqC, Bool.and_eq_true] at hn
  exact ⟨b, N, es, cl, h1, h2, h3.om hn.1, h4.om hn.2, h5⟩
 | mpb kd kvs =>
  obtain ⟨b, N, es, cl, h1, h2, h3, h4, h5⟩ := h
  exact ⟨b, N, es, cl, h1, h2, h3.om (noOpq_keysB kd kvs), h4.om (noOpq_valsB kvs), h5⟩
theorem HRel.om {ω' : Nat → Value} {w : World} {Im : Nat → Prop} {θ : Th} {h : HpF} (hr : HRel P ω w Im θ h) (hn : ∀ x c, h x = some c → noOpqC c = true) : HRel P ω' w Im θ h :=
 ⟨fun x c hx => (hr.at_ x c hx).om (hn x c hx), hr.inj, hr.own, hr.im, hr.gl⟩
theorem noOpqH_at : ∀ {H : HpL}, noOpqH H = true → ∀ {x : Nat} {c : Chunk}, H.get x = some c → noOpqC c = true := by
 intro H hn x c hx
 have hm := HpL_get_some H x c hx
 induction H with
 | nil => cases hm
 | cons p H ih =>
  obtain ⟨y, d⟩ := p
  simp only [noOpqH, Bool.and_eq_true] at hn
  rcases List.mem_cons.1 hm with h | h
  · cases h; exact hn.1
  · have : ∀ (l : HpL), noOpqH l = true → ∀ q ∈ l, noOpqC q.2 = true := by
      intro l
      induction l with
      | nil => intro _ q hq; cases hq
      | cons p l ih =>
       obtain ⟨z, e⟩ := p
       intro hl q hq
       simp only [noOpqH, Bool.and_eq_true] at hl
       rcases List.mem_cons.1 hq with rfl | hq
       · exact hl.1
       · exact ih hl.2 q hq
    exact this H hn.2 (x, c) h
theorem noOpqU_at : ∀ {u : List (Nat × Option Chunk)}, noOpqU u = true → ∀ {h : HpF}, (∀ x c, h x = some c → noOpqC c = true) → ∀ x c, updF u h x = some c → noOpqC c = true
 | [], _, h, hh, x, c, hx => hh x c hx
 | (y, some d) :: u, hn, h, hh, x, c, hx => by
  simp only [noOpqU, Bool.and_eq_true] at hn
  simp only [updF] at hx
  refine noOpqU_at hn.2 (fun z e hz => ?_) x c hx
  by_cases hzy : z = y
  · simp only [hzy, if_true] at hz; cases hz; exact hn.1
  · simp only [hzy, if_false] at hz; exact hh z e hz
 | (y, none) :: u, hn, h, hh, x, c, hx => by
  simp only [noOpqU] at hn
  simp only [updF] at hx
  refine noOpqU_at hn (fun z e hz => ?_) x c hx
  by_cases hzy : z = y
  · simp only [hzy, if_true] at hz; cases hz
  · simp only [hzy, if_false] at hz; exact hh z e hz
theorem keepOk_at {s : St} : ∀ {l : List Nat}, keepOk s l = true → ∀ t ∈ l, s.tmp t = .opq t
 | [], _, t, ht => by cases ht
 | x :: l, h, t, ht => by
  simp only [keepOk, Bool.and_eq_true] at h
  rcases List.mem_cons.1 ht with rfl | ht
  · have h1 := h.1
    split at h1
    · rename_i n hn
      rw [hn, Nat.eq_of_beq_eq_true h1]
    · cases h1
  · exact keepOk_at h.2 t ht
theorem finishL_inv {e : LEnt} {ex : Ex} {s : St} {k : IntKind} {c : Int} {outs : List SV} {ups : List (Nat × Option Chunk)} (h : crun (finishL e ex s) = some (.tup (.int k c :: outs), ups)) :
  (∀ t ∈ e.keep, s.tmp t = .opq t) ∧ noOpqL (e.outs.map s.tmp) = true ∧ noOpqU ups = true ∧ c = codeEx ex ∧ ∃ ns, reachNew s.hp s.m 2000 (namesS (.tup (.int .i64 (codeEx ex) :: e.outs.map s.tmp)) ++ dirtyNames s.hp s.dirty) [] = some ns ∧
   outs = renL (outName ns s.m) (e.outs.map s.tmp) ∧ ups = outOld s.hp (outName ns s.m) s.dirty ++ outNew s.hp (outName ns s.m) ns := by
 unfold finishL at h
 cases hb : keepOk s e.keep && noOpqL (e.outs.map s.tmp) with
 | false => rw [hb] at h; simp [crun] at h
 | true =>
  rw [hb] at h
  simp only [cond_true] at h
  simp only [Bool.and_eq_true] at hb
  unfold finishV at h
  cases hre : reachNew s.hp s.m 2000 (namesS (.tup (.int .i64 (codeEx ex) :: e.outs.map s.tmp)) ++ dirtyNames s.hp s.dirty) [] with
  | none => rw [hre] at h; simp [crun] at h
  | some ns =>
   rw [hre] at h
   simp only [] at h
   cases hu : noOpqU (outOld s.hp (outName ns s.m) s.dirty ++ outNew s.hp (outName ns s.m) ns) with
   | false => rw [hu] at h; simp [crun] at h
   | true =>
    rw [hu] at h
    simp only [cond_true, crun, renS, renL, Option.some.injEq, Prod.mk.injEq, SV.tup.injEq, List.cons.injEq, SV.int.injEq] at h
    obtain ⟨⟨⟨_, rfl⟩, rfl⟩, rfl⟩ := h
    exact ⟨keepOk_at hb.1, hb.2, hu, rfl, ns, rfl, rfl, rfl⟩
def boundT (μ : List SV → HpL → Nat) (s : CSumm) (n : Nat) : CSumm := fun args H => .ite (Nat.blt (μ args H) n) (s args H) .fail
end Go.Am
/- The abstract machine: a body with loops that are known. -/
namespace Go.Am
variable {P : Program} {ω : Nat → Value}
theorem bodyL_valid {κ : Nat → Option CSumm} (hκ : KOk P κ) (hmix : P.follows .mixedOrders = true) {T : LTab} (hT : LOk P T) {f : FuncId} {fn : Func} (hf : P.funcs[f]? = some fn) {c : Code} (hb : fn.body = some (fillC T c)) {ι : Nat → Bool} {sp : Bool} {fuel : Nat} : ValidC P f (bodyCL P κ ι T sp fuel fn c) := by
 intro args H v ups hrun _ ω θ Im w us hargs hH hfr
 unfold bodyCL at hrun
 cases hc : canonB H 0 && closedB H.length H && Nat.ble args.length fn.ntmps && Nat.blt fn.ntmps 16000 && Nat.blt H.length 1000000 with
 | false => rw [hc] at hrun; simp [crun] at hrun
 | true =>
  rw [hc] at hrun
  simp only [cond_true] at hrun
  simp only [Bool.and_eq_true] at hc
  obtain ⟨⟨⟨⟨c1, c2⟩, c3⟩, c4⟩, c5⟩ := hc
  have hal : args.length ≤ fn.ntmps := by rwa [Nat.ble_eq] at c3
  have hnt : fn.ntmps < 16000 := by rwa [Nat.blt_eq] at c4
  have hHl : H.length < 1000000 := by rwa [Nat.blt_eq] at c5
  have hhp : (initSt sp fn args H).hp.get = H.get := heapTr_init c1 (by omega)
  have hs0 : StOk { initSt sp fn args H with tm := .lf, size := 0 } := by
   refine ⟨by show 0 < 16000; omega, hHl, fun t _ => rfl, ?_, Nat.le_refl _⟩
   intro x c hx
   have hx' : (initSt sp fn args H).hp.get x = some c := hx
   rw [hhp] at hx'
   exact canon_lt c1 hx'
  have hst : StOk (initSt sp fn args H) := enter_ok hs0 hal hnt
  obtain ⟨e, s2, hs2, hcomes, hfin⟩ := execL_ok (den := crun) rfl hκ hmix hT fuel c _ _ _ hst hrun
  have hm2 : s2.m = H.length := hcomes.later.m
  have he : ∀ id, e ≠ .exit id := by
   rintro id rfl
   simp [crun] at hfin
  have hfin' : crun (finishC P fn s2) = some (v, ups) := by
   cases e with
   | exit id => exact absurd rfl (he id)
   | normal => exact hfin
   | ret => exact hfin
  unfold finishC at hfin'
  cases hrs : resultsS P s2 fn.results.toList with
  | none => rw [hrs] at hfin'; simp [crun] at hfin'
  | some vs =>
   rw [hrs] at hfin'
   simp only [] at hfin'
   cases hre : reachNew s2.hp s2.m 2000 (namesS (oneOrTup vs) ++ dirtyNames s2.hp s2.dirty) [] with
   | none => rw [hre] at hfin'; simp [crun] at hfin'
   | some ns =>
     rw [hre] at hfin'
     simp only [crun, Option.some.injEq, Prod.mk.injEq] at hfin'
     rw [hm2] at hfin'
     obtain ⟨rfl, rfl⟩ := hfin'
     have hfr0 : Fr (initSt sp fn args H).nx θ (initSt sp fn args H).hp.get := by
      intro x hx
      have hx' : H.length ≤ x := hx
      refine ⟨hfr x hx', ?_⟩
      rw [hhp]
      cases hg : H.get x with
      | none => rfl
      | some c => have := canon_lt c1 hg; omega
     have sim0 := enter_sim (P := P) hs0 (args := args) (us := us) hal hnt (w := w) (Im := Im) (θ := θ) (by show HRel P ω w Im θ (initSt sp fn args H).hp.get; rw [hhp]; exact hH) hfr0 hargs
     refine (callsIn_wide (n := 0)).1 (body_calls (ρ := none) hf hb he hcomes sim0 hrs (fun u w' Im' θ' hH2 _ hE hvu => ?_))
     have hsame : ∀ x, x < H.length → s2.hp.get x = H.get x ∨ x ∈ s2.dirty := by
      intro x hx
      have := hcomes.later.same x hx
      rwa [hhp] at this
     have hdl : ∀ x ∈ s2.dirty, x < H.length := by
      intro x hx
      rcases hcomes.later.low x hx with h | h
      · cases h
      · exact h
     have hext : Ext (fun x => H.length ≤ x) H.get w Im θ s2.hp.get w' Im' θ' := by
      rw [← hhp]; exact hE
     obtain ⟨θ3, g1, g2, g3, -⟩ := finish_gen c1 c2 hfr hm2 hsame hdl hre hH2 hext hvu
     exact ⟨u, θ3, Im', rfl, g1, g2, g3⟩
def ltab : List (String × LEnt) → LTab
 | [], _ => none
 | (w, e) :: l, x => if w = x then some e else ltab l x
theorem ltab_nil : LOk P (ltab []) := fun w e h => by cases h
theorem ltab_cons {w : String} {e : LEnt} {l : List (String × LEnt)} (h : ValidL P e) (hl : LOk P (ltab l)) : LOk P (ltab ((w, e) :: l)) := by
 intro x e' hx
 simp only [ltab] at hx
 split at hx
 · cases hx; exact h
 · exact hl x e' hx
end Go.Am
/- The abstract machine: summaries that name a block anew, or that are told of nil lists as lists that have grown to nothing. -/
namespace Go.Am
variable {P : Program}
def sw (k nw x : Nat) : Nat := bif Nat.beq x k then nw else x
theorem sw_k {k nw : Nat} : sw k nw k = nw := by simp [sw]
theorem sw_o {k nw x : Nat} (h : x ≠ k) : sw k nw x = x := by simp [sw, nb_f h]
theorem ren_post {ω : Nat → Value} {H : HpL} {w w' : World} {Im Im' : Nat → Prop} {θ θ' : Th} {ups ups' : List (Nat × Option Chunk)} {k nw : Nat} (hfr : ∀ x, H.length ≤ x → θ x = none) (hnw : H.length ≤ nw)
  (hc0 : ∀ x c, updF ups H.get x = some c → nw ∉ namesC c)
  (hu : ∀ x, updF ups' H.get x = if x = nw then (updF ups H.get k).map (renC (sw k nw)) else if x = k then none else (updF ups H.get x).map (renC (sw k nw)))
  (hE : Ext (fun x => H.length ≤ x) H.get w Im θ (updF ups H.get) w' Im' θ') (hH' : HRel P ω w' Im' θ' (updF ups H.get)) :
  ∃ θ2 : Th, Ext (fun x => H.length ≤ x) H.get w Im θ (updF ups' H.get) w' Im' θ2 ∧ HRel P ω w' Im' θ2 (updF ups' H.get) ∧ (∀ v u, VRel P ω w' Im' θ' v u → nw ∉ namesS v → VRel P ω w' Im' θ2 (renS (sw k nw) v) u) ∧
   (∀ y c', updF ups' H.get y = some c' → ∃ x c, updF ups H.get x = some c ∧ θ2 y = θ' x) := by
 let θ2 : Th := fun x => if x = nw then θ' k else θ' x
 have t2 : ∀ x, x ≠ nw → θ2 x = θ' x := fun x hx => if_neg hx
 have tn : θ2 nw = θ' k := if_pos rfl
 have hsw : ∀ x, x ≠ nw → ∀ p, θ' x = some p → θ2 (sw k nw x) = some p := by
  intro x hx p hp
  by_cases hxk : x = k
  · subst hxk; rw [sw_k, tn]; exact hp
  · rw [sw_o hxk, t2 x hx]; exact hp
 have src : ∀ y c', updF ups' H.get y = some c' → ∃ x c, updF ups H.get x = some c ∧ c' = renC (sw k nw) c ∧ θ2 y = θ' x ∧ (y = nw ∧ x = k ∨ y ≠ nw ∧ y ≠ k ∧ x = y) := by
  intro y c' hy
  rw [hu y] at hy
  by_cases h1 : y = nw
  · subst h1
    rw [if_pos rfl, Option.map_eq_some_iff] at hy
    obtain ⟨c, h1, h2⟩ := hy
    exact ⟨k, c, h1, h2.symm, tn, .inl ⟨rfl, rfl⟩⟩
  · rw [if_neg h1] at hy
    by_cases h2 : y = k
    · rw [if_pos h2] at hy; cases hy
    · rw [if_neg h2, Option.map_eq_some_iff] at hy
      obtain ⟨c, h3, h4⟩ := hy
      exact ⟨y, c, h3, h4.symm, t2 y h1, .inr ⟨h1, h2, rfl⟩⟩
 refine ⟨θ2, ?_, ?_, ?_, ?_⟩
 · refine { thOld := fun x hx => ?_, thUp := fun x p hp => ?_, imUp := hE.imUp, size := hE.size, keep := hE.keep, os := hE.os, output := hE.output, tape := hE.tape, imNew := hE.imNew, ownNew := fun y c' b N hy hx => ?_ }
   · have : x ≠ nw := by intro e; subst e; exact hx hnw
     rw [t2 x this]; exact hE.thOld x hx
   · have : x ≠ nw := by intro e; subst e; rw [hfr x hnw] at hp; cases hp
     rw [t2 x this]; exact hE.thUp x p hp
   · obtain ⟨x, c, h1, _, h3, _⟩ := src y c' hy
     exact hE.ownNew x c b N h1 (h3 ▸ hx)
 · refine ⟨fun y c' hy => ?_, fun y y' c c' b N N' hy hy' hx hx' => ?_, fun y c b N hy hx => ?_, hH'.im, hH'.gl⟩
   · obtain ⟨x, c, h1, rfl, h3, _⟩ := src y c' hy
     exact (hH'.at_ x c h1).ren (sw k nw) (fun z hz => hsw z (fun e => hc0 x c h1 (e ▸ hz))) h3
   · obtain ⟨x, c1, h1, _, h3, h4⟩ := src y c hy
     obtain ⟨x', c1', h1', _, h3', h4'⟩ := src y' c' hy'
     have := hH'.inj x x' c1 c1' b N N' h1 h1' (h3 ▸ hx) (h3' ▸ hx')
     omega
   · obtain ⟨x, c, h1, _, h3, _⟩ := src y _ hy
     exact hH'.own x c b N h1 (h3 ▸ hx)
 · exact fun v u hv hv0 => hv.ren (sw k nw) (fun x hx => hsw x (fun e => hv0 (e ▸ hx)))
 · intro y c' hy
   obtain ⟨x, c, h1, _, h3, _⟩ := src y c' hy
   exact ⟨x, c, h1, h3⟩
def Renamed (H : HpL) (v : SV) (ups : List (Nat × Option Chunk)) (v' : SV) (ups' : List (Nat × Option Chunk)) : Prop :=
 ∃ k nw, H.length ≤ nw ∧ nw ∉ namesS v ∧ (∀ x c, updF ups H.get x = some c → nw ∉ namesC c) ∧ v' = renS (sw k nw) v ∧
   (∀ x, updF ups' H.get x = if x = nw then (updF ups H.get k).map (renC (sw k nw)) else if x = k then none else (updF ups H.get x).map (renC (sw k nw)))
theorem loop_ren {e : LEnt} {s' : CSumm} (h : ValidL P e) (hs : ∀ args H v' ups', crun (s' args H) = some (v', ups') → (∃ ups, crun (e.s args H) = some (v', ups) ∧ ∀ x, updF ups' H.get x = updF ups H.get x) ∨
  ∃ v ups, crun (e.s args H) = some (v, ups) ∧ Renamed H v ups v' ups') : ValidL P { e with s := s' } := by
 intro args H kk c outs' ups' hr hc ho ha
 rcases hs args H _ ups' hr with ⟨ups, hr', he⟩ | ⟨v, ups, hr', k, nw, hnw, hv0, hc0, hvr, hu⟩
 · have he' : updF ups' H.get = updF ups H.get := funext he
   obtain ⟨m, hm⟩ := h args H kk c outs' ups hr' hc ho ha
   exact ⟨m, fun ω θ Im w a Q hsz hl hH hfr hmk hQ => hm ω θ Im w a Q hsz hl hH hfr hmk (by rw [← he']; exact hQ)⟩
 · obtain ⟨outs, rfl, rfl⟩ : ∃ outs, v = .tup (.int kk c :: outs) ∧ outs' = renL (sw k nw) outs := by
     cases v with
     | tup vs =>
      cases vs with
      | nil => simp [renS, renL] at hvr
      | cons x xs =>
       cases x <;> simp [renS, renL] at hvr
       obtain ⟨⟨rfl, rfl⟩, rfl⟩ := hvr
       exact ⟨xs, rfl, rfl⟩
     | _ => simp [renS] at hvr
   obtain ⟨m, hm⟩ := h args H kk c outs ups hr' hc (by rw [renL_eq] at ho; simpa using ho) ha
   refine ⟨m, fun ω θ Im w a Q hsz hl hH hfr hmk hQ => hm ω θ Im w a Q hsz hl hH hfr hmk ?_⟩
   intro a' w' Im' θ' b1 b2 b3 b4 b5 b6 b7
   obtain ⟨θ2, h1, h2, h3, h4⟩ := ren_post hfr hnw hc0 hu b2 b4
   refine hQ a' w' Im' θ2 b1 h1 ⟨by rw [renL_eq]; simpa using b3.len, fun i v u hv hu' => ?_⟩ h2 b5 ?_ b7
   · rw [renL_eq, List.getElem?_map, Option.map_eq_some_iff] at hv
     obtain ⟨x, hx, rfl⟩ := hv
     refine h3 x u (b3.at_ i x u hx hu') (fun hn => hv0 ?_)
     show nw ∈ namesL (.int kk c :: outs)
     exact List.mem_append.2 (.inr (namesS_mem (List.mem_of_getElem? hx) nw hn))
   · obtain ⟨rs, base, r1, rb, r2, r3⟩ := b6
     refine ⟨rs, base, r1, rb, r2, fun r hrr => ⟨(r3 r hrr).1, (r3 r hrr).2.1, fun y c' N hy ht => ?_⟩⟩
     obtain ⟨x, c, hx, hx2⟩ := h4 y c' hy
     exact (r3 r hrr).2.2 x c N hx (hx2 ▸ ht)
/- What is handed in. -/
def addU (pre : HpL) : CTree → CTree
 | .ret v ups => .ret v (pre.map (fun p => (p.1, some p.2)) ++ ups)
 | .ite b t e => .ite b (addU pre t) (addU pre e)
 | .fail => .fail
def putH : HpL → Nat → Chunk → HpL
 | [], x, c => [(x, c)]
 | p :: H, x, c => bif Nat.beq p.1 x then (x, c) :: H else p :: putH H x c
theorem get_app {x n : Nat} {c : Chunk} : ∀ (H : HpL), H.get n = none → HpL.get (H ++ [(n, c)]) x = if x = n then some c else H.get x
 | [], _ => by
  simp only [List.nil_append, HpL.get]
  by_cases h : x = n
  · subst h; simp
  · rw [nb_f (fun e => h e.symm), if_neg h]; rfl
 | (y, d) :: H, hn => by
  simp only [HpL.get] at hn
  simp only [List.cons_append, HpL.get]
  by_cases hyn : y = n
  · subst hyn; rw [nb_t rfl] at hn; cases hn
  · rw [nb_f hyn] at hn
    rw [get_app H hn]
    by_cases h : y = x
    · subst h; simp only [nb_t rfl, if_neg hyn, cond_true]
    · rw [nb_f h]; rfl
theorem get_put {x y : Nat} {c : Chunk} : ∀ (H : HpL), HpL.get (putH H y c) x = if x = y then some c else H.get x
 | [] => by
  simp only [putH, HpL.get]
  by_cases h : x = y
  · subst h; simp
  · rw [nb_f (fun e => h e.symm), if_neg h]; rfl
 | (z, d) :: H => by
  simp only [putH]
  by_cases hz : z = y
  · subst hz
    rw [nb_t rfl, cond_true]
    simp only [HpL.get]
    by_cases h : z = x
    · subst h; simp
    · rw [nb_f h, if_neg (fun e => h e.symm)]; rfl
  · rw [nb_f hz, cond_false]
    simp only [HpL.get]
    rw [get_put H]
    by_cases h : z = x
    · subst h; simp only [nb_t rfl, if_neg hz, cond_true]
    · rw [nb_f h]; rfl
theorem canon_get {H : HpL} (hc : Canon H) : ∀ x c, H.get x = some c → x < H.length := by
 intro x c hx
 obtain ⟨i, hi⟩ := List.mem_iff_getElem?.1 (HpL_get_some H x c hx)
 have := hc i _ hi
 obtain ⟨hlt, _⟩ := List.getElem?_eq_some_iff.1 hi
 simp at this; omega
theorem canon_next {H : HpL} (hc : Canon H) : H.get H.length = none := by
 cases h : H.get H.length with
 | none => rfl
 | some c => have := canon_get hc _ _ h; omega
structure InOk (P : Program) (args : List SV) (H : HpL) (args2 : List SV) (H2 : HpL) : Prop where
 canon : Canon H2
 len : H.length ≤ H2.length
 al : args2.length = args.length
 back : ∀ x c, H2.get x = some c → (∃ c', H.get x = some c') ∨ H.length ≤ x
 rel : ∀ (ω : Nat → Value) (θ : Th) (w : World) (Im : Nat → Prop) (us : List Value), LRel P ω w Im θ args us → HRel P ω w Im θ H.get → (∀ x, H.length ≤ x → θ x = none) → LRel P ω w Im θ args2 us ∧ HRel P ω w Im θ H2.get
theorem LRel.cons {ω : Nat → Value} {w : World} {Im : Nat → Prop} {θ : Th} {v : SV} {vs : List SV} {u : Value} {us : List Value} (h : VRel P ω w Im θ v u) (hl : LRel P ω w Im θ vs us) : LRel P ω w Im θ (v :: vs) (u :: us) :=
 ⟨by simp [hl.len], fun i v' u' hv hu => by
  cases i with
  | zero => simp at hv hu; subst hv; subst hu; exact h
  | succ i => exact hl.at_ i v' u' (by simpa using hv) (by simpa using hu)⟩
theorem LRel.uncons {ω : Nat → Value} {w : World} {Im : Nat → Prop} {θ : Th} {v : SV} {vs : List SV} {us : List Value} (h : LRel P ω w Im θ (v :: vs) us) : ∃ u us', us = u :: us' ∧ VRel P ω w Im θ v u ∧ LRel P ω w Im θ vs us' := by
 cases us with
 | nil => have := h.len; simp at this
 | cons u us => exact ⟨u, us, rfl, h.at_ 0 v u rfl rfl, ⟨by simpa using h.len, fun i v u hv hu => h.at_ (i + 1) v u (by simpa using hv) (by simpa using hu)⟩⟩
theorem InOk.cons {a a2 : SV} {as as2 : List SV} {H H2 : HpL} (h : InOk P as H as2 H2) (ha : ∀ (ω : Nat → Value) (θ : Th) (w : World) (Im : Nat → Prop) (u : Value), VRel P ω w Im θ a u → VRel P ω w Im θ a2 u) : InOk P (a :: as) H (a2 :: as2) H2 :=
 ⟨h.canon, h.len, by simp [h.al], h.back, fun ω θ w Im us hl hH hf => by
  obtain ⟨u, us', rfl, h1, h2⟩ := hl.uncons
  obtain ⟨h3, h4⟩ := h.rel ω θ w Im us' h2 hH hf
  exact ⟨h3.cons (ha _ _ _ _ _ h1), h4⟩⟩
theorem HRel.fresh {ω : Nat → Value} {w : World} {Im : Nat → Prop} {θ : Th} {H : HpL} (h : HRel P ω w Im θ H.get) {n : Nat} {e : TypeId} (hn : H.get n = none) (ht : θ n = none) : HRel P ω w Im θ (HpL.get (H ++ [(n, .seq e [])])) := by
 refine ⟨fun x c hx => ?_, fun x y c c' b N N' hx hy h1 h2 => ?_, fun x c b N hx h1 => ?_, h.im, h.gl⟩
 · rw [get_app H hn] at hx
   by_cases he : x = n
   · subst he; rw [if_pos rfl] at hx; cases hx; exact .inl ⟨rfl, ht⟩
   · rw [if_neg he] at hx; exact h.at_ x c hx
 · rw [get_app H hn] at hx hy
   have e1 : x ≠ n := fun e => by subst e; rw [ht] at h1; cases h1
   have e2 : y ≠ n := fun e => by subst e; rw [ht] at h2; cases h2
   rw [if_neg e1] at hx
   rw [if_neg e2] at hy
   exact h.inj x y c c' b N N' hx hy h1 h2
 · rw [get_app H hn] at hx
   have e1 : x ≠ n := fun e => by subst e; rw [ht] at h1; cases h1
   rw [if_neg e1] at hx
   exact h.own x c b N hx h1
theorem CRel.bytes {ω : Nat → Value} {w : World} {Im : Nat → Prop} {θ : Th} {x : Nat} {T : TypeId} {cs : List SV} (h : CRel P ω w Im θ x (.cells T cs)) (hb : byteL cs = true) (hu : P.underlying T = some (.int .u8)) (h1 : P.cellsOf T = 1) : CRel P ω w Im θ x (.seq T cs) := by
 obtain ⟨b, us, fr, ht, hw, hf, hl⟩ := h
 have hlen := hl.len
 have hex : ∀ v ∈ cs, expand P T v = v := by
  intro v hv
  obtain ⟨n, rfl⟩ := byteL_at hb v hv
  have ha : isAggT P T = false := by unfold isAggT; rw [hu]
  simp only [expand, ha, cond_false, expandLeaf, hu, asI]
 refine .inr ⟨b, cs.length, us, T, fr, fun i => us.toList.getD i undef, ht, hw, hf, ⟨by simpa using hlen.symm, rfl⟩, by rw [h1]; omega, hex, ?_⟩
 intro i v hi
 have hlt : i < us.size := by
  obtain ⟨hlt, _⟩ := List.getElem?_eq_some_iff.1 hi
  rw [hlen] at hlt; simpa using hlt
 have hui : us.toList[i]? = some (us.toList.getD i undef) := by
  rw [List.getD_eq_getElem?_getD, Array.getElem?_toList, Array.getElem?_eq_getElem hlt]; rfl
 have hv := hl.at_ i v _ hi hui
 obtain ⟨n, rfl⟩ := byteL_at hb v (List.mem_of_getElem? hi)
 show VRel P om0 w Im noTh _ (us.toList.getD i undef) ∧ (us.toList.getD i undef).cells.size = _ ∧ ∀ (d : Nat) (c : Value), (us.toList.getD i undef).cells[d]? = some c → _
 generalize hg : us.toList.getD i undef = u at hv hui ⊢
 cases hv
 refine ⟨.int, by rw [h1]; rfl, fun d c hd => ?_⟩
 rw [h1, Nat.mul_one]
 cases d with
 | zero =>
  simp [Value.cells] at hd; subst hd
  simpa [Array.getElem?_toList] using hui
 | succ d => simp [Value.cells] at hd
theorem HRel.bytes {ω : Nat → Value} {w : World} {Im : Nat → Prop} {θ : Th} {H : HpL} (h : HRel P ω w Im θ H.get) {x : Nat} {T : TypeId} {cs : List SV} (hx : H.get x = some (.cells T cs)) (hb : byteL cs = true) (hu : P.underlying T = some (.int .u8)) (h1 : P.cellsOf T = 1) : HRel P ω w Im θ (HpL.get (putH H x (.seq T cs))) := by
 have up : ∀ y c, HpL.get (putH H x (.seq T cs)) y = some c → ∃ c', H.get y = some c' := by
  intro y c hy
  rw [get_put] at hy
  by_cases he : y = x
  · subst he; exact ⟨_, hx⟩
  · rw [if_neg he] at hy; exact ⟨_, hy⟩
 refine ⟨fun y c hy => ?_, fun y z c c' b N N' hy hz h2 h3 => ?_, fun y c b N hy h2 => ?_, h.im, h.gl⟩
 · rw [get_put] at hy
   by_cases he : y = x
   · subst he; rw [if_pos rfl] at hy; cases hy; exact (h.at_ _ _ hx).bytes hb hu h1
   · rw [if_neg he] at hy; exact h.at_ y c hy
 · obtain ⟨d, hd⟩ := up y c hy
   obtain ⟨d', hd'⟩ := up z c' hz
   exact h.inj y z d d' b N N' hd hd' h2 h3
 · obtain ⟨d, hd⟩ := up y c hy
   exact h.own y d b N hd h2
def preU (pre : HpL) : List (Nat × Option Chunk) := pre.map fun p => (p.1, some p.2)
theorem preU_snoc (pre : HpL) (x : Nat) (c : Chunk) (h : HpF) : updF (preU (pre ++ [(x, c)])) h = fun y => if y = x then some c else updF (preU pre) h y := by
 unfold preU
 rw [List.map_append, updF_append]
 rfl
theorem crun_addU (pre : HpL) : ∀ {t : CTree} {v : SV} {ups : List (Nat × Option Chunk)}, crun (addU pre t) = some (v, ups) → ∃ ups2, crun t = some (v, ups2) ∧ ups = preU pre ++ ups2
 | .ret v0 u0, v, ups, h => by
  simp only [addU, crun, Option.some.injEq, Prod.mk.injEq] at h
  obtain ⟨rfl, rfl⟩ := h
  exact ⟨u0, rfl, rfl⟩
 | .ite b t e, v, ups, h => by
  rw [addU] at h
  cases b with
  | true => exact crun_addU pre (t := t) h
  | false => exact crun_addU pre (t := e) h
 | .fail, v, ups, h => by simp [addU, crun] at h
theorem Ext.inc {args args2 : List SV} {H H2 : HpL} (hi : InOk P args H args2 H2) {w w' : World} {Im Im' : Nat → Prop} {θ θ' : Th} {h' : HpF} (hfr : ∀ x, H.length ≤ x → θ x = none) (he : Ext (fun x => H2.length ≤ x) H2.get w Im θ h' w' Im' θ') :
  Ext (fun x => H.length ≤ x) H.get w Im θ h' w' Im' θ' := by
 have hb : ∀ x c b N, H2.get x = some c → θ x = some (b, N) → ∃ c', H.get x = some c' := by
  intro x c b N hx ht
  rcases hi.back x c hx with h | h
  · exact h
  · rw [hfr x h] at ht; cases ht
 exact { thOld := fun x hx => he.thOld x (fun h => hx (by have := hi.len; omega)), thUp := he.thUp, imUp := he.imUp, size := he.size, os := he.os, output := he.output, tape := he.tape
         keep := fun b hlt hk => he.keep b hlt (fun x c N hx ht => by obtain ⟨c', hc'⟩ := hb x c b N hx ht; exact hk x c' N hc' ht)
         imNew := fun b hbm => by
          rcases he.imNew b hbm with h | ⟨x, c, N, h1, h2⟩ | h
          · exact .inl h
          · obtain ⟨c', hc'⟩ := hb x c b N h1 h2
            exact .inr (.inl ⟨x, c', N, hc', h2⟩)
          · exact .inr (.inr h)
         ownNew := fun x c b N h1 h2 => by
          rcases he.ownNew x c b N h1 h2 with ⟨y, c', N', h3, h4⟩ | h
          · obtain ⟨c2, hc2⟩ := hb y c' b N' h3 h4
            exact .inl ⟨y, c2, N', hc2, h4⟩
          · exact .inr h }
end Go.Am
/- The abstract machine: a round of a loop; loops by what is known up to other words. -/
namespace Go.Am
variable {P : Program} {ω : Nat → Value}
theorem round_valid {κ : Nat → Option CSumm} {ι : Nat → Bool} {T : LTab} {sp : Bool} {fuel : Nat} {e : LEnt} {c : Code} {s' : CSumm} (hκ : KOk P κ) (hmix : P.follows .mixedOrders = true) (hT : LOk P T) (hfill : fillC T c = e.code)
  (ih : ValidL P { e with s := s' }) : ValidL P { e with s := fun args H => loopOnce P κ ι T sp fuel e { e with s := s' } c args H } := by
 have key : ∀ (args : List SV) (H : HpL) (k : IntKind) (c0 : Int) (outs : List SV) (ups : List (Nat × Option Chunk)), crun (loopOnce P κ ι T sp fuel e { e with s := s' } c args H) = some (.tup (.int k c0 :: outs), ups) → Canon H → outs.length = e.outs.length → args.length = e.ins.length →
  ∃ m, ∀ (ω : Nat → Value) (θ : Th) (Im : Nat → Prop) (w : World) (a : Act) (Q : Exit → Act → World → Prop), a.tmps.size = e.size → LRel P ω w Im θ args (e.ins.map fun t => a.tmps.getD t undef) → HRel P ω w Im θ H.get →
   (∀ x, H.length ≤ x → θ x = none) → Mk w Im θ H.get a.defers →
   (∀ a' w' Im' θ', a'.tmps.size = e.size → Ext (fun x => H.length ≤ x) H.get w Im θ (updF ups H.get) w' Im' θ' → LRel P ω w' Im' θ' outs (e.outs.map fun t => a'.tmps.getD t undef) → HRel P ω w' Im' θ' (updF ups H.get) →
    (∀ t ∈ e.keep, a'.tmps.getD t undef = a.tmps.getD t undef) → Mk w' Im' θ' (updF ups H.get) a'.defers → New a a' w → Q (exitOf (exOf c0)) a' w') →
   Code.roundsIn (FR none) 0 P e.code Q m a w := by
  intro args H k c0 outs ups hl hcanon hol hal
  unfold loopOnce at hl
  cases hc : canonB H 0 && closedB H.length H && Nat.beq args.length e.ins.length && Nat.blt e.size 16000 && Nat.blt H.length 1000000 && lowB e.size e.ins && lowB e.size e.keep && lowB e.size e.outs && noOpqL args && noOpqH H && lowB H.length (namesL args) with
  | false => rw [hc] at hl; simp [crun] at hl
  | true =>
   rw [hc] at hl
   simp only [cond_true] at hl
   simp only [Bool.and_eq_true] at hc
   obtain ⟨⟨⟨⟨⟨⟨⟨⟨⟨⟨c1, c2⟩, c3⟩, c4⟩, c5⟩, c6⟩, c7⟩, c8⟩, c9⟩, c10⟩, c11⟩ := hc
   have hsz : e.size < 16000 := by rwa [Nat.blt_eq] at c4
   have hHl : H.length < 1000000 := by rwa [Nat.blt_eq] at c5
   have hins := lowB_spec _ c6
   have hkeep := lowB_spec _ c7
   have houts := lowB_spec _ c8
   have hhp : (loopSt sp e args H).hp.get = H.get := heapTr_init c1 (by omega)
   have htm : ∀ j, ((loopSt sp e args H).tmp j = .junk) ∨ (j ∈ e.keep ∧ (loopSt sp e args H).tmp j = .opq j) ∨ ∃ i : Nat, e.ins[i]? = some j ∧ ∃ v, args[i]? = some v ∧ (loopSt sp e args H).tmp j = v := by
    intro j
    have hk16 : ∀ x ∈ e.keep, x < 16000 := fun x hx => by have := hkeep x hx; omega
    have hi16 : ∀ x ∈ e.ins, x < 16000 := fun x hx => by have := hins x hx; omega
    have he : (loopSt sp e args H).tmp j = match (setPs e.ins args (keepI e.keep .lf)).get j with
     | some v => v
     | none => .junk := rfl
    rcases setPs_at e.ins args (keepI e.keep .lf) j hi16 with ⟨g1, -⟩ | ⟨i, g1, v, g2, g3⟩
    · rw [he, g1, keepI_get _ _ _ hk16]
      by_cases hj : j ∈ e.keep
      · simp [hj]
      · simp [hj, Tr.get_lf]
    · exact .inr (.inr ⟨i, g1, v, g2, by rw [he, g3]⟩)
   have hs0 : StOk (loopSt sp e args H) := by
    refine ⟨hsz, hHl, fun t ht => ?_, ?_, Nat.le_refl _⟩
    · have ht' : e.size ≤ t := ht
      rcases htm t with g | ⟨g, _⟩ | ⟨i, g, _⟩
      · exact g
      · have := hkeep t g; omega
      · have := hins t (List.mem_of_getElem? g); omega
    · intro x c hx
      rw [hhp] at hx
      exact canon_lt c1 hx
   obtain ⟨ex1, s1, hs1, hc1, hk1⟩ := execL_ok (den := crun) rfl hκ hmix hT fuel c _ _ _ hs0 hl
   rw [hfill] at hc1
   have hall : ∃ ex sF, StOk sF ∧ Comes P (.loop e.code) (loopSt sp e args H) ex sF ∧ crun (finishL e ex sF) = some (.tup (.int k c0 :: outs), ups) := by
    cases ex1 with
    | normal =>
     simp only [] at hk1
     obtain ⟨ex2, s2, hs2, hc2, hk2⟩ := loopK_run (den := crun) rfl ih hs1 hk1
     obtain ⟨m, hm⟩ := hc2.wps
     refine ⟨ex2, s2, hs2, ⟨hc1.later.trans hc2.later, by rw [hc2.size, hc1.size], by rw [hc2.rd, hc1.rd], m + 1, fun ω ρ Q a w Im θ sim hA => ?_⟩, hk2⟩
     show Code.roundsIn (FR ρ) 0 P e.code Q (m + 1) a w
     rw [roundsIn_succ]
     refine hc1.wp ρ _ a w Im θ sim (fun a' w' Im' θ' sim' hE hN => ?_)
     exact hm ω ρ Q a' w' Im' θ' sim' (After.trans hc1.later hE hN hA)
    | exit id =>
     refine ⟨.exit id, s1, hs1, ⟨hc1.later, hc1.size, hc1.rd, 1, fun ω ρ Q a w Im θ sim hA => ?_⟩, hk1⟩
     show Code.roundsIn (FR ρ) 0 P e.code Q 1 a w
     rw [roundsIn_succ]
     exact hc1.wp ρ _ a w Im θ sim (fun a' w' Im' θ' sim' hE hN => hA a' w' Im' θ' sim' hE hN)
    | ret =>
     refine ⟨.ret, s1, hs1, ⟨hc1.later, hc1.size, hc1.rd, 1, fun ω ρ Q a w Im θ sim hA => ?_⟩, hk1⟩
     show Code.roundsIn (FR ρ) 0 P e.code Q 1 a w
     rw [roundsIn_succ]
     exact hc1.wp ρ _ a w Im θ sim (fun a' w' Im' θ' sim' hE hN => hA a' w' Im' θ' sim' hE hN)
   obtain ⟨ex, sF, hsF, hC, hfin⟩ := hall
   obtain ⟨f1, f2, f3, rfl, ns, hre, rfl, rfl⟩ := finishL_inv hfin
   obtain ⟨m, hm⟩ := hC.wps
   refine ⟨m, fun ω θ Im w a Q hsize hargs hH hfr hMk hpost => ?_⟩
   have hmF : sF.m = H.length := hC.later.m
   have hsF2 : sF.size = e.size := hC.size
   have sim0 : Sim P (fun t => a.tmps.getD t undef) none (loopSt sp e args H) a w Im θ := by
    refine ⟨hs0, ⟨hsize, fun t ht => ?_, hs0.out, by rw [hhp]; exact hMk, by rw [hhp]; exact hH.om (fun x c hx => noOpqH_at c10 hx)⟩, ?_, .inl ⟨rfl, rfl⟩⟩
    · rcases htm t with g | ⟨g, g2⟩ | ⟨i, g, v, g2, g3⟩
      · rw [g]; exact .junk
      · rw [g2]; exact .opq
      · rw [g3]
        exact (hargs.at_ i v _ g2 (by simp [g])).om (noOpqL_at c9 g2)
    · intro x hx
      have hx' : H.length ≤ x := hx
      refine ⟨hfr x hx', ?_⟩
      rw [hhp]
      cases hg : H.get x with
      | none => rfl
      | some c => have := canon_lt c1 hg; omega
   refine hm (fun t => a.tmps.getD t undef) none Q a w Im θ sim0 (fun a' w' Im' θ' sim' hE hN => ?_)
   have hsame : ∀ x, x < H.length → sF.hp.get x = H.get x ∨ x ∈ sF.dirty := by
    intro x hx
    have := hC.later.same x hx
    rwa [hhp] at this
   have hdl : ∀ x ∈ sF.dirty, x < H.length := by
    intro x hx
    rcases hC.later.low x hx with h | h
    · cases h
    · exact h
   have hext : Ext (fun x => H.length ≤ x) H.get w Im θ sF.hp.get w' Im' θ' := by
    rw [← hhp]; exact hE
   have hz : VRel P (fun t => a.tmps.getD t undef) w' Im' θ' (.tup (.int .i64 (codeEx ex) :: e.outs.map sF.tmp)) (.tuple (.int .i64 (codeEx ex) :: (e.outs.map fun t => a'.tmps.getD t undef)).toArray) := by
    have hl := lrel_map (P := P) (ω := fun t => a.tmps.getD t undef) (w := w') (Im := Im') (θ := θ') (f := sF.tmp) (g := fun t => a'.tmps.getD t undef) (l := e.outs) (fun t ht => sim'.sf.tm t (by rw [hsF2]; exact houts t ht))
    refine .tup (by simp) (fun i v u hv hu => ?_)
    cases i with
    | zero => simp at hv hu; subst hv; subst hu; exact .int
    | succ i => exact hl.at_ i v u (by simpa using hv) (by simpa using hu)
   obtain ⟨θ3, g1, g2, g3, g4⟩ := finish_gen c1 c2 hfr hmF hsame hdl hre sim'.sf.hp hext hz
   rw [← hmF] at g1 g2 g3 g4
   have g2' : LRel P (fun t => a.tmps.getD t undef) w' Im' θ3 (renL (outName ns sF.m) (e.outs.map sF.tmp)) (e.outs.map fun t => a'.tmps.getD t undef) := by
    simp only [renS, renL] at g2
    cases g2 with
    | tup p1 p2 => exact ⟨by rw [renL_eq]; simp, fun i v u hv hu => p2 (i + 1) v u (by simpa using hv) (by simpa using hu)⟩
   rw [← hmF] at hpost
   have := hpost a' w' Im' θ3 (by rw [sim'.sf.size]; exact hsF2) g1 (g2'.om (by rw [noOpqL_ren]; exact f2)) (g3.om (noOpqU_at f3 (fun x c hx => noOpqH_at c10 hx))) (fun t ht => ?_) ?_ hN
   · rw [exOf_code] at this; exact this
   · have h1 := sim'.sf.tm t (by rw [hsF2]; exact hkeep t ht)
     rw [f1 t ht] at h1
     generalize a'.tmps.getD t undef = z at h1
     cases h1
     rfl
   · obtain ⟨rs, base, m1, mb, m2, m3⟩ := sim'.sf.df
     refine ⟨rs, base, m1, mb, m2, fun r hr => ⟨(m3 r hr).1, (m3 r hr).2.1, fun y c N hy hb => ?_⟩⟩
     obtain ⟨x, c0, hx, hxb⟩ := g4 y c r N hy hb
     exact (m3 r hr).2.2 x c0 N hx hxb
 exact key
end Go.Am
/- The abstract machine: lists that are answered or left in the heap, known by content from there on. -/
namespace Go.Am
variable {P : Program}
def SemV (P : Program) (k e : Nat) (rs : List SV) (v v' : SV) : Prop :=
 ∀ (ω : Nat → Value) (w : World) (Im : Nat → Prop) (θ : Th) (h : HpF) (u : Value), HRel P ω w Im θ h → h k = some (.seq e rs) → VRel P ω w Im θ v u → VRel P ω w (frozenBy Im θ h [k]) θ v' u
def SemC (P : Program) (k e : Nat) (rs : List SV) (x : Nat) (c c' : Chunk) : Prop :=
 ∀ (ω : Nat → Value) (w : World) (Im : Nat → Prop) (θ : Th) (h : HpF), HRel P ω w Im θ h → h k = some (.seq e rs) → CRel P ω w Im θ x c → CRel P ω w (frozenBy Im θ h [k]) θ x c'
variable {k e : Nat} {rs : List SV}
theorem SemV.rfl' {v : SV} : SemV P k e rs v v := fun ω w Im θ h u _ _ hv => hv.mono (frozenBy_up w) (fun _ _ h => h)
theorem SemV.qs {sz n : Nat} (hn : n = rs.length) : SemV P k e rs (.qs k sz 0 n) (.psl e rs) := fun ω w Im θ h u hr hk hv => seq_psl hr hk hn hv
theorem SemV.nils {e' : Nat} : SemV P k e rs .nils (.psl e' []) := fun ω w Im θ h u _ _ hv => (nils_psl hv).mono (frozenBy_up w) (fun _ _ h => h)
inductive SemL (P : Program) (k e : Nat) (rs : List SV) : List SV → List SV → Prop
 | nil : SemL P k e rs [] []
 | cons {v v' : SV} {vs vs' : List SV} : SemV P k e rs v v' → SemL P k e rs vs vs' → SemL P k e rs (v :: vs) (v' :: vs')
theorem SemL.rfl' : ∀ {vs : List SV}, SemL P k e rs vs vs
 | [] => .nil
 | _ :: _ => .cons .rfl' .rfl'
theorem SemL.len : ∀ {vs vs' : List SV}, SemL P k e rs vs vs' → vs'.length = vs.length
 | _, _, .nil => rfl
 | _, _, .cons _ h => by simp [h.len]
theorem SemL.at_ : ∀ {vs vs' : List SV}, SemL P k e rs vs vs' → ∀ (i : Nat) (v' : SV), vs'[i]? = some v' → ∃ v, vs[i]? = some v ∧ SemV P k e rs v v'
 | _, _, .nil, i, v', h => by simp at h
 | _, _, .cons h1 h2, 0, v', h => by simp at h; subst h; exact ⟨_, rfl, h1⟩
 | _, _, .cons h1 h2, i + 1, v', h => by simp at h; obtain ⟨v, h3, h4⟩ := h2.at_ i v' h; exact ⟨v, by simpa using h3, h4⟩
theorem SemL.rel {vs vs' : List SV} (hs : SemL P k e rs vs vs') {ω : Nat → Value} {w : World} {Im : Nat → Prop} {θ : Th} {h : HpF} (hr : HRel P ω w Im θ h) (hk : h k = some (.seq e rs)) {us : List Value} (hl : LRel P ω w Im θ vs us) : LRel P ω w (frozenBy Im θ h [k]) θ vs' us :=
 ⟨by rw [hs.len]; exact hl.len, fun i v' u hv hu => by
  obtain ⟨v, h1, h2⟩ := hs.at_ i v' hv
  exact h2 ω w Im θ h u hr hk (hl.at_ i v u h1 hu)⟩
theorem SemV.tup {vs vs' : List SV} (hs : SemL P k e rs vs vs') : SemV P k e rs (.tup vs) (.tup vs') := by
 intro ω w Im θ h u hr hk hv
 cases hv with
 | tup h1 h2 =>
  have := hs.rel hr hk ⟨h1, fun i v u a b => h2 i v u a (by simpa using b)⟩
  exact .tup this.len (fun i v u a b => this.at_ i v u a (by simpa using b))
theorem SemV.agg {vs vs' : List SV} (hs : SemL P k e rs vs vs') : SemV P k e rs (.agg vs) (.agg vs') := by
 intro ω w Im θ h u hr hk hv
 cases hv with
 | agg h1 h2 =>
  have := hs.rel hr hk ⟨h1, fun i v u a b => h2 i v u a (by simpa using b)⟩
  exact .agg this.len (fun i v u a b => this.at_ i v u a (by simpa using b))
theorem SemC.rfl' {x : Nat} {c : Chunk} : SemC P k e rs x c c := fun ω w Im θ h _ _ hc => hc.mono (frozenBy_up w) (fun _ _ h => h) rfl (fun _ _ _ => rfl)
theorem SemC.cells {x : Nat} {T : TypeId} {vs vs' : List SV} (hs : SemL P k e rs vs vs') : SemC P k e rs x (.cells T vs) (.cells T vs') := by
 rintro ω w Im θ h hr hk ⟨b, cs, fr, h1, h2, h3, h4⟩
 exact ⟨b, cs, fr, by rw [hs.len]; exact h1, h2, h3, hs.rel hr hk h4⟩
def Frozen (P : Program) (H : HpL) (v : SV) (ups : List (Nat × Option Chunk)) (v' : SV) (ups' : List (Nat × Option Chunk)) : Prop :=
 ∃ k e rs, updF ups H.get k = some (.seq e rs) ∧ SemV P k e rs v v' ∧ ∀ x c', updF ups' H.get x = some c' → x ≠ k ∧ ∃ c, updF ups H.get x = some c ∧ SemC P k e rs x c c'
theorem frz_post {ω : Nat → Value} {H : HpL} {w w' : World} {Im Im' : Nat → Prop} {θ θ' : Th} {ups ups' : List (Nat × Option Chunk)} (hk : updF ups H.get k = some (.seq e rs))
  (hu : ∀ x c', updF ups' H.get x = some c' → x ≠ k ∧ ∃ c, updF ups H.get x = some c ∧ SemC P k e rs x c c')
  (hE : Ext (fun x => H.length ≤ x) H.get w Im θ (updF ups H.get) w' Im' θ') (hH : HRel P ω w' Im' θ' (updF ups H.get)) :
  Ext (fun x => H.length ≤ x) H.get w Im θ (updF ups' H.get) w' (frozenBy Im' θ' (updF ups H.get) [k]) θ' ∧ HRel P ω w' (frozenBy Im' θ' (updF ups H.get) [k]) θ' (updF ups' H.get) := by
 have hfb : ∀ b, frozenBy Im' θ' (updF ups H.get) [k] b → Im' b ∨ ∃ N, θ' k = some (b, N) := by
  rintro b (hb | ⟨y, hy, c, N, h1, h2⟩)
  · exact .inl hb
  · rw [List.mem_singleton] at hy; subst hy; exact .inr ⟨N, h2⟩
 refine ⟨?_, ?_⟩
 · refine { thOld := hE.thOld, thUp := hE.thUp, imUp := fun b hb => .inl (hE.imUp b hb), size := hE.size, keep := hE.keep, os := hE.os, output := hE.output, tape := hE.tape, imNew := fun b hb => ?_, ownNew := fun x c' b N hx hθ => ?_ }
   · rcases hfb b hb with hb | ⟨N, hb⟩
     · exact hE.imNew b hb
     · exact .inr (hE.ownNew k _ b N hk hb)
   · obtain ⟨_, c, h1, _⟩ := hu x c' hx
     exact hE.ownNew x c b N h1 hθ
 · refine ⟨fun x c' hx => ?_, fun x y c c' b N N' hx hy h1 h2 => ?_, fun x c' b N hx hθ => ?_, fun b hb => ?_, hH.gl.mono (frozenBy_up w')⟩
   · obtain ⟨_, c, h1, h2⟩ := hu x c' hx
     exact h2 ω w' Im' θ' _ hH hk (hH.at_ x c h1)
   · obtain ⟨_, c1, h3, _⟩ := hu x c hx
     obtain ⟨_, c2, h4, _⟩ := hu y c' hy
     exact hH.inj x y c1 c2 b N N' h3 h4 h1 h2
   · obtain ⟨hne, c, h1, _⟩ := hu x c' hx
     refine ⟨fun hb => ?_, (hH.own x c b N h1 hθ).2⟩
     rcases hfb b hb with hb | ⟨M, hb⟩
     · exact (hH.own x c b N h1 hθ).1 hb
     · exact hne (hH.inj x k c _ b N M h1 hk hθ hb)
   · rcases hfb b hb with hb | ⟨M, hb⟩
     · exact hH.im b hb
     · exact (hH.own k _ b M hk hb).2
def CoV (P : Program) (v v' : SV) : Prop := ∀ (ω : Nat → Value) (w : World) (Im : Nat → Prop) (θ : Th) (u : Value), VRel P ω w Im θ v u → VRel P ω w Im θ v' u
def CoC (P : Program) (x : Nat) (c c' : Chunk) : Prop := ∀ (ω : Nat → Value) (w : World) (Im : Nat → Prop) (θ : Th), CRel P ω w Im θ x c → CRel P ω w Im θ x c'
theorem CoV.rfl' {v : SV} : CoV P v v := fun _ _ _ _ _ h => h
theorem CoC.rfl' {x : Nat} {c : Chunk} : CoC P x c c := fun _ _ _ _ h => h
theorem CoV.nils {e' : Nat} : CoV P .nils (.psl e' []) := fun _ _ _ _ _ h => nils_psl h
inductive CoL (P : Program) : List SV → List SV → Prop
 | nil : CoL P [] []
 | cons {v v' : SV} {vs vs' : List SV} : CoV P v v' → CoL P vs vs' → CoL P (v :: vs) (v' :: vs')
theorem CoL.rfl' : ∀ {vs : List SV}, CoL P vs vs
 | [] => .nil
 | _ :: _ => .cons .rfl' .rfl'
theorem CoL.len : ∀ {vs vs' : List SV}, CoL P vs vs' → vs'.length = vs.length
 | _, _, .nil => rfl
 | _, _, .cons _ h => by simp [h.len]
theorem CoL.at_ : ∀ {vs vs' : List SV}, CoL P vs vs' → ∀ (i : Nat) (v' : SV), vs'[i]? = some v' → ∃ v, vs[i]? = some v ∧ CoV P v v'
 | _, _, .nil, i, v', h => by simp at h
 | _, _, .cons h1 h2, 0, v', h => by simp at h; subst h; exact ⟨_, rfl, h1⟩
 | _, _, .cons h1 h2, i + 1, v', h => by simp at h; obtain ⟨v, h3, h4⟩ := h2.at_ i v' h; exact ⟨v, by simpa using h3, h4⟩
theorem CoL.rel {vs vs' : List SV} (hs : CoL P vs vs') {ω : Nat → Value} {w : World} {Im : Nat → Prop} {θ : Th} {us : List Value} (hl : LRel P ω w Im θ vs us) : LRel P ω w Im θ vs' us :=
 ⟨by rw [hs.len]; exact hl.len, fun i v' u hv hu => by
  obtain ⟨v, h1, h2⟩ := hs.at_ i v' hv
  exact h2 ω w Im θ u (hl.at_ i v u h1 hu)⟩
theorem CoV.tup {vs vs' : List SV} (hs : CoL P vs vs') : CoV P (.tup vs) (.tup vs') := by
 intro ω w Im θ u hv
 cases hv with
 | tup h1 h2 =>
  have := hs.rel (ω := ω) (w := w) (Im := Im) (θ := θ) ⟨h1, fun i v u a b => h2 i v u a (by simpa using b)⟩
  exact .tup this.len (fun i v u a b => this.at_ i v u a (by simpa using b))
theorem CoV.agg {vs vs' : List SV} (hs : CoL P vs vs') : CoV P (.agg vs) (.agg vs') := by
 intro ω w Im θ u hv
 cases hv with
 | agg h1 h2 =>
  have := hs.rel (ω := ω) (w := w) (Im := Im) (θ := θ) ⟨h1, fun i v u a b => h2 i v u a (by simpa using b)⟩
  exact .agg this.len (fun i v u a b => this.at_ i v u a (by simpa using b))
theorem CoC.cells {x : Nat} {T : TypeId} {vs vs' : List SV} (hs : CoL P vs vs') : CoC P x (.cells T vs) (.cells T vs') := by
 rintro ω w Im θ ⟨b, cs, fr, h1, h2, h3, h4⟩
 exact ⟨b, cs, fr, by rw [hs.len]; exact h1, h2, h3, hs.rel h4⟩
def Told (P : Program) (H : HpL) (v : SV) (ups : List (Nat × Option Chunk)) (v' : SV) (ups' : List (Nat × Option Chunk)) : Prop :=
 CoV P v v' ∧ ∀ x c', updF ups' H.get x = some c' → ∃ c, updF ups H.get x = some c ∧ CoC P x c c'
theorem told_post {ω : Nat → Value} {H : HpL} {w w' : World} {Im Im' : Nat → Prop} {θ θ' : Th} {ups ups' : List (Nat × Option Chunk)}
  (hu : ∀ x c', updF ups' H.get x = some c' → ∃ c, updF ups H.get x = some c ∧ CoC P x c c')
  (hE : Ext (fun x => H.length ≤ x) H.get w Im θ (updF ups H.get) w' Im' θ') (hH : HRel P ω w' Im' θ' (updF ups H.get)) :
  Ext (fun x => H.length ≤ x) H.get w Im θ (updF ups' H.get) w' Im' θ' ∧ HRel P ω w' Im' θ' (updF ups' H.get) := by
 refine ⟨?_, ?_⟩
 · refine { thOld := hE.thOld, thUp := hE.thUp, imUp := hE.imUp, size := hE.size, keep := hE.keep, os := hE.os, output := hE.output, tape := hE.tape, imNew := hE.imNew, ownNew := fun x c' b N hx hθ => ?_ }
   obtain ⟨c, h1, _⟩ := hu x c' hx
   exact hE.ownNew x c b N h1 hθ
 · refine ⟨fun x c' hx => ?_, fun x y c c' b N N' hx hy h1 h2 => ?_, fun x c' b N hx hθ => ?_, hH.im, hH.gl⟩
   · obtain ⟨c, h1, h2⟩ := hu x c' hx
     exact h2 ω w' Im' θ' (hH.at_ x c h1)
   · obtain ⟨c1, h3, _⟩ := hu x c hx
     obtain ⟨c2, h4, _⟩ := hu y c' hy
     exact hH.inj x y c1 c2 b N N' h3 h4 h1 h2
   · obtain ⟨c, h1, _⟩ := hu x c' hx
     exact hH.own x c b N h1 hθ
theorem known_told {f : FuncId} {s s' : CSumm} (h : Known P f s) (hs : ∀ args H v' ups', crun (s' args H) = some (v', ups') → ∃ v ups, crun (s args H) = some (v, ups) ∧ (Frozen P H v ups v' ups' ∨ Told P H v ups v' ups')) : Known P f s' := by
 refine ⟨h.fn, ?_⟩
 intro args H v' ups' hr hc ω θ Im w us hl hH hfr
 obtain ⟨v, ups, hr', hh⟩ := hs args H v' ups' hr
 refine (h.ok args H v ups hr' hc ω θ Im w us hl hH hfr).mono ?_
 rintro o w' ⟨u, θ', Im', rfl, hE, hvu, hH'⟩
 rcases hh with ⟨k, e, rs, hk, hv, hu⟩ | ⟨hv, hu⟩
 · obtain ⟨h1, h2⟩ := frz_post hk hu hE hH'
   exact ⟨u, θ', _, rfl, h1, hv ω w' Im' θ' _ u hH' hk hvu, h2⟩
 · obtain ⟨h1, h2⟩ := told_post hu hE hH'
   exact ⟨u, θ', Im', rfl, h1, hv ω w' Im' θ' u hvu, h2⟩
structure From (P : Program) (args : List SV) (H : HpL) (args2 : List SV) (H2 : HpL) : Prop where
 args : CoL P args args2
 canon : Canon H2
 len : H2.length = H.length
 fwd : ∀ x c, H.get x = some c → ∃ c2, H2.get x = some c2 ∧ CoC P x c c2
 bwd : ∀ x c2, H2.get x = some c2 → ∃ c, H.get x = some c
theorem From.ext {args args2 : List SV} {H H2 : HpL} (h : From P args H args2 H2) {w w' : World} {Im Im' : Nat → Prop} {θ θ' : Th} {h' : HpF} (he : Ext (fun x => H2.length ≤ x) H2.get w Im θ h' w' Im' θ') : Ext (fun x => H.length ≤ x) H.get w Im θ h' w' Im' θ' := by
 rw [h.len] at he
 refine { thOld := he.thOld, thUp := he.thUp, imUp := he.imUp, size := he.size, os := he.os, output := he.output, tape := he.tape, keep := fun b hb hno => ?_, imNew := fun b hb => ?_, ownNew := fun x c b N hx hθ => ?_ }
 · refine he.keep b hb (fun x c N hx hθ => ?_)
   obtain ⟨c0, h1⟩ := h.bwd x c hx
   exact hno x c0 N h1 hθ
 · rcases he.imNew b hb with h1 | ⟨x, c, N, h1, h2⟩ | h1
   · exact .inl h1
   · obtain ⟨c0, h3⟩ := h.bwd x c h1
     exact .inr (.inl ⟨x, c0, N, h3, h2⟩)
   · exact .inr (.inr h1)
 · rcases he.ownNew x c b N hx hθ with ⟨y, c', N', h1, h2⟩ | h1
   · obtain ⟨c0, h3⟩ := h.bwd y c' h1
     exact .inl ⟨y, c0, N', h3, h2⟩
   · exact .inr h1
end Go.Am
/- The abstract machine: loops known by what their rounds come to, told by other words. -/
namespace Go.Am
variable {P : Program}
def ToldL (P : Program) (H : HpL) (v : SV) (ups : List (Nat × Option Chunk)) (v' : SV) (ups' : List (Nat × Option Chunk)) : Prop :=
 ∃ (c : Int) (vs vs' : List SV), v = .tup (.int .i64 c :: vs) ∧ v' = .tup (.int .i64 c :: vs') ∧ CoL P vs vs' ∧ ∀ x c', updF ups' H.get x = some c' → ∃ c, updF ups H.get x = some c ∧ CoC P x c c'
theorem loop_told {e : LEnt} {s' : CSumm} (h : ValidL P e) (hs : ∀ args H v' ups', crun (s' args H) = some (v', ups') → ∃ v ups, crun (e.s args H) = some (v, ups) ∧ ToldL P H v ups v' ups') : ValidL P { e with s := s' } := by
 intro args H kk c0 outs' ups' hr hc ho ha
 obtain ⟨v, ups, hr', c, vs, vs', rfl, hv, hl, hu⟩ := hs args H _ ups' hr
 simp only [SV.tup.injEq, List.cons.injEq, SV.int.injEq] at hv
 obtain ⟨⟨rfl, rfl⟩, rfl⟩ := hv
 obtain ⟨m, hm⟩ := h args H .i64 c0 vs ups hr' hc (by rw [← hl.len]; exact ho) ha
 refine ⟨m, fun ω θ Im w a Q hsz hla hH hfr hmk hQ => hm ω θ Im w a Q hsz hla hH hfr hmk ?_⟩
 intro a' w' Im' θ' b1 b2 b3 b4 b5 b6 b7
 obtain ⟨h1, h2⟩ := told_post hu b2 b4
 refine hQ a' w' Im' θ' b1 h1 (hl.rel b3) h2 b5 ?_ b7
 obtain ⟨rs', base, r1, rb, r2, r3⟩ := b6
 refine ⟨rs', base, r1, rb, r2, fun r hrr => ⟨(r3 r hrr).1, (r3 r hrr).2.1, fun x c' N hx => ?_⟩⟩
 obtain ⟨c, g1, _⟩ := hu x c' hx
 exact (r3 r hrr).2.2 x c N g1
theorem boundT_at {μ : List SV → HpL → Nat} {s : CSumm} {n : Nat} {args : List SV} {H : HpL} {v : SV} {ups : List (Nat × Option Chunk)} (h : crun (boundT μ s n args H) = some (v, ups)) : Nat.blt (μ args H) n = true ∧ crun (s args H) = some (v, ups) := by
 unfold boundT at h
 cases hb : Nat.blt (μ args H) n with
 | false => rw [hb] at h; cases h
 | true => rw [hb] at h; exact ⟨rfl, h⟩
end Go.Am
/- The abstract machine: loops known by what their rounds come to, told by other words in several steps. -/
namespace Go.Am
variable {P : Program}
inductive ChainL (P : Program) (H : HpL) : SV → List (Nat × Option Chunk) → SV → List (Nat × Option Chunk) → Prop
 | same {v ups ups'} : (∀ x, updF ups' H.get x = updF ups H.get x) → ChainL P H v ups v ups'
 | ren {v ups v' ups'} : Renamed H v ups v' ups' → ChainL P H v ups v' ups'
 | told {v ups v' ups'} : ToldL P H v ups v' ups' → ChainL P H v ups v' ups'
 | trans {v ups v1 ups1 v' ups'} : ChainL P H v ups v1 ups1 → ChainL P H v1 ups1 v' ups' → ChainL P H v ups v' ups'
noncomputable def oneS1 (args : List SV) (H : HpL) (v : SV) (ups : List (Nat × Option Chunk)) : CSumm := fun a h => by classical exact if a = args ∧ h = H then .ret v ups else .fail
theorem oneS1_at {args : List SV} {H : HpL} {v : SV} {ups : List (Nat × Option Chunk)} {a : List SV} {h : HpL} {v' : SV} {u' : List (Nat × Option Chunk)} (hx : crun (oneS1 args H v ups a h) = some (v', u')) : a = args ∧ h = H ∧ v' = v ∧ u' = ups := by
 simp only [oneS1] at hx
 split at hx
 · rename_i hq; cases hx; exact ⟨hq.1, hq.2, rfl, rfl⟩
 · cases hx
theorem oneS1_run (args : List SV) (H : HpL) (v : SV) (ups : List (Nat × Option Chunk)) : crun (oneS1 args H v ups args H) = some (v, ups) := by simp [oneS1, crun]
theorem loop_chain {e : LEnt} {args : List SV} {H : HpL} {v : SV} {ups : List (Nat × Option Chunk)} {v' : SV} {ups' : List (Nat × Option Chunk)} (hch : ChainL P H v ups v' ups') : ValidL P { e with s := oneS1 args H v ups } → ValidL P { e with s := oneS1 args H v' ups' } := by
 induction hch with
 | same hs =>
  intro h
  refine loop_ren (e := { e with s := oneS1 args H _ _ }) h (fun a h2 v2 u2 hx => ?_)
  obtain ⟨rfl, rfl, rfl, rfl⟩ := oneS1_at hx
  exact .inl ⟨_, oneS1_run _ _ _ _, hs⟩
 | ren hs =>
  intro h
  refine loop_ren (e := { e with s := oneS1 args H _ _ }) h (fun a h2 v2 u2 hx => ?_)
  obtain ⟨rfl, rfl, rfl, rfl⟩ := oneS1_at hx
  exact .inr ⟨_, _, oneS1_run _ _ _ _, hs⟩
 | told hs =>
  intro h
  refine loop_told (e := { e with s := oneS1 args H _ _ }) h (fun a h2 v2 u2 hx => ?_)
  obtain ⟨rfl, rfl, rfl, rfl⟩ := oneS1_at hx
  exact ⟨_, _, oneS1_run _ _ _ _, hs⟩
 | trans _ _ ih1 ih2 => exact fun h => ih2 (ih1 h)
theorem loop_valid5 {T : LTab} {sp : Bool} {fuel : Nat} {e : LEnt} {c : Code} {μ : List SV → HpL → Nat} (hmix : P.follows .mixedOrders = true) (hT : LOk P T) (hfill : fillC T c = e.code)
  (hstep : ∀ n args H v' ups', Nat.blt (μ args H) (n + 1) = true → crun (e.s args H) = some (v', ups') → ∃ (κ : Nat → Option CSumm) (ι : Nat → Bool), KOk P κ ∧
   ∃ v ups, crun (loopOnce P κ ι T sp fuel e { e with s := boundT μ e.s n } c args H) = some (v, ups) ∧ ChainL P H v ups v' ups') : ValidL P e := by
 have key : ∀ n, ValidL P { e with s := boundT μ e.s n } := by
  intro n
  induction n with
  | zero =>
   intro args H k c outs ups hrun
   obtain ⟨h1, _⟩ := boundT_at hrun
   rw [Nat.blt_eq] at h1; omega
  | succ n ih =>
   intro args H k c0 outs ups hrun hc ho ha
   obtain ⟨hb, hr⟩ := boundT_at hrun
   obtain ⟨κ, ι, hκ, v, u, hrn, hch⟩ := hstep n args H _ ups hb hr
   have hv := round_valid (κ := κ) (ι := ι) (T := T) (sp := sp) (fuel := fuel) (c := c) hκ hmix hT hfill ih
   have h1 : ValidL P { e with s := oneS1 args H v u } := loop_ren (e := { e with s := fun args H => loopOnce P κ ι T sp fuel e { e with s := boundT μ e.s n } c args H }) hv (fun a h v' u' hx => by
    obtain ⟨rfl, rfl, rfl, rfl⟩ := oneS1_at hx
    exact .inl ⟨_, hrn, fun _ => rfl⟩)
   exact loop_chain hch h1 args H k c0 outs ups (oneS1_run _ _ _ _) hc ho ha
 intro args H k c0 outs ups hrun
 exact key (μ args H + 1) args H k c0 outs ups (by
  show crun (boundT μ e.s _ args H) = _
  unfold boundT
  rw [show Nat.blt (μ args H) (μ args H + 1) = true by rw [Nat.blt_eq]; omega]
  exact hrun)
end Go.Am
/- The abstract machine: a summary whose runs have each a reason of their own. -/
namespace Go.Am
variable {P : Program}
end Go.Am
/- The abstract machine: nil lists handed in, taken as lists that have grown to nothing (of any element). -/
namespace Go.Am
variable {P : Program}
def incN : List (Option (Nat × Nat)) → List SV → HpL → HpL → List SV × HpL × HpL
 | some (e, sz) :: fs, .nils :: as, H, pre =>
  let r := incN fs as (H ++ [(H.length, .seq e [])]) (pre ++ [(H.length, .seq e [])])
  (.qs H.length sz 0 0 :: r.1, r.2)
 | _ :: fs, a :: as, H, pre => let r := incN fs as H pre; (a :: r.1, r.2)
 | [], as, H, pre => (as, H, pre)
 | _, [], H, pre => ([], H, pre)
def inN (fs : List (Option (Nat × Nat))) (s : CSumm) : CSumm := fun args H =>
 let r := incN fs args H []
 addU r.2.2 (s r.1 r.2.1)
theorem incN_ok {H0 : HpL} : ∀ (fs : List (Option (Nat × Nat))) (as : List SV) (H pre : HpL), Canon H → H.get = updF (preU pre) H0.get →
  InOk P as H (incN fs as H pre).1 (incN fs as H pre).2.1 ∧ (incN fs as H pre).2.1.get = updF (preU (incN fs as H pre).2.2) H0.get := by
 intro fs as
 induction as generalizing fs with
 | nil =>
  intro H pre hc he
  have h0 : InOk P [] H [] H := ⟨hc, Nat.le_refl _, rfl, fun x c h => .inl ⟨c, h⟩, fun ω θ w Im us hl hH hf => ⟨hl, hH⟩⟩
  cases fs with
  | nil => exact ⟨h0, he⟩
  | cons f fs =>
   have : incN (f :: fs) [] H pre = ([], H, pre) := by cases f <;> rfl
   rw [this]; exact ⟨h0, he⟩
 | cons a as ih =>
  intro H pre hc he
  have hid : InOk P (a :: as) H (a :: as) H := ⟨hc, Nat.le_refl _, rfl, fun x c h => .inl ⟨c, h⟩, fun ω θ w Im us hl hH hf => ⟨hl, hH⟩⟩
  cases fs with
  | nil => exact ⟨hid, he⟩
  | cons f fs =>
   have keep : InOk P (a :: as) H (a :: (incN fs as H pre).1) (incN fs as H pre).2.1 ∧ (incN fs as H pre).2.1.get = updF (preU (incN fs as H pre).2.2) H0.get :=
    ⟨(ih fs H pre hc he).1.cons (fun _ _ _ _ _ h => h), (ih fs H pre hc he).2⟩
   have nil : ∀ (e sz : Nat), f = some (e, sz) → a = .nils → InOk P (a :: as) H (incN (f :: fs) (a :: as) H pre).1 (incN (f :: fs) (a :: as) H pre).2.1 ∧ (incN (f :: fs) (a :: as) H pre).2.1.get = updF (preU (incN (f :: fs) (a :: as) H pre).2.2) H0.get := by
    rintro e sz rfl rfl
    show InOk P (.nils :: as) H (.qs H.length sz 0 0 :: (incN fs as (H ++ [(H.length, .seq e [])]) (pre ++ [(H.length, .seq e [])])).1) (incN fs as (H ++ [(H.length, .seq e [])]) (pre ++ [(H.length, .seq e [])])).2.1 ∧ (incN fs as (H ++ [(H.length, .seq e [])]) (pre ++ [(H.length, .seq e [])])).2.1.get = updF (preU (incN fs as (H ++ [(H.length, .seq e [])]) (pre ++ [(H.length, .seq e [])])).2.2) H0.get
    have hn := canon_next hc
    have hc' : Canon (H ++ [(H.length, .seq e [])]) := by
     intro i p hp
     rw [List.getElem?_append] at hp
     split at hp
     · exact hc i p hp
     · rename_i hlt
       have : i - H.length = 0 := by
        cases hi : i - H.length with
        | zero => rfl
        | succ j => rw [hi] at hp; simp at hp
       rw [this] at hp; simp at hp; subst hp; simp; omega
    obtain ⟨h1, h2⟩ := ih fs (H ++ [(H.length, .seq e [])]) (pre ++ [(H.length, .seq e [])]) hc' (by
     rw [preU_snoc, ← he]; funext y; exact get_app H hn)
    refine ⟨⟨h1.canon, by have := h1.len; simp at this; omega, by simp [h1.al], fun x c hx => ?_, fun ω θ w Im us hl hH hfr => ?_⟩, h2⟩
    · rcases h1.back x c hx with ⟨c', hx'⟩ | hx'
      · rw [get_app H hn] at hx'
        by_cases hxe : x = H.length
        · exact .inr (by omega)
        · rw [if_neg hxe] at hx'; exact .inl ⟨c', hx'⟩
      · simp at hx'; exact .inr (by omega)
    · obtain ⟨u, us', rfl, h3, h4⟩ := hl.uncons
      obtain ⟨h5, h6⟩ := h1.rel ω θ w Im us' h4 (hH.fresh hn (hfr _ (Nat.le_refl _))) (fun x hx => hfr x (by simp at hx; omega))
      refine ⟨h5.cons ?_, h6⟩
      cases h3; exact .qsnil rfl
   have oth : incN (f :: fs) (a :: as) H pre = (a :: (incN fs as H pre).1, (incN fs as H pre).2) → InOk P (a :: as) H (incN (f :: fs) (a :: as) H pre).1 (incN (f :: fs) (a :: as) H pre).2.1 ∧ (incN (f :: fs) (a :: as) H pre).2.1.get = updF (preU (incN (f :: fs) (a :: as) H pre).2.2) H0.get := by
    intro heq; rw [heq]; exact keep
   cases f with
   | none => exact oth rfl
   | some p =>
    obtain ⟨e, sz⟩ := p
    cases a with
    | nils => exact nil e sz rfl rfl
    | _ => exact oth rfl
theorem loop_inN {e : LEnt} (h : ValidL P e) {fs : List (Option (Nat × Nat))} : ValidL P { e with s := inN fs e.s } := by
 intro args H k c outs ups hr hc ho ha
 obtain ⟨ups2, h1, rfl⟩ := crun_addU _ hr
 obtain ⟨hi, he⟩ := incN_ok (P := P) (H0 := H) fs args H [] hc rfl
 obtain ⟨m, hm⟩ := h _ _ k c outs ups2 h1 hi.canon ho (by rw [hi.al]; exact ha)
 refine ⟨m, fun ω θ Im w a Q hsz hl hH hfr hmk hQ => ?_⟩
 obtain ⟨h2, h3⟩ := hi.rel ω θ w Im _ hl hH hfr
 have hu : updF (preU (incN fs args H []).2.2 ++ ups2) H.get = updF ups2 (incN fs args H []).2.1.get := by rw [updF_append, he]
 have hmk2 : Mk w Im θ (incN fs args H []).2.1.get a.defers := by
  obtain ⟨rs, base, r1, rb, r2, r3⟩ := hmk
  refine ⟨rs, base, r1, rb, r2, fun r hrr => ⟨(r3 r hrr).1, (r3 r hrr).2.1, fun x c N hx ht => ?_⟩⟩
  rcases hi.back x c hx with ⟨c', h4⟩ | h4
  · exact (r3 r hrr).2.2 x c' N h4 ht
  · rw [hfr x h4] at ht; cases ht
 refine hm ω θ Im w a Q hsz h2 h3 (fun x hx => hfr x (Nat.le_trans hi.len hx)) hmk2 ?_
 intro a' w' Im' θ' b1 b2 b3 b4 b5 b6 b7
 exact hQ a' w' Im' θ' b1 (by rw [hu]; exact b2.inc hi hfr) b3 (by rw [hu]; exact b4) b5 (by rw [hu]; exact b6) b7
end Go.Am
/- The abstract machine: code without loops, what it defers told exactly. -/
namespace Go.Am
variable {P : Program} {ω : Nat → Value}
def lineR {R : Type} (fl : R) (P : Program) (κ : Nat → Option CSumm) : Code → St → (Ex → St → R) → R
 | .skip, s, k => k .normal s
 | .region _ ops draw, s, k => bif draw then fl else opsR fl P κ ops.toList (fun s _ => k .normal s) ops.toList 0 s []
 | .seq a b, s, k => lineR fl P κ a s (fun e s => match e with
  | .normal => lineR fl P κ b s k
  | e => k e s)
 | .cond c t e, s, k =>
  match s.ev c with
  | .bool b => bif b then lineR fl P κ t s k else lineR fl P κ e s k
  | _ => fl
 | .block id c, s, k => lineR fl P κ c s (fun e s => match e with
  | .exit j => bif Nat.beq j id then k .normal s else k (.exit j) s
  | e => k e s)
 | .exit id, s, k => k (.exit id) s
 | .ret, s, k => k .ret s
 | _, _, _ => fl
def After0 (P : Program) (ω : Nat → Value) (ρ : Option Nat) (s s2 : St) (a : Act) (w : World) (Im : Nat → Prop) (θ : Th) (K : Act → World → Prop) : Prop :=
 ∀ a' w' Im' θ', Sim P ω ρ s2 a' w' Im' θ' → Ext (fun x => s.nx ≤ x) s.hp.get w Im θ s2.hp.get w' Im' θ' → a'.defers = a.defers → K a' w'
theorem After0.trans {ρ : Option Nat} {s s1 s2 : St} {a a1 : Act} {w w1 : World} {Im Im1 : Nat → Prop} {θ θ1 : Th} {K : Act → World → Prop} (hl : Later s s1)
  (hE : Ext (fun x => s.nx ≤ x) s.hp.get w Im θ s1.hp.get w1 Im1 θ1) (hN : a1.defers = a.defers) (h : After0 P ω ρ s s2 a w Im θ K) : After0 P ω ρ s1 s2 a1 w1 Im1 θ1 K :=
 fun a' w' Im' θ' sim hE' hN' => h a' w' Im' θ' sim (hE.trans (hE'.mono (fun _ hx => Nat.le_trans hl.nx hx))) (hN'.trans hN)
structure Comes0 (P : Program) (c : Code) (s : St) (e : Ex) (s2 : St) : Prop where
 later : Later s s2
 size : s2.size = s.size
 rd : s2.rd = s.rd
 wp : ∀ (ω : Nat → Value) (ρ : Option Nat) (Q : Exit → Act → World → Prop) (a : Act) (w : World) (Im : Nat → Prop) (θ : Th), Sim P ω ρ s a w Im θ → After0 P ω ρ s s2 a w Im θ (Q (exitOf e)) → c.wpIn (FR ρ) 0 P Q a w
theorem comes0_self {c : Code} {s : St} {e : Ex} (h : ∀ (ρ : Option Nat) (Q : Exit → Act → World → Prop) (a : Act) (w : World), Q (exitOf e) a w → c.wpIn (FR ρ) 0 P Q a w) : Comes0 P c s e s :=
 ⟨Later.refl s, rfl, rfl, fun _ ρ Q a w Im θ sim hA => h ρ Q a w (hA a w Im θ sim (Ext.refl _) rfl)⟩
section
variable {R D : Type} {fl : R} {den : R → Option D} (hfl : den fl = none) {κ : Nat → Option CSumm} (hκ : KOk P κ)
include hfl hκ
omit hfl in
theorem txt_comes0 {id : Nat} {ops : Array Oper} {s s' : St} {recs : List Rec} {T' : Nat → SV} (hs' : StOk s') (hl : Later s s') (hz : s'.size = s.size) (hrd : s'.rd = s.rd)
  (ht : Txt P κ ops.toList s.size ops.toList s.tmp s.hp.get s.nx recs T' s'.hp.get s'.nx) (hT : ∀ t, s'.tmp t = .junk ∨ s'.tmp t = T' t) : Comes0 P (.region id ops false) s .normal s' := by
 refine ⟨hl, hz, hrd, fun ω ρ Q a w Im θ sim hA => ?_⟩
 refine wpIn_region ?_
 have hsnd := seq_sound (P := P) hκ (nx0 := s.nx) (ro := ρ) (Q := Q) (ds := a.defers) ht 0 a w Im θ (by simp) rfl sim.sf sim.fr (Nat.le_refl _) (w0 := w) (Im0 := Im) (θ0 := θ) (h0 := s.hp.get) (Ext.refl _) (fun a' w' Im' θ' hdf hS hF hn hE => by
  refine hA a' w' Im' θ' ⟨hs', by rw [hz]; exact hS.weaken hT, hF, ?_⟩ hE hdf
  rw [hrd]
  rcases sim.rd with g | ⟨y, b, N, g1, g2, g3⟩
  · exact .inl g
  · exact .inr ⟨y, b, N, g1, hE.thUp _ _ g2, g3⟩)
 simpa [List.range_eq_range'] using hsnd
theorem lineR_ok : ∀ (c : Code) (s : St) (k : Ex → St → R) (d : D), StOk s → den (lineR fl P κ c s k) = some d → ∃ e s2, StOk s2 ∧ Comes0 P c s e s2 ∧ den (k e s2) = some d := by
 intro c
 induction c with
 | skip => intro s k d hs h; exact ⟨.normal, s, hs, comes0_self (fun ρ Q a w hq => wpIn_skip hq), h⟩
 | region id ops draw =>
  intro s k d hs h
  cases draw with
  | true => exact (fl_no hfl h).elim
  | false =>
   simp only [lineR, cond_false] at h
   obtain ⟨recs, s', ht, hs', hz, hr, hl, h1⟩ := opsR_run hfl _ _ _ _ hs h
   exact ⟨.normal, s', hs', txt_comes0 hκ hs' hl hz hr ht (fun t => .inr rfl), h1⟩
 | seq x y ihx ihy =>
  intro s k d hs h
  simp only [lineR] at h
  obtain ⟨e, s1, hs1, hc1, h1⟩ := ihx s _ d hs h
  cases e with
  | normal =>
   simp only [] at h1
   obtain ⟨e2, s2, hs2, hc2, h2⟩ := ihy s1 k d hs1 h1
   refine ⟨e2, s2, hs2, ⟨hc1.later.trans hc2.later, by rw [hc2.size, hc1.size], by rw [hc2.rd, hc1.rd], fun ω ρ Q a w Im θ sim hA => ?_⟩, h2⟩
   refine wpIn_seq (hc1.wp ω ρ _ a w Im θ sim (fun a' w' Im' θ' sim' hE hN => ?_))
   exact hc2.wp ω ρ Q a' w' Im' θ' sim' (After0.trans hc1.later hE hN hA)
  | exit id =>
   exact ⟨.exit id, s1, hs1, ⟨hc1.later, hc1.size, hc1.rd, fun ω ρ Q a w Im θ sim hA => wpIn_seq (hc1.wp ω ρ _ a w Im θ sim (fun a' w' Im' θ' sim' hE hN => hA a' w' Im' θ' sim' hE hN))⟩, h1⟩
  | ret =>
   exact ⟨.ret, s1, hs1, ⟨hc1.later, hc1.size, hc1.rd, fun ω ρ Q a w Im θ sim hA => wpIn_seq (hc1.wp ω ρ _ a w Im θ sim (fun a' w' Im' θ' sim' hE hN => hA a' w' Im' θ' sim' hE hN))⟩, h1⟩
 | cond c x y ihx ihy =>
  intro s k d hs h
  simp only [lineR] at h
  split at h
  · rename_i b hb
    have hev : ∀ {ω : Nat → Value} {ρ : Option Nat} {a : Act} {w : World} {Im : Nat → Prop} {θ : Th}, Sim P ω ρ s a w Im θ → a.eval c = .bool b := by
     intro ω ρ a w Im θ sim
     have := sim.sf.eval c
     rw [← evT_ev, hb] at this
     generalize a.eval c = u at this
     cases this
     rfl
    cases b with
    | true =>
     obtain ⟨e, s1, hs1, hc1, h1⟩ := ihx s k d hs h
     exact ⟨e, s1, hs1, ⟨hc1.later, hc1.size, hc1.rd, fun ω ρ Q a w Im θ sim hA => wpIn_cond_true (hev sim) (hc1.wp ω ρ Q a w Im θ sim hA)⟩, h1⟩
    | false =>
     obtain ⟨e, s1, hs1, hc1, h1⟩ := ihy s k d hs h
     exact ⟨e, s1, hs1, ⟨hc1.later, hc1.size, hc1.rd, fun ω ρ Q a w Im θ sim hA => wpIn_cond_false (hev sim) (hc1.wp ω ρ Q a w Im θ sim hA)⟩, h1⟩
  · exact (fl_no hfl h).elim
 | block id c ih =>
  intro s k d hs h
  simp only [lineR] at h
  obtain ⟨e, s1, hs1, hc1, h1⟩ := ih s _ d hs h
  cases e with
  | normal => exact ⟨.normal, s1, hs1, ⟨hc1.later, hc1.size, hc1.rd, fun ω ρ Q a w Im θ sim hA => wpIn_block (hc1.wp ω ρ _ a w Im θ sim hA)⟩, h1⟩
  | ret => exact ⟨.ret, s1, hs1, ⟨hc1.later, hc1.size, hc1.rd, fun ω ρ Q a w Im θ sim hA => wpIn_block (hc1.wp ω ρ _ a w Im θ sim hA)⟩, h1⟩
  | exit j =>
   simp only [] at h1
   cases hj : Nat.beq j id with
   | true =>
    rw [hj] at h1
    have hji : j = id := Nat.eq_of_beq_eq_true hj
    subst hji
    refine ⟨.normal, s1, hs1, ⟨hc1.later, hc1.size, hc1.rd, fun ω ρ Q a w Im θ sim hA => wpIn_block (hc1.wp ω ρ _ a w Im θ sim (fun a' w' Im' θ' sim' hE hN => ?_))⟩, h1⟩
    simp only [exitOf, Exit.inBlock, if_true]
    exact hA a' w' Im' θ' sim' hE hN
   | false =>
    rw [hj] at h1
    have hji : ¬ j = id := fun e => by rw [nb_t e] at hj; cases hj
    refine ⟨.exit j, s1, hs1, ⟨hc1.later, hc1.size, hc1.rd, fun ω ρ Q a w Im θ sim hA => wpIn_block (hc1.wp ω ρ _ a w Im θ sim (fun a' w' Im' θ' sim' hE hN => ?_))⟩, h1⟩
    simp only [exitOf, Exit.inBlock, if_neg hji]
    exact hA a' w' Im' θ' sim' hE hN
 | exit id => intro s k d hs h; exact ⟨.exit id, s, hs, comes0_self (fun ρ Q a w hq => wpIn_exit hq), h⟩
 | ret => intro s k d hs h; exact ⟨.ret, s, hs, comes0_self (fun ρ Q a w hq => wpIn_ret hq), h⟩
 | _ => intro s k d hs h; exact (fl_no hfl h).elim
end
end Go.Am
/- The abstract machine: a function that puts off one call of a closure, which asks for what has been raised. -/
namespace Go.Am
variable {P : Program} {ω : Nat → Value}
inductive Out where
 | fin (e : Ex)
 | pan (x : SV)
def Out.gives (P : Program) (ω : Nat → Value) (w : World) (Im : Nat → Prop) (θ : Th) (Q : Exit → Prop) : Out → Prop
 | .fin e => Q (exitOf e)
 | .pan x => ∀ u, VRel P ω w Im θ x u → Q (.panic [{ v := u, recovered := false }])
def AfterX (P : Program) (ω : Nat → Value) (ρ : Option Nat) (s s2 : St) (o : Out) (a : Act) (w : World) (Im : Nat → Prop) (θ : Th) (Q : Exit → Act → World → Prop) : Prop :=
 ∀ a' w' Im' θ', Sim P ω ρ s2 a' w' Im' θ' → Ext (fun x => s.nx ≤ x) s.hp.get w Im θ s2.hp.get w' Im' θ' → a'.defers = a.defers → o.gives P ω w' Im' θ' (fun e => Q e a' w')
structure ComesX (P : Program) (c : Code) (s : St) (o : Out) (s2 : St) : Prop where
 later : Later s s2
 size : s2.size = s.size
 rd : s2.rd = s.rd
 wp : ∀ (ω : Nat → Value) (ρ : Option Nat) (Q : Exit → Act → World → Prop) (a : Act) (w : World) (Im : Nat → Prop) (θ : Th), Sim P ω ρ s a w Im θ → AfterX P ω ρ s s2 o a w Im θ Q → c.wpIn (FR ρ) 0 P Q a w
theorem wanted_none {o : Oper} (h : o.guard = none) (y : Nat → Option Bool) : Region.wanted o y = true := by
 unfold Region.wanted; rw [h]
structure Clo (P : Program) (g : FuncId) (fg : Func) (crest : Code) (v1 v2 : Nat) : Prop where
 fn : P.funcs[g]? = some fg
 nm : (fg.name == "runtime.NumGoroutine") = false
 body : ∃ id p0 p1 c, fg.body = some (.seq (.region id #[p0, p1] false) crest) ∧ p0.op = .call c ∧ c.callee = .builtin .recover ∧ c.args = #[] ∧ p0.guard = none ∧ p0.dst = some v1 ∧ p1.op = .assign (.tmp v1) ∧ p1.guard = none ∧ p1.dst = some v2
 nt : fg.ntmps < 16000
 lt1 : v1 < fg.ntmps
 lt2 : v2 < fg.ntmps
def cloSt (s : St) (n : Nat) (v1 v2 : Nat) (caps : List SV) (x : SV) : St :=
 (({ s with tm := argsTr caps 0 .lf, size := n, rd := none } : St).put (some v1) x).put (some v2) x
theorem clo_calls {g : FuncId} {fg : Func} {crest : Code} {v1 v2 : Nat} (hc : Clo P g fg crest v1 v2) {s sD : St} {caps : List SV} (hcl : caps.length ≤ fg.ntmps) {x : SV} {eD : Ex} (heD : ∀ id, eD ≠ .exit id)
  (hs : StOk s) (hcD : Comes0 P crest (cloSt s fg.ntmps v1 v2 caps x) eD sD) {vsg : List SV} (hres : resultsS P sD fg.results.toList = some vsg)
  {w : World} {Im : Nat → Prop} {θ : Th} (hH : HRel P ω w Im θ s.hp.get) (hF : Fr s.nx θ s.hp.get) {us : List Value} (hcaps : LRel P ω w Im θ caps us) {rv : Value} (hx : VRel P ω w Im θ x rv)
  {u u2 : FrameMode} (hrc : ∀ (c₀ : Frame) (cs : List Frame), c₀.mode = u → recoverD (c₀ :: cs) = some (rv, { c₀ with mode := u2 } :: cs) ∨ (recoverD (c₀ :: cs) = none ∧ rv = .nilIface ∧ u2 = u))
  {R : Ending → FrameMode → World → Prop} (hR : ∀ w' Im' θ', HRel P ω w' Im' θ' sD.hp.get → Fr sD.nx θ' sD.hp.get → Ext (fun x => s.nx ≤ x) s.hp.get w Im θ sD.hp.get w' Im' θ' → ∀ v, R (.returned v) u2 w') :
  CallsDIn (FR none) 0 P g us.toArray u w R := by
 obtain ⟨id, p0, p1, c, hb, h1, h1a, h1b, h2, h3, h4, h5, h6⟩ := hc.body
 refine callsDIn_of_wpSIn hc.fn hb trivial (fun c₀ cs hmode => ?_)
 have hul : us.length = caps.length := hcaps.len.symm
 have sim0 := enter_sim (P := P) (ω := ω) hs (args := caps) (us := us) hcl hc.nt hH hF hcaps
 generalize ha0 : ({ tmps := us.toArray ++ Array.replicate (fg.ntmps - us.toArray.size) undef, defers := [] } : Act) = a0 at sim0 ⊢
 have hd0 : a0.defers = [] := by rw [← ha0]
 have sim1 := put_sim (P := P) sim0 (dst := some v1) hc.lt1 hx
 have hsz1 : (({ s with tm := argsTr caps 0 .lf, size := fg.ntmps, rd := none } : St).put (some v1) x).size = fg.ntmps := put_sz _ _ _
 have sim2 := put_sim (P := P) sim1 (dst := some v2) (show v2 < _ by rw [hsz1]; exact hc.lt2) hx
 have hev : (a0.put (some v1) rv).eval (.tmp v1) = rv := by
  have hsz0 : v1 < a0.tmps.size := by rw [sim0.sf.size]; exact hc.lt1
  simp [Act.put, Act.eval, Array.getD, hsz0]
 have hlay : ∀ cs', (Exit.thenS (crest.wpSIn (FR none) 0 P (bodyPostS P fg c₀ cs R)) (bodyPostS P fg c₀ cs R)) .normal ((a0.put (some v1) rv).put (some v2) rv) cs' w →
   (recoverD (c₀ :: cs) = some (rv, cs') ∨ (recoverD (c₀ :: cs) = none ∧ rv = .nilIface ∧ cs' = c₀ :: cs)) →
   (Code.region id #[p0, p1] false).wpSIn (FR none) 0 P (Exit.thenS (crest.wpSIn (FR none) 0 P (bodyPostS P fg c₀ cs R)) (bodyPostS P fg c₀ cs R)) a0 (c₀ :: cs) w := by
  intro cs' hq hr
  refine wpSIn_region ?_
  show wpOpsSIn (FR none) 0 P #[p0, p1] _ [0, 1] a0 (c₀ :: cs) w
  have e0 : (#[p0, p1] : Array Oper)[0]? = some p0 := rfl
  have e1 : (#[p0, p1] : Array Oper)[1]? = some p1 := rfl
  have r0 : ∀ ρ, (execOp ρ p0).run P w = .ok .recover w := by
   intro ρ
   obtain ⟨dst, op, type, pos, after, guard⟩ := p0
   obtain ⟨callee, cargs, at'⟩ := c
   simp only at h1 h1a h1b
   subst h1; subst h1a; subst h1b
   rfl
  have r1 : ∀ ρ, (execOp ρ p1).run P w = .ok (.value (ρ (.tmp v1))) w := by
   intro ρ
   obtain ⟨dst, op, type, pos, after, guard⟩ := p1
   simp only at h4
   subst h4
   rfl
  have key : ∀ cs2, wpOpsSIn (FR none) 0 P #[p0, p1] (Exit.thenS (crest.wpSIn (FR none) 0 P (bodyPostS P fg c₀ cs R)) (bodyPostS P fg c₀ cs R)) [1] (a0.put p0.dst rv) cs2 w ↔
    wpOpsSIn (FR none) 0 P #[p0, p1] (Exit.thenS (crest.wpSIn (FR none) 0 P (bodyPostS P fg c₀ cs R)) (bodyPostS P fg c₀ cs R)) [] ((a0.put (some v1) rv).put (some v2) rv) cs2 w := by
   intro cs2
   rw [h3]
   simp only [wpOpsSIn, e1, wanted_none h5, if_true, r1, hev, h6]
   exact ⟨fun h => h.2, fun h => ⟨fun f _ => FR_fn none f, h⟩⟩
  have goal0 : wpOpsSIn (FR none) 0 P #[p0, p1] (Exit.thenS (crest.wpSIn (FR none) 0 P (bodyPostS P fg c₀ cs R)) (bodyPostS P fg c₀ cs R)) [1] (a0.put p0.dst rv) cs' w := (key cs').2 hq
  show (∀ f, p0.about P w a0.eval = some f → (FR none).fn f) ∧ _
  refine ⟨fun f _ => FR_fn none f, ?_⟩
  simp only [List.getElem_toArray, List.getElem_cons_zero, wanted_none h2, if_true, r0]
  rcases hr with hr | ⟨hr, hv, hcs⟩
  · simp only [hr]
    exact goal0
  · simp only [hr]
    subst hcs
    rw [← hv]
    exact goal0
 -- what comes behind
 have hrest : ∀ cs', cs' = { c₀ with mode := u2 } :: cs → (Exit.thenS (crest.wpSIn (FR none) 0 P (bodyPostS P fg c₀ cs R)) (bodyPostS P fg c₀ cs R)) .normal ((a0.put (some v1) rv).put (some v2) rv) cs' w := by
  intro cs' hcs'
  show crest.wpSIn (FR none) 0 P (bodyPostS P fg c₀ cs R) _ cs' w
  refine wpSIn_of_wpIn rfl (hcD.wp ω none _ _ w Im θ sim2 (fun aD wD ImD θD simD hE hN => ?_))
  have hd : aD.defers = [] := by rw [hN, put_defers, put_defers, hd0]
  obtain ⟨v, hv, _⟩ := run_results (f := fg) simD.sf hres
  have fin : aD.defers = [] ∧ ∃ u', cs' = { c₀ with mode := u' } :: cs ∧ ∃ v, (results fg aD.tmps).run P wD = .ok v wD ∧ R (.returned v) u' wD :=
   ⟨hd, u2, hcs', v, hv, hR wD ImD θD simD.sf.hp simD.fr (by simp only [cloSt, put_nx, put_hp] at hE; exact hE) v⟩
  cases eD with
  | normal => exact fin
  | ret => exact fin
  | exit id => exact absurd rfl (heD id)
 refine wpSIn_seq ?_
 rcases hrc c₀ cs hmode with hr | ⟨hr, hv, hu⟩
 · exact hlay _ (hrest _ rfl) (.inl hr)
 · refine hlay (c₀ :: cs) (hrest _ ?_) (.inr ⟨hr, hv, rfl⟩)
   rw [hu, ← hmode]
structure Dfr (P : Program) (fn : Func) (c0 rest : Code) (d g : Nat) (caps : List Operand) : Prop where
 body : ∃ id o0 o1 c, fn.body = some (.seq c0 (.seq (.region id #[o0, o1] false) rest)) ∧ o0.op = .makeFunc (.func g) #[] caps.toArray ∧ o0.guard = none ∧ o0.dst = some d ∧
  o1.op = .defer c ∧ c.callee = .value (.tmp d) ∧ c.args = #[] ∧ o1.guard = none ∧ o1.dst = none
theorem caps_rel {s : St} {a : Act} {w : World} {Im : Nat → Prop} {θ : Th} {ρ : Option Nat} (sim : Sim P ω ρ s a w Im θ) (caps : List Operand) : LRel P ω w Im θ (caps.map s.ev) (caps.map a.eval) :=
 ⟨by simp, fun i v u hv hu => by
  simp only [List.getElem?_map, Option.map_eq_some_iff] at hv
  obtain ⟨c, hc, rfl⟩ := hv
  simp only [List.getElem?_map, hc, Option.map_some, Option.some.injEq] at hu
  subst hu
  have := sim.sf.eval c
  rwa [← evT_ev] at this⟩
theorem LRel.step {new : Nat → Prop} {h h' : HpF} {w w' : World} {Im Im' : Nat → Prop} {θ θ' : Th} {vs : List SV} {us : List Value} (l : LRel P ω w Im θ vs us) (hH : HRel P ω w Im θ h) (hE : Ext new h w Im θ h' w' Im' θ') : LRel P ω w' Im' θ' vs us :=
 ⟨l.len, fun i v u hv hu => hE.val hH (l.at_ i v u hv hu)⟩
theorem defer_calls {f g : FuncId} {fn fg : Func} {c0 rest crest : Code} {d v1 v2 : Nat} {caps : List Operand} (hf : P.funcs[f]? = some fn) (hD : Dfr P fn c0 rest d g caps) (hC : Clo P g fg crest v1 v2)
  {s0 sA sB sD : St} {eB eD : Ex} (heB : ∀ id, eB ≠ .exit id) (heD : ∀ id, eD ≠ .exit id) (hsB : StOk sB) (hsD : StOk sD)
  (hcA : Comes0 P c0 s0 .normal sA) (hdA : d < sA.size) (hcl : caps.length ≤ fg.ntmps) (hcB : Comes0 P rest (sA.put (some d) (.fn (.func g) [] (caps.map sA.ev))) eB sB)
  (hcD : Comes0 P crest (cloSt sB fg.ntmps v1 v2 (caps.map sA.ev) .nili) eD sD) {vsg : List SV} (hres : resultsS P sD fg.results.toList = some vsg)
  {us : List Value} {w : World} {Im : Nat → Prop} {θ : Th} (sim : Sim P ω none s0 { tmps := us.toArray ++ Array.replicate (fn.ntmps - us.toArray.size) undef, defers := [] } w Im θ)
  {vs : List SV} (hvs : resultsS P { sD with tm := sB.tm, size := sB.size, rd := sB.rd } fn.results.toList = some vs) {R : Ending → World → Prop}
  (hR : ∀ u w' Im' θ', HRel P ω w' Im' θ' sD.hp.get → Fr sD.nx θ' sD.hp.get → Ext (fun x => s0.nx ≤ x) s0.hp.get w Im θ sD.hp.get w' Im' θ' → VRel P ω w' Im' θ' (oneOrTup vs) u → R (.returned u) w') : CallsIn (FR none) 0 P f us.toArray w R := by
 obtain ⟨id, o0, o1, c, hb, h1, h2, h3, h4, h4a, h4b, h5, h6⟩ := hD.body
 refine callsIn_of_wp_defers hf hb trivial ?_ rfl
 refine wpIn_seq (hcA.wp ω none _ _ w Im θ sim (fun a1 w1 Im1 θ1 sim1 hE1 hN1 => ?_))
 show (Code.seq (.region id #[o0, o1] false) rest).wpIn (FR none) 0 P _ a1 w1
 refine wpIn_seq ?_
 refine wpIn_region ?_
 show wpOpsIn (FR none) 0 P #[o0, o1] _ [0, 1] a1 w1
 have r0 : ∀ ρ : Operand → Value, (o0.semAt none ρ).run P w1 = .ok (.value (.func (.func g) #[] (caps.toArray.map ρ))) w1 := by
  intro ρ
  refine semAt_value ?_
  obtain ⟨dst, op, type, pos, after, guard⟩ := o0
  simp only at h1
  subst h1
  simp [execOp, Instr.makeFunc]
 have hdA1 : d < a1.tmps.size := by rw [sim1.sf.size]; exact hdA
 have hev : ∀ v, (a1.put (some d) v).eval (.tmp d) = v := by
  intro v
  simp [Act.put, Act.eval, Array.getD, hdA1]
 have r1 : ∀ ρ : Operand → Value, ρ (.tmp d) = .func (.func g) #[] (caps.toArray.map a1.eval) → (o1.semAt none ρ).run P w1 = .ok (.defer { target := .fn (.func g) (caps.toArray.map a1.eval), args := #[] }) w1 := by
  intro ρ hρ
  rw [Oper.semAt_none]
  obtain ⟨dst, op, type, pos, after, guard⟩ := o1
  obtain ⟨callee, cargs, at'⟩ := c
  simp only at h4 h4a h4b
  subst h4; subst h4a; subst h4b
  simp [execOp, resolve, hρ, Deferred.ofValue]
 have simA := put_sim (P := P) sim1 (dst := some d) hdA (r := .fn (.func g) [] (caps.map sA.ev)) (v := .func (.func g) #[] (caps.toArray.map a1.eval))
  (.fn rfl (by simp) (fun i v u hv hu => by simp at hv) (fun i v u hv hu => (caps_rel sim1 caps).at_ i v u hv (by rw [← hu]; simp)))
 generalize hcv : caps.toArray.map a1.eval = cv at r0 r1 simA
 have hcl1 : LRel P ω w1 Im1 θ1 (caps.map sA.ev) cv.toList := by rw [← hcv]; simpa using caps_rel sim1 caps
 have hd1 : a1.defers = [] := hN1
 -- the frame behind the region
 have simA2 : Sim P ω none (sA.put (some d) (.fn (.func g) [] (caps.map sA.ev))) { a1.put (some d) (.func (.func g) #[] cv) with defers := [{ target := .fn (.func g) cv, args := #[] }] } w1 Im1 θ1 :=
  ⟨simA.ok, ⟨simA.sf.size, simA.sf.tm, simA.sf.out, ⟨[], [{ target := .fn (.func g) cv, args := #[] }], rfl, fun e he r => by
   rw [List.mem_singleton] at he
   subst he
   intro hh
   simp at hh, List.nodup_nil, fun r hr => by cases hr⟩, simA.sf.hp⟩, simA.fr, simA.rd⟩
 have goal2 : rest.wpIn (FR none) 0 P (bodyPostDIn (FR none) 0 P fn R) { a1.put (some d) (.func (.func g) #[] cv) with defers := [{ target := .fn (.func g) cv, args := #[] }] } w1 := by
  refine hcB.wp ω none _ _ w1 Im1 θ1 simA2 (fun aB wB ImB θB simB hEB hNB => ?_)
  have hEB' : Ext (fun x => sA.nx ≤ x) sA.hp.get w1 Im1 θ1 sB.hp.get wB ImB θB := by simp only [put_nx, put_hp] at hEB; exact hEB
  have hlB : Later sA sB := (put_later _ _ _).trans hcB.later
  have key : LeavesIn (FR none) 0 P fn aB.tmps R aB.defers .returning wB := by
   rw [show aB.defers = [{ target := .fn (.func g) cv, args := #[] }] from hNB]
   refine leavesIn_cons (by simp) (FR_depth1 none) (f := g) (args := cv) ?_ (fun g _ => FR_fn none g) ?_
   · have hn1 : ¬ fg.name = "runtime.NumGoroutine" := by simpa using hC.nm
     have hn2 : ¬ fg.body = none := by
      obtain ⟨i, p0, p1, c', hbb, -⟩ := hC.body
      rw [hbb]; simp
     simp [invoke, callFunc, hC.fn, hn1, hn2]
   · have hcalls := clo_calls (P := P) (ω := ω) hC (s := sB) (sD := sD) (caps := caps.map sA.ev) (by simpa using hcl) (x := .nili) heD hsB hcD hres simB.sf.hp simB.fr (us := cv.toList) (hcl1.step sim1.sf.hp hEB') (rv := .nilIface) .nili
       (u := .returning) (u2 := .returning) (fun c₀ cs hm => .inr ⟨by simp [recoverD, hm], rfl, rfl⟩)
       (R := fun e u' w' => match e with
        | .returned _ => LeavesIn (FR none) 0 P fn aB.tmps R [] (settle u') w'
        | .panicked chain => LeavesIn (FR none) 0 P fn aB.tmps R [] (raised u' chain) w'
        | .outgrown => R .outgrown w') (fun w' Im' θ' hH hF hE v => by
         have hlD : Later sB sD := ⟨hcD.later.m, hcD.later.nx, hcD.later.same, hcD.later.up, hcD.later.low⟩
         have hS := frame_sim simB hsD hlD hH hF hE
         obtain ⟨u, hu1, hu2⟩ := run_results (f := fn) hS.sf hvs
         refine ⟨u, hu1, hR u w' Im' θ' hH hF ?_ hu2⟩
         exact (hE1.trans (hEB'.mono (fun x hx => Nat.le_trans hcA.later.nx hx))).trans (hE.mono (fun x hx => Nat.le_trans hcA.later.nx (Nat.le_trans hlB.nx hx))))
     have e : cv.toList.toArray = cv := by simp
     rw [e] at hcalls
     exact hcalls.mono (fun e u' w' h => by cases e <;> exact h)
  cases eB with
  | normal => exact key
  | ret => exact key
  | exit id => exact absurd rfl (heB id)
 -- the region
 have e0 : (#[o0, o1] : Array Oper)[0]? = some o0 := rfl
 have e1 : (#[o0, o1] : Array Oper)[1]? = some o1 := rfl
 simp only [wpOpsIn, e0, e1, wanted_none h2, wanted_none h5, if_true]
 refine ⟨fun f _ => FR_fn none f, ?_⟩
 show Oper.uponIn (FR none) 0 P o0 a1 _ _ ((o0.semAt none a1.eval).run P w1)
 rw [r0, hcv, Oper.uponIn_value, h3]
 refine ⟨fun f _ => FR_fn none f, ?_⟩
 show Oper.uponIn (FR none) 0 P o1 _ _ _ ((o1.semAt none (a1.put (some d) (.func (.func g) #[] cv)).eval).run P w1)
 rw [r1 _ (by rw [hev]), Oper.uponIn_defer, h6]
 show rest.wpIn (FR none) 0 P _ _ w1
 have ed : ({ a1.put (some d) (.func (.func g) #[] cv) with defers := { target := .fn (.func g) cv, args := #[] } :: (a1.put (some d) (.func (.func g) #[] cv)).defers } : Act).put none undef = { a1.put (some d) (.func (.func g) #[] cv) with defers := [{ target := .fn (.func g) cv, args := #[] }] } := by
  rw [put_defers, hd1]; rfl
 rw [ed]
 exact goal2
def deferC (P : Program) (κ : Nat → Option CSumm) (fn fg : Func) (c0 rest crest : Code) (d g v1 v2 : Nat) (caps : List Operand) : CSumm := fun args H =>
 bif canonB H 0 && closedB H.length H && Nat.ble args.length fn.ntmps && Nat.blt fn.ntmps 16000 && Nat.blt H.length 1000000 then
  lineR .fail P κ c0 (initSt false fn args H) fun e sA => match e with
   | .normal => bif Nat.blt d sA.size && Nat.ble caps.length fg.ntmps then
     lineR .fail P κ rest (sA.put (some d) (.fn (.func g) [] (caps.map sA.ev))) fun e sB => match e with
      | .exit _ => .fail
      | _ => lineR .fail P κ crest (cloSt sB fg.ntmps v1 v2 (caps.map sA.ev) .nili) fun e sD => match e with
       | .exit _ => .fail
       | _ => match resultsS P sD fg.results.toList with
        | some _ => finishC P fn { sD with tm := sB.tm, size := sB.size, rd := sB.rd }
        | none => .fail
    else .fail
   | _ => .fail
 else .fail
theorem cloSt_ok {s : St} (hs : StOk s) {n v1 v2 : Nat} {caps : List SV} {x : SV} (h1 : caps.length ≤ n) (h2 : n < 16000) (hv1 : v1 < n) (hv2 : v2 < n) : StOk (cloSt s n v1 v2 caps x) := by
 have h0 := enter_ok hs h1 h2
 have h3 := put_ok h0 (d := some v1) hv1 x
 exact put_ok h3 (d := some v2) (by show v2 < _; rw [put_sz]; exact hv2) x
theorem cloSt_later (s : St) (n v1 v2 : Nat) (caps : List SV) (x : SV) : Later s (cloSt s n v1 v2 caps x) :=
 (frame_later s s _ _ _ (Later.refl s)).trans ((put_later _ _ _).trans (put_later _ _ _))
theorem defer_valid {κ : Nat → Option CSumm} (hκ : KOk P κ) {f g : FuncId} {fn fg : Func} {c0 rest crest : Code} {d v1 v2 : Nat} {caps : List Operand} (hf : P.funcs[f]? = some fn) (hD : Dfr P fn c0 rest d g caps) (hC : Clo P g fg crest v1 v2) :
  ValidC P f (deferC P κ fn fg c0 rest crest d g v1 v2 caps) := by
 intro args H v ups hrun _ ω θ Im w us hargs hH hfr
 unfold deferC at hrun
 cases hc : canonB H 0 && closedB H.length H && Nat.ble args.length fn.ntmps && Nat.blt fn.ntmps 16000 && Nat.blt H.length 1000000 with
 | false => rw [hc] at hrun; simp [crun] at hrun
 | true =>
  rw [hc] at hrun
  simp only [cond_true] at hrun
  simp only [Bool.and_eq_true] at hc
  obtain ⟨⟨⟨⟨c1, c2⟩, c3⟩, c4⟩, c5⟩ := hc
  have hal : args.length ≤ fn.ntmps := by rwa [Nat.ble_eq] at c3
  have hnt : fn.ntmps < 16000 := by rwa [Nat.blt_eq] at c4
  have hHl : H.length < 1000000 := by rwa [Nat.blt_eq] at c5
  have hhp : (initSt false fn args H).hp.get = H.get := heapTr_init c1 (by omega)
  have hs0 : StOk { initSt false fn args H with tm := .lf, size := 0 } := by
   refine ⟨by show 0 < 16000; omega, hHl, fun t _ => rfl, ?_, Nat.le_refl _⟩
   intro x c hx
   have hx' : (initSt false fn args H).hp.get x = some c := hx
   rw [hhp] at hx'
   exact canon_lt c1 hx'
  have hst : StOk (initSt false fn args H) := enter_ok hs0 hal hnt
  obtain ⟨eA, sA, hsA, hcA, hrA⟩ := lineR_ok (den := crun) rfl hκ c0 _ _ _ hst hrun
  cases eA with
  | exit id => simp [crun] at hrA
  | ret => simp [crun] at hrA
  | normal =>
   simp only [] at hrA
   cases hd : Nat.blt d sA.size && Nat.ble caps.length fg.ntmps with
   | false => rw [hd] at hrA; simp [crun] at hrA
   | true =>
    rw [hd] at hrA
    simp only [cond_true] at hrA
    simp only [Bool.and_eq_true] at hd
    have hdA : d < sA.size := by have := hd.1; rwa [Nat.blt_eq] at this
    have hcl : caps.length ≤ fg.ntmps := by have := hd.2; rwa [Nat.ble_eq] at this
    obtain ⟨eB, sB, hsB, hcB, hrB⟩ := lineR_ok (den := crun) rfl hκ rest _ _ _ (put_ok hsA (d := some d) hdA _) hrA
    have heB : ∀ id, eB ≠ .exit id := by rintro id rfl; simp [crun] at hrB
    have hrB' : crun (lineR .fail P κ crest (cloSt sB fg.ntmps v1 v2 (caps.map sA.ev) .nili) fun e sD => match e with
          | .exit _ => .fail
          | _ => match resultsS P sD fg.results.toList with
           | some _ => finishC P fn { sD with tm := sB.tm, size := sB.size, rd := sB.rd }
           | none => .fail) = some (v, ups) := by
     cases eB with
     | exit id => exact absurd rfl (heB id)
     | normal => exact hrB
     | ret => exact hrB
    obtain ⟨eD, sD, hsD, hcD, hrD⟩ := lineR_ok (den := crun) rfl hκ crest _ _ _ (cloSt_ok hsB (by simpa using hcl) hC.nt hC.lt1 hC.lt2) hrB'
    have heD : ∀ id, eD ≠ .exit id := by rintro id rfl; simp [crun] at hrD
    have hrD' : crun (match resultsS P sD fg.results.toList with
            | some _ => finishC P fn { sD with tm := sB.tm, size := sB.size, rd := sB.rd }
            | none => .fail) = some (v, ups) := by
     cases eD with
     | exit id => exact absurd rfl (heD id)
     | normal => exact hrD
     | ret => exact hrD
    cases hres : resultsS P sD fg.results.toList with
    | none => rw [hres] at hrD'; simp [crun] at hrD'
    | some vsg =>
     rw [hres] at hrD'
     simp only [] at hrD'
     have hlater : Later (initSt false fn args H) { sD with tm := sB.tm, size := sB.size, rd := sB.rd } :=
      frame_later _ _ _ _ _ (hcA.later.trans ((put_later _ _ _).trans (hcB.later.trans ((cloSt_later _ _ _ _ _ _).trans hcD.later))))
     generalize hsF : ({ sD with tm := sB.tm, size := sB.size, rd := sB.rd } : St) = sF at *
     have hFhp : sF.hp = sD.hp := by rw [← hsF]
     have hFnx : sF.nx = sD.nx := by rw [← hsF]
     have hm2 : sF.m = H.length := hlater.m
     unfold finishC at hrD'
     cases hrs : resultsS P sF fn.results.toList with
     | none => rw [hrs] at hrD'; simp [crun] at hrD'
     | some vs =>
      rw [hrs] at hrD'
      simp only [] at hrD'
      cases hre : reachNew sF.hp sF.m 2000 (namesS (oneOrTup vs) ++ dirtyNames sF.hp sF.dirty) [] with
      | none => rw [hre] at hrD'; simp [crun] at hrD'
      | some ns =>
       rw [hre] at hrD'
       simp only [crun, Option.some.injEq, Prod.mk.injEq] at hrD'
       rw [hm2] at hrD'
       obtain ⟨rfl, rfl⟩ := hrD'
       have hfr0 : Fr (initSt false fn args H).nx θ (initSt false fn args H).hp.get := by
        intro x hx
        have hx' : H.length ≤ x := hx
        refine ⟨hfr x hx', ?_⟩
        rw [hhp]
        cases hg : H.get x with
        | none => rfl
        | some c => have := canon_lt c1 hg; omega
       have sim0 := enter_sim (P := P) hs0 (args := args) (us := us) hal hnt (w := w) (Im := Im) (θ := θ) (by show HRel P ω w Im θ (initSt false fn args H).hp.get; rw [hhp]; exact hH) hfr0 hargs
       refine (callsIn_wide (n := 0)).1 (defer_calls (ω := ω) hf hD hC heB heD hsB hsD hcA hdA hcl hcB hcD hres sim0 (vs := vs) (by rw [hsF]; exact hrs) (fun u w' Im' θ' hH2 _ hE hvu => ?_))
       have hsame : ∀ x, x < H.length → sF.hp.get x = H.get x ∨ x ∈ sF.dirty := by
        intro x hx
        have := hlater.same x hx
        rwa [hhp] at this
       have hdl : ∀ x ∈ sF.dirty, x < H.length := by
        intro x hx
        rcases hlater.low x hx with h | h
        · cases h
        · exact h
       have hext : Ext (fun x => H.length ≤ x) H.get w Im θ sF.hp.get w' Im' θ' := by
        rw [← hhp, hFhp]; exact hE
       obtain ⟨θ3, g1, g2, g3, -⟩ := finish_gen c1 c2 hfr hm2 hsame hdl hre (by rw [hFhp]; exact hH2) hext hvu
       exact ⟨u, θ3, Im', rfl, g1, g2, g3⟩
end Go.Am
