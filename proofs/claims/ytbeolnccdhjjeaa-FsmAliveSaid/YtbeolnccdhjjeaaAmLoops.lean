/- The abstract machine: loops, by what is known of them. -/
import Derived.Test.YtbeolnccdhjjeaaAmBody
namespace Go.Am
variable {P : Program} {ω : Nat → Value}

def ValidL (P : Program) (e : LEnt) : Prop :=
  ∀ (args : List SV) (H : HpL) (k : IntKind) (c : Int) (outs : List SV) (ups : List (Nat × Option Chunk)), crun (e.s args H) = some (.tup (.int k c :: outs), ups) → Canon H → outs.length = e.outs.length → args.length = e.ins.length →
    ∃ m, ∀ (ω : Nat → Value) (θ : Th) (Im : Nat → Prop) (w : World) (a : Act) (Q : Exit → Act → World → Prop), a.tmps.size = e.size → LRel P ω w Im θ args (e.ins.map fun t => a.tmps.getD t undef) → HRel P ω w Im θ H.get →
      (∀ x, H.length ≤ x → θ x = none) → Mk w Im θ H.get a.defers →
      (∀ a' w' Im' θ', a'.tmps.size = e.size → Ext (fun x => H.length ≤ x) H.get w Im θ (updF ups H.get) w' Im' θ' → LRel P ω w' Im' θ' outs (e.outs.map fun t => a'.tmps.getD t undef) → HRel P ω w' Im' θ' (updF ups H.get) →
        (∀ t ∈ e.keep, a'.tmps.getD t undef = a.tmps.getD t undef) → Mk w' Im' θ' (updF ups H.get) a'.defers → New a a' w → Q (exitOf (exOf c)) a' w') →
      Code.roundsIn (FR none) 0 P e.code Q m a w

theorem keepT_get : ∀ (l : List Nat) (s : St) (t : Tr SV) (j : Nat), (∀ x ∈ l, x < 16000) → (keepT l s t).get j = if j ∈ l then some (s.tmp j) else t.get j
  | [], s, t, j, _ => by simp [keepT]
  | x :: l, s, t, j, h => by
    simp only [keepT]
    rw [keepT_get l s _ j (fun y hy => h y (by simp [hy]))]
    rw [Tr.get_set 14 t x _ j (by have := h x (by simp); omega)]
    by_cases h1 : j ∈ l
    · simp [h1]
    · by_cases h2 : j = x
      · subst h2; simp [h1]
      · simp [h1, h2]
theorem keepI_get : ∀ (l : List Nat) (t : Tr SV) (j : Nat), (∀ x ∈ l, x < 16000) → (keepI l t).get j = if j ∈ l then some (.opq j) else t.get j
  | [], t, j, _ => by simp [keepI]
  | x :: l, t, j, h => by
    simp only [keepI]
    rw [keepI_get l _ j (fun y hy => h y (by simp [hy]))]
    rw [Tr.get_set 14 t x _ j (by have := h x (by simp); omega)]
    by_cases h1 : j ∈ l
    · simp [h1]
    · by_cases h2 : j = x
      · subst h2; simp [h1]
      · simp [h1, h2]
/-- What stands at a place that is set from a list. -/
theorem setPs_at : ∀ (l : List Nat) (vs : List SV) (t : Tr SV) (j : Nat), (∀ x ∈ l, x < 16000) → ((setPs l vs t).get j = t.get j ∧ (j ∉ l ∨ l.length ≠ vs.length)) ∨ ∃ i : Nat, l[i]? = some j ∧ ∃ v, vs[i]? = some v ∧ (setPs l vs t).get j = some v
  | [], vs, t, j, _ => by left; cases vs <;> exact ⟨rfl, .inl (by simp)⟩
  | x :: l, [], t, j, _ => .inl ⟨rfl, .inr (by simp)⟩
  | x :: l, v :: vs, t, j, h => by
    simp only [setPs]
    rcases setPs_at l vs (t.set 14 x (some v)) j (fun y hy => h y (by simp [hy])) with ⟨h1, h2⟩ | ⟨i, h1, v', h2, h3⟩
    · rw [h1, Tr.get_set 14 t x _ j (by have := h x (by simp); omega)]
      by_cases h4 : j = x
      · subst h4
        exact .inr ⟨0, rfl, v, rfl, by simp⟩
      · rw [if_neg h4]
        refine .inl ⟨rfl, ?_⟩
        rcases h2 with h2 | h2
        · exact .inl (by simp [h4, h2])
        · exact .inr (by simpa using h2)
    · exact .inr ⟨i + 1, by simpa using h1, v', by simpa using h2, h3⟩

theorem lrel_map {w : World} {Im : Nat → Prop} {θ : Th} {f : Nat → SV} {g : Nat → Value} : ∀ {l : List Nat}, (∀ t ∈ l, VRel P ω w Im θ (f t) (g t)) → LRel P ω w Im θ (l.map f) (l.map g) := by
  intro l hl
  refine ⟨by simp, fun i v u hv hu => ?_⟩
  simp only [List.getElem?_map, Option.map_eq_some_iff] at hv hu
  obtain ⟨t, ht, rfl⟩ := hv
  obtain ⟨t', ht', rfl⟩ := hu
  rw [ht] at ht'
  cases ht'
  exact hl t (List.mem_of_getElem? ht)

theorem mark_inj {rs rs' : List Nat} (h : rs.map mark = rs'.map mark) : rs = rs' := by
  induction rs generalizing rs' with
  | nil => cases rs' with
    | nil => rfl
    | cons => simp at h
  | cons r rs ih => cases rs' with
    | nil => simp at h
    | cons r' rs' =>
      simp only [List.map_cons, List.cons.injEq] at h
      have h1 := h.1
      simp only [mark, Deferred.mk.injEq, Target.collected.injEq, and_true] at h1
      rw [h1, ih h.2]

section
variable {R D : Type} {fl : R} {den : R → Option D} (hfl : den fl = none)
include hfl

theorem loopK_run {e : LEnt} (hv : ValidL P e) {s : St} {k : Ex → St → R} {d : D} (hs : StOk s) (h : den (loopK fl e s k) = some d) : ∃ ex s2, StOk s2 ∧ Comes P (.loop e.code) s ex s2 ∧ den (k ex s2) = some d := by
  unfold loopK at h
  cases hrd : s.rd with
  | some y => rw [hrd] at h; exact (fl_no hfl h).elim
  | none =>
    rw [hrd] at h
    simp only [] at h
    cases hb : Nat.beq s.size e.size && lowB s.size e.ins && lowB s.size e.outs && lowB s.size e.keep with
    | false => rw [hb] at h; exact (fl_no hfl h).elim
    | true =>
      rw [hb] at h
      simp only [cond_true] at h
      simp only [Bool.and_eq_true] at hb
      obtain ⟨⟨⟨b1, b2⟩, b3⟩, b4⟩ := hb
      have hsz : s.size = e.size := Nat.eq_of_beq_eq_true b1
      have hins := lowB_spec _ b2
      have houts := lowB_spec _ b3
      have hkeep := lowB_spec _ b4
      have hsmall := hs.size
      obtain ⟨r, ups, nx, rs', hm, h2⟩ := interp_run hfl _ _ h
      cases hbn : Nat.blt nx 1000000 with
      | false => rw [hbn] at h2; exact (fl_no hfl h2).elim
      | true =>
        rw [hbn] at h2
        simp only [cond_true] at h2
        have hnx : nx < 1000000 := by rw [Nat.blt_eq] at hbn; exact hbn
        split at h2
        case h_2 => exact (fl_no hfl h2).elim
        rename_i kk c outs
        cases hbl : Nat.beq outs.length e.outs.length with
        | false => rw [hbl] at h2; exact (fl_no hfl h2).elim
        | true =>
          rw [hbl] at h2
          simp only [cond_true] at h2
          have hol : outs.length = e.outs.length := Nat.eq_of_beq_eq_true hbl
          obtain ⟨hle, hkeys⟩ := callS_wf hm
          have hk : ∀ p ∈ ups, p.1 < nx := by
            intro p hp
            rcases hkeys p hp with h3 | h3
            · obtain ⟨c, hc⟩ := mrun_reads _ _ hm p.1 h3
              have := hs.dom _ c hc; omega
            · exact h3.2
          have hk2 : ∀ p ∈ ups, p.1 < 1000000 := fun p hp => by have := hk p hp; omega
          have ou := upd_ok hs hle hnx hk
          have hhp : (s.upd ups nx).hp.get = updF ups s.hp.get := upsTr_get _ _ hk2
          -- the temporaries behind the loop
          have htm : ∀ j, ((afterL e outs ups nx s).tmp j = .junk) ∨ (j ∈ e.keep ∧ (afterL e outs ups nx s).tmp j = s.tmp j) ∨ ∃ i : Nat, e.outs[i]? = some j ∧ ∃ v, outs[i]? = some v ∧ (afterL e outs ups nx s).tmp j = v := by
            intro j
            have hk16 : ∀ x ∈ e.keep, x < 16000 := fun x hx => by have := hkeep x hx; omega
            have ho16 : ∀ x ∈ e.outs, x < 16000 := fun x hx => by have := houts x hx; omega
            have he : (afterL e outs ups nx s).tmp j = match (setPs e.outs outs (keepT e.keep s .lf)).get j with
              | some v => v
              | none => .junk := rfl
            rcases setPs_at e.outs outs (keepT e.keep s .lf) j ho16 with ⟨g1, -⟩ | ⟨i, g1, v, g2, g3⟩
            · rw [he, g1, keepT_get _ _ _ _ hk16]
              by_cases hj : j ∈ e.keep
              · simp [hj]
              · simp [hj, Tr.get_lf]
            · exact .inr (.inr ⟨i, g1, v, g2, by rw [he, g3]⟩)
          have hok : StOk (afterL e outs ups nx s) := by
            refine ⟨hs.size, ou.nx, fun t ht => ?_, ou.dom, ou.m⟩
            have ht' : s.size ≤ t := ht
            rcases htm t with g | ⟨g, _⟩ | ⟨i, g, _⟩
            · exact g
            · have := hkeep t g; omega
            · have := houts t (List.mem_of_getElem? g); omega
          obtain ⟨args', H, v, u, back, q1, q2, q3, q4, hsem⟩ := enter_gen (P := P) hm
          -- the loop's own names
          have hvf : ∃ outsL, v = .tup (.int kk c :: outsL) ∧ outs = renL back outsL := by
            cases v <;> simp only [renS] at q4 <;> try (cases q4; done)
            rename_i vs
            cases vs with
            | nil => simp [renL] at q4
            | cons x vs =>
              simp only [renL, SV.tup.injEq, List.cons.injEq] at q4
              obtain ⟨h3, h4⟩ := q4
              cases x <;> simp only [renS] at h3 <;> try (cases h3; done)
              cases h3
              exact ⟨vs, rfl, h4⟩
          obtain ⟨outsL, rfl, rfl⟩ := hvf
          have holL : outsL.length = e.outs.length := by rw [renL_eq] at hol; simpa using hol
          obtain ⟨m, hmv⟩ := hv args' H kk c outsL u q1 q2 holL (by rw [q3]; simp)
          refine ⟨exOf c, afterL e (renL back outsL) ups nx s, hok, ⟨⟨rfl, hle, (upd_later hle hk2).same, (upd_later hle hk2).up, (upd_later hle hk2).low⟩, rfl, rfl, m, ?_⟩, h2⟩
          intro ω ρ Q a w Im θ sim hA
          have hρ : ρ = none := by
            rcases sim.rd with ⟨_, g⟩ | ⟨y, b, N, g, _⟩
            · exact g
            · rw [hrd] at g; cases g
          subst hρ
          show Code.roundsIn (FR none) 0 P e.code Q m a w
          have hargs : LRel P ω w Im θ (e.ins.map s.tmp) (e.ins.map fun t => a.tmps.getD t undef) := lrel_map (fun t ht => sim.sf.tm t (hins t ht))
          obtain ⟨θL, l1, l2, l3, l4, l5⟩ := hsem sim.sf.hp hargs (fun x h1 _ => sim.fr x h1)
          obtain ⟨rs0, d1, d2, d3⟩ := sim.sf.df
          have hMkL : Mk w Im θL H.get a.defers := ⟨rs0, d1, d2, fun r hr => ⟨(d3 r hr).1, (d3 r hr).2.1, fun y c N hy hb => by
            obtain ⟨x, c0, hx, hxb⟩ := l4 y c r N hy hb
            exact (d3 r hr).2.2 x c0 N hx hxb⟩⟩
          refine hmv ω θL Im w a Q (by rw [sim.sf.size, hsz]) l1 l2 l3 hMkL (fun a' w' Im' θL' e1 e2 e3 e4 e5 e6 e7 => ?_)
          -- back
          have hz : VRel P ω w' Im' θL' (.tup (.int kk c :: outsL)) (.tuple (.int kk c :: (e.outs.map fun t => a'.tmps.getD t undef)).toArray) := by
            refine .tup (by simpa using e3.len) (fun i v u hv hu => ?_)
            cases i with
            | zero => simp at hv hu; subst hv; subst hu; exact .int
            | succ i => exact e3.at_ i v u (by simpa using hv) (by simpa using hu)
          obtain ⟨θ', f1, f2, f3, f4, f5⟩ := l5 _ w' θL' Im' e2 hz e4
          have hE' : Ext (fun x => s.nx ≤ x) s.hp.get w Im θ (updF ups s.hp.get) w' Im' θ' := f1.mono (fun x hx => hx.1)
          have hval : ∀ t, VRel P ω w Im θ (s.tmp t) (a.tmps.getD t undef) → VRel P ω w' Im' θ' (s.tmp t) (a.tmps.getD t undef) := fun t ht => hE'.val sim.sf.hp ht
          refine hA a' w' Im' θ' ⟨hok, ⟨by rw [e1]; exact hsz.symm, fun t ht => ?_, hok.out, ?_, ?_⟩, ?_, .inl ⟨hrd, rfl⟩⟩ ?_ e7
          · have ht' : t < s.size := ht
            rcases htm t with g | ⟨g, g2⟩ | ⟨i, g, v, g2, g3⟩
            · rw [g]; exact .junk
            · rw [g2, e5 t g]; exact hval t (sim.sf.tm t ht')
            · rw [g3]
              have f2' : LRel P ω w' Im' θ' (.int kk c :: renL back outsL) (.int kk c :: (e.outs.map fun t => a'.tmps.getD t undef)) := by
                cases f2 with
                | tup p1 p2 => exact ⟨by simpa using p1, fun i v u hv hu => p2 i v u hv (by simpa using hu)⟩
              exact f2'.at_ (i + 1) v _ (by simpa using g2) (by simp [g])
          · -- marks
            show Mk w' Im' θ' ((s.upd ups nx).hp.get) a'.defers
            rw [hhp]
            obtain ⟨rs1, m1, m2, m3⟩ := e6
            obtain ⟨rs2, n1, n2⟩ := e7
            refine ⟨rs1, m1, m2, fun r hr => ⟨(m3 r hr).1, (m3 r hr).2.1, fun x c N hx hb => ?_⟩⟩
            rcases f4 x c r N hx hb with ⟨y, c0, hy, hyb⟩ | ⟨c0, hx0, hxb⟩
            · exact (m3 r hr).2.2 y c0 N hy hyb
            · have hr2 : r ∈ rs2 ∨ r ∈ rs0 := by
                have : rs1 = rs2 ++ rs0 := mark_inj (by
                  have h5 : a'.defers = rs1.map mark := m1
                  have h6 : a.defers = rs0.map mark := d1
                  rw [List.map_append, ← h5, n1, h6])
                rw [this] at hr
                exact List.mem_append.1 hr
              rcases hr2 with h3 | h3
              · have h4 := n2 r h3
                have := (sim.sf.hp.own x c0 r N hx0 hxb).2
                omega
              · exact (d3 r h3).2.2 x c0 N hx0 hxb
          · show HRel P ω w' Im' θ' ((s.upd ups nx).hp.get)
            rw [hhp]; exact f3
          · show Fr nx θ' ((s.upd ups nx).hp.get)
            rw [hhp]
            exact sim.fr.step hle hkeys (mrun_reads _ _ hm) f1
          · show Ext (fun x => s.nx ≤ x) s.hp.get w Im θ ((s.upd ups nx).hp.get) w' Im' θ'
            rw [hhp]; exact hE'
end
end Go.Am
