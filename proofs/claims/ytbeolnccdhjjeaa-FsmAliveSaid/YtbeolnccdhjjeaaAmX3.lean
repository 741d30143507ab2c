/- The abstract machine: the elements that are read, and 'append'. -/
import Derived.Test.YtbeolnccdhjjeaaAmX2
import Derived.Laws.AppendOwn
namespace Go.Am
variable {P : Program} {ω : Nat → Value}

/-- What a slice or a string is read as. -/
structure Src (P : Program) (w : World) (sz : Nat) (u : Value) (m : Nat) (news : List Value) : Prop where
  len : ∀ w' : World, (Builtin.lenOf u).run P w' = .ok m w'
  cells : ∀ w' : World, w'.heap = w.heap → (Builtin.firstCells sz m u).run P w' = .ok news.toArray w'
  size : news.length = m * sz

theorem src_slice {w : World} {sz m cap : Nat} {a : Addr} {news : List Value} (hl : news.length = m * sz) (hc : ∀ j u, news[j]? = some u → w.cell? (a.add j) = some u) : Src P w sz (.slice (some a) m cap) m news where
  len _ := rfl
  cells w' hw := run_firstCells_some w' sz m a m cap news hl (fun j u hj => by
    have := hc j u hj
    simp only [World.cell?] at this ⊢
    rw [hw]; exact this)
  size := hl
theorem src_none {w : World} {sz cap : Nat} {p : Option Addr} : Src P w sz (.slice p 0 cap) 0 [] where
  len _ := rfl
  cells w' _ := by cases p <;> simp [Builtin.firstCells, loadCells, loadCellsFrom]
  size := by simp

theorem part_val {w : World} {Im : Nat → Prop} {θ : Th} {vs : List SV} {us : List Value} {t : TypeId} {off : Nat} {v : SV} (hl : LRel P ω w Im θ vs us) (h : partS P t vs off = some v) :
    ∃ u, VRel P ω w Im θ v u ∧ ((isAggT P t = true ∧ u = .agg ((us.drop off).take (P.cellsOf t)).toArray ∧ off + P.cellsOf t ≤ us.length) ∨ (isAggT P t = false ∧ us[off]? = some u)) := by
  unfold partS at h
  cases hu : P.underlying t with
  | none => simp [hu] at h
  | some d =>
    by_cases hd : isAggT P t = true
    · have h' : ∃ cs, takeN vs off (P.cellsOf t) = some cs ∧ v = .agg cs := by
        simp only [hu] at h
        simp only [isAggT, hu] at hd
        cases d <;> simp at hd <;> (simp only at h; cases ht : takeN vs off (P.cellsOf t) <;> simp [ht] at h; exact ⟨_, rfl, h.symm⟩)
      obtain ⟨l, hcs, rfl⟩ := h'
      obtain ⟨hlen, rfl⟩ := takeN_spec _ _ _ _ hcs
      have hp := hl.part off (P.cellsOf t)
      refine ⟨.agg ((us.drop off).take (P.cellsOf t)).toArray, .agg (by rw [hp.len]; simp) (fun i v u hv hu => hp.at_ i v u hv (by simpa using hu)), .inl ⟨hd, rfl, by rw [← hl.len]; exact hlen⟩⟩
    · have hf : isAggT P t = false := by simpa using hd
      have h' : vs[off]? = some v := by
        rw [← nth?_eq]
        simp only [hu] at h
        simp only [isAggT, hu] at hf
        cases d <;> simp at hf <;> exact h
      have hlt : off < vs.length := by
        rcases Nat.lt_or_ge off vs.length with h1 | h1
        · exact h1
        · simp [List.getElem?_eq_none h1] at h'
      have hlt' : off < us.length := by rw [← hl.len]; exact hlt
      exact ⟨us[off], hl.at_ off v _ h' (by simp [hlt']), .inr ⟨hf, by simp [hlt']⟩⟩

theorem partsS_spec {t : TypeId} {vs : List SV} : ∀ (m off : Nat) (l : List SV), partsS P t vs off m = some l → l.length = m ∧ ∀ i v, l[i]? = some v → partS P t vs (off + i * P.cellsOf t) = some v
  | 0, off, l, h => by simp [partsS] at h; subst h; exact ⟨rfl, fun i v hv => by simp at hv⟩
  | m + 1, off, l, h => by
    simp only [partsS] at h
    cases h1 : partS P t vs off with
    | none => simp [h1] at h
    | some v =>
      cases h2 : partsS P t vs (off + P.cellsOf t) m with
      | none => simp [h1, h2] at h
      | some l' =>
        simp only [h1, h2, Option.some.injEq] at h
        subst h
        obtain ⟨g1, g2⟩ := partsS_spec m _ l' h2
        refine ⟨by simp [g1], fun i x hx => ?_⟩
        cases i with
        | zero => simp at hx; subst hx; simpa using h1
        | succ i =>
          have := g2 i x (by simpa using hx)
          rw [Nat.add_mul, ← Nat.add_assoc, Nat.add_right_comm]
          simpa [Nat.add_assoc, Nat.add_comm, Nat.add_left_comm] using this

section
variable {w : World} {Im : Nat → Prop} {θ : Th} {h : HpF} (hr : HRel P ω w Im θ h)
include hr

/-- The elements of a row of cells, known by content. -/
theorem parts_elems {t : TypeId} (hpl : plainE P t = true) {vs : List SV} {us : List Value} {off m : Nat} {l : List SV} (hl : LRel P ω w Im θ vs us) (hp : partsS P t vs off m = some l) {k : List SV → List Nat → OpM} {r : SV} {ups : List (Nat × Option Chunk)} {nx : Nat} {rs : List Nat}
    (hm : mrun h (frzAll P t k l [] []) = some (r, ups, nx, rs)) :
    ∃ es zs rs' uf, mrun h (k es zs) = some (r, ups, nx, rs') ∧ es.length = m ∧ Elems P w (frozenBy Im θ h zs) t es uf ∧ ∀ i, i < m → ∀ (d : Nat) (c : Value), (uf i).cells[d]? = some c → us[off + i * P.cellsOf t + d]? = some c := by
  obtain ⟨hlen, hat⟩ := partsS_spec m off l hp
  have key : ∀ i, ∃ u, ∀ v, l[i]? = some v → VRel P ω w Im θ v u ∧ ((isAggT P t = true ∧ u = .agg ((us.drop (off + i * P.cellsOf t)).take (P.cellsOf t)).toArray ∧ off + i * P.cellsOf t + P.cellsOf t ≤ us.length) ∨ (isAggT P t = false ∧ us[off + i * P.cellsOf t]? = some u)) := by
    intro i
    cases hi : l[i]? with
    | none => exact ⟨undef, fun v hv => by cases hv⟩
    | some v =>
      obtain ⟨u, hu⟩ := part_val hl (hat i v hi)
      exact ⟨u, fun v' hv' => by cases hv'; exact hu⟩
  obtain ⟨uf, huf⟩ := Classical.axiomOfChoice key
  obtain ⟨es, zs, rs', h1, h2, h3⟩ := frzAll_run hr l uf [] [] rs (fun i v hv => (huf i v hv).1) hm
  refine ⟨es, zs, rs', uf, by simpa using h1, by rw [h2, hlen], h3, fun i hi d c hd => ?_⟩
  have hi' : i < l.length := by omega
  have hv : l[i]? = some l[i] := by simp [hi']
  obtain ⟨hrel, hcase⟩ := huf i l[i] hv
  rcases hcase with ⟨_, hu, hle⟩ | ⟨ha, hu⟩
  · rw [hu] at hd
    simp only [Value.cells, List.getElem?_toArray, List.getElem?_take, List.getElem?_drop] at hd
    split at hd
    · exact hd
    · cases hd
  · -- a single cell: its size tells
    have hsz := (h3.rel i es[i] (by have : i < es.length := by omega
                                    simp [this])).2
    have hrel2 := (h3.rel i es[i] (by have : i < es.length := by omega
                                      simp [this])).1
    have hex := h3.fit es[i] (List.getElem_mem (by omega))
    have hone : (uf i).cells = #[uf i] := (plain_cells hpl hex hrel2).2 ha
    rw [hone] at hd
    cases d with
    | zero => simp at hd; subst hd; simpa using hu
    | succ d => simp at hd

omit hr in
theorem byteSV_rel (w : World) (Im : Nat → Prop) (b : UInt8) : VRel P om0 w Im noTh (byteSV b) (.int .u8 b.toNat) := .int

/-- What is read. -/
theorem elemsM_run {e : TypeId} (hpl : plainE P e = true) {x : SV} {u : Value} (hv : VRel P ω w Im θ x u) {k : List SV → List Nat → OpM} {r : SV} {ups : List (Nat × Option Chunk)} {nx : Nat} {rs : List Nat} (hm : mrun h (elemsM P e k x) = some (r, ups, nx, rs)) :
    ∃ es zs rs' uf, mrun h (k es zs) = some (r, ups, nx, rs') ∧ Elems P w (frozenBy Im θ h zs) e es uf ∧ Src P w (P.cellsOf e) u es.length (flat uf es.length) := by
  have pcase : ∀ (e' : TypeId) (es : List SV), VRel P ω w Im θ (.psl e' es) u → mrun h (bif Nat.beq e e' then k es [] else .fail) = some (r, ups, nx, rs) → ∃ es zs rs' uf, mrun h (k es zs) = some (r, ups, nx, rs') ∧ Elems P w (frozenBy Im θ h zs) e es uf ∧ Src P w (P.cellsOf e) u es.length (flat uf es.length) := by
    clear hm hv
    intro e' es hv hm
    cases hb : Nat.beq e e' with
    | false => simp [hb, mrun] at hm
    | true =>
      simp only [hb, cond_true] at hm
      have : e = e' := Nat.eq_of_beq_eq_true hb
      subst this
      cases hv with
      | psl us h1 h0 h2 h3 h4 =>
        rename_i p n cap
        subst h1
        by_cases hn : es.length = 0
        · have : es = [] := List.eq_nil_of_length_eq_zero hn
          subst this
          exact ⟨[], [], rs, fun _ => undef, hm, Elems.nil, src_none⟩
        · obtain ⟨a, off, rfl, ha, hc⟩ := h4 hn
          have hel : Elems P w (frozenBy Im θ h []) e es us := ⟨h2, fun i v hv => ⟨(h3 i v hv).mono (frozenBy_up w) (fun _ _ h => h), (hc i (by
            rcases Nat.lt_or_ge i es.length with h5 | h5
            · exact h5
            · simp [List.getElem?_eq_none h5] at hv)).1⟩⟩
          refine ⟨es, [], rs, us, hm, hel, src_slice (flat_len _ hel.size) (flat_at hel.size (fun i hi d c hd => ?_))⟩
          have := (hc i hi).2 d c hd
          rw [add_off]
          rw [Nat.add_assoc] at this
          exact this
  unfold elemsM at hm
  split at hm
  · -- a slice of a row
    rename_i y sz off m
    simp only [mrun] at hm
    cases hy : h y with
    | none => simp [hy] at hm
    | some c =>
      simp only [hy] at hm
      cases c with
      | cells T cs =>
        simp only [] at hm
        cases hb : Nat.beq sz (P.cellsOf e) with
        | false => simp [hb, mrun] at hm
        | true =>
          simp only [hb, cond_true] at hm
          have hsz : sz = P.cellsOf e := Nat.eq_of_beq_eq_true hb
          subst hsz
          cases hp : partsS P e cs off m with
          | none => simp [hp, mrun] at hm
          | some l =>
            simp only [hp] at hm
            split at hm
            · rename_i r0 ups0 nx0 rs0 heq
              simp only [Option.some.injEq, Prod.mk.injEq] at hm
              obtain ⟨rfl, rfl, rfl, rfl⟩ := hm
              obtain ⟨b, ca, fr, h1, h2, h3, h4⟩ := hr.at_ y _ hy
              obtain ⟨es, zs, rs', uf, g1, g2, g3, g4⟩ := parts_elems hr hpl h4 hp heq
              refine ⟨es, zs, rs', uf, g1, g3, ?_⟩
              have gsz := g3.size
              rw [g2] at gsz ⊢
              cases hv with
              | sl hθ k1 k2 =>
                rw [h1] at hθ
                simp only [Option.some.injEq, Prod.mk.injEq] at hθ
                obtain ⟨rfl, rfl⟩ := hθ
                refine src_slice (flat_len _ gsz) (flat_at gsz (fun i hi d c hd => ?_))
                have := g4 i hi d c hd
                rw [add_off]
                simp only [World.cell?, h2]
                rw [Nat.add_assoc] at this
                simpa using this
              | slnil => exact src_none
            · cases hm
      | seq => simp [mrun] at hm
      | loopr => simp [mrun] at hm
      | mpc => simp [mrun] at hm
  · -- a list that has grown
    rename_i y sz l m
    simp only [mrun] at hm
    cases hy : h y with
    | none => simp [hy] at hm
    | some c =>
      simp only [hy] at hm
      cases c with
      | seq e' es =>
        simp only [] at hm
        cases hb : Nat.beq e e' && Nat.beq sz (P.cellsOf e) with
        | false => simp [hb, mrun] at hm
        | true =>
          simp only [hb, cond_true] at hm
          simp only [Bool.and_eq_true] at hb
          have : e = e' := Nat.eq_of_beq_eq_true hb.1
          subst this
          have hsz : sz = P.cellsOf e := Nat.eq_of_beq_eq_true hb.2
          subst hsz
          have main : ∀ (hlm : l + m ≤ es.length), ∃ uf, Elems P w (frozenBy Im θ h []) e ((es.drop l).take m) uf ∧ Src P w (P.cellsOf e) u ((es.drop l).take m).length (flat uf ((es.drop l).take m).length) := by
            intro hlm
            have hlen : ((es.drop l).take m).length = m := by simp; omega
            rcases hr.at_ y _ hy with ⟨rfl, h3⟩ | ⟨b, N, cs, T, fr, us, h3, h4, h5, h6, h7, h8, h9⟩
            · have hm0 : m = 0 := by simp at hlm; omega
              subst hm0
              cases hv with
              | qs hθ _ _ => rw [h3] at hθ; cases hθ
              | qsnil _ => exact ⟨fun _ => undef, by simpa using Elems.nil, by simpa [flat] using src_none⟩
            · have hel : Elems P w (frozenBy Im θ h []) e es us := ⟨h8, fun i v hv => ⟨(h9 i v hv).1.mono (frozenBy_up w) (fun _ _ h => h), (h9 i v hv).2.1⟩⟩
              refine ⟨_, hel.part l m, ?_⟩
              have hpt := hel.part l m
              have hsz := hpt.size
              rw [hlen] at hsz
              rw [hlen]
              cases hv with
              | qsnil h0 => subst h0; simpa [flat] using src_none
              | qs hθ k1 k2 =>
                rw [h3] at hθ
                simp only [Option.some.injEq, Prod.mk.injEq] at hθ
                obtain ⟨rfl, rfl⟩ := hθ
                refine src_slice (flat_len _ hsz) (flat_at hsz (fun i hi d c hd => ?_))
                have hli : l + i < es.length := by omega
                have := (h9 (l + i) es[l + i] (by simp [hli])).2.2 d c hd
                rw [add_off]
                simp only [World.cell?, h4]
                have e1 : l * P.cellsOf e + (i * P.cellsOf e + d) = (l + i) * P.cellsOf e + d := by rw [Nat.add_mul]; omega
                rw [e1]
                simpa using this
          simp only [mrun] at hm
          split at hm
          · rename_i r0 ups0 nx0 rs0 heq
            simp only [Option.some.injEq, Prod.mk.injEq] at hm
            obtain ⟨rfl, rfl, rfl, rfl⟩ := hm
            split at heq
            · rename_i hc
              simp only [Bool.and_eq_true, decide_eq_true_eq] at hc
              obtain ⟨rfl, rfl⟩ := hc
              obtain ⟨uf, m1, m2⟩ := main (by omega)
              simp only [List.drop_zero, List.take_length] at m1 m2
              exact ⟨es, [], _, uf, heq, m1, m2⟩
            · split at heq
              · rename_i hc
                simp only [decide_eq_true_eq] at hc
                obtain ⟨uf, m1, m2⟩ := main hc
                exact ⟨_, [], _, uf, heq, m1, m2⟩
              · simp at heq
          · cases hm
      | cells => simp [mrun] at hm
      | loopr => simp [mrun] at hm
      | mpc => simp [mrun] at hm
  · exact pcase _ _ hv hm
  · cases hv with
    | pnn h => exact pcase _ _ h hm
  · cases hv
    exact ⟨[], [], rs, fun _ => undef, hm, Elems.nil, src_none⟩
  · cases hv
    exact ⟨[], [], rs, fun _ => undef, hm, Elems.nil, src_none⟩
  · rename_i s
    split at hm
    · rename_i hu
      cases hb : Nat.beq (P.cellsOf e) 1 with
      | false => simp [hb, mrun] at hm
      | true =>
        simp only [hb, cond_true] at hm
        have h1 : P.cellsOf e = 1 := Nat.eq_of_beq_eq_true hb
        cases hv with
        | str hs =>
          rename_i bs
          have hagg : isAggT P e = false := by simp [isAggT, hu]
          have hlen : (s.map byteSV).length = bs.size := by simp [bytes_size hs]
          let uf : Nat → Value := fun i => .int .u8 ((s.getD i 0).toNat)
          have hel : Elems P w (frozenBy Im θ h []) e (s.map byteSV) uf := by
            refine ⟨fun v hv => ?_, fun i v hv => ?_⟩
            · obtain ⟨b, _, rfl⟩ := List.mem_map.1 hv
              unfold expand
              rw [hagg]
              simp only [cond_false, expandLeaf, hu, byteSV, asI]
            · simp only [List.getElem?_map, Option.map_eq_some_iff] at hv
              obtain ⟨b, hb, rfl⟩ := hv
              refine ⟨?_, by simp [uf, Value.cells, h1]⟩
              have : uf i = .int .u8 b.toNat := by simp [uf, List.getD_eq_getElem?_getD, hb]
              rw [this]; exact .int
          refine ⟨_, [], rs, uf, hm, hel, ?_⟩
          have hfl : ∀ m, m ≤ s.length → flat uf m = (s.take m).map (fun b => Value.int .u8 b.toNat) := by
            intro m
            induction m with
            | zero => intro _; simp [flat]
            | succ m ih =>
              intro hm
              have hms : m < s.length := by omega
              simp only [flat]
              rw [ih (by omega), List.take_succ_eq_append_getElem hms, List.map_append]
              congr 1
              simp [uf, Value.cells, List.getD_eq_getElem?_getD, hms]
          refine ⟨fun w' => ?_, fun w' _ => ?_, ?_⟩
          · simp [Builtin.lenOf, bytes_size hs]
          · simp only [Builtin.firstCells, List.length_map]
            rw [hfl _ (Nat.le_refl _), List.take_length]
            have : (bs.extract 0 s.length).data = s.toArray := by
              rw [← bytes_size hs]
              subst hs
              simp
            rw [this]
            simp
          · rw [flat_len _ hel.size]
    · simp [mrun] at hm
  · simp [mrun] at hm
end
end Go.Am
