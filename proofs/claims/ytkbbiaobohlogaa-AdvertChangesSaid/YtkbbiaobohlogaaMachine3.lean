/- The abstract machine: the elements that are read, and 'append'. -/
import Derived.Test.YtkbbiaobohlogaaMachine2
import Derived.Laws.AppendOwn
import Derived.Laws.IdiomStrings
import Derived.MapKept
import Derived.Lib.Builder
import Derived.Lib.UnsafeStr
set_option linter.unusedVariables false
set_option linter.unusedSimpArgs false
namespace Go.Am
variable {P : Program} {ω : Nat → Value}
structure Src (P : Program) (w : World) (sz : Nat) (u : Value) (m : Nat) (news : List Value) : Prop where
 len : ∀ w' : World, (Builtin.lenOf u).run P w' = .ok m w'
 cells : ∀ w' : World, w'.heap = w.heap → (Builtin.firstCells sz m u).run P w' = .ok news.toArray w'
 size : news.length = m * sz
theorem src_slice {w : World} {sz m cap : Nat} {a : Addr} {news : List Value} (hl : news.length = m * sz) (hc : ∀ j u, news[j]? = some u → w.cell? (a.add j) = some u) : Src P w sz (.slice (some a) m cap) m news where
 len _ := rfl
 cells w' hw := run_firstCells_some w' sz m a m cap news hl (fun j u hj => by
  have := hc j u hj
  simp only [World.cell?] at this ⊢
  rw [hw]; exact this)
 size := hl
theorem src_none {w : World} {sz cap : Nat} {p : Option Addr} : Src P w sz (.slice p 0 cap) 0 [] where
 len _ := rfl
 cells w' _ := by cases p <;> simp [Builtin.firstCells, loadCells, loadCellsFrom]
 size := by simp
theorem part_val {w : World} {Im : Nat → Prop} {θ : Th} {vs : List SV} {us : List Value} {t : TypeId} {off : Nat} {v : SV} (hl : LRel P ω w Im θ vs us) (h : partS P t vs off = some v) :
  ∃ u, VRel P ω w Im θ v u ∧ ((isAggT P t = true ∧ u = .agg ((us.drop off).take (P.cellsOf t)).toArray ∧ off + P.cellsOf t ≤ us.length) ∨ (isAggT P t = false ∧ us[off]? = some u)) := by
 unfold partS at h
 cases hu : P.underlying t with
 | none => simp [hu] at h
 | some d =>
  by_cases hd : isAggT P t = true
  · have h' : ∃ cs, takeN vs off (P.cellsOf t) = some cs ∧ v = .agg cs := by
      simp only [hu] at h
      simp only [isAggT, hu] at hd
      cases d <;> simp at hd <;> (simp only at h; cases ht : takeN vs off (P.cellsOf t) <;> simp [ht] at h; exact ⟨_, rfl, h.symm⟩)
    obtain ⟨l, hcs, rfl⟩ := h'
    obtain ⟨hlen, rfl⟩ := takeN_spec _ _ _ _ hcs
    have hp := hl.part off (P.cellsOf t)
    refine ⟨.agg ((us.drop off).take (P.cellsOf t)).toArray, .agg (by rw [hp.len]; simp) (fun i v u hv hu => hp.at_ i v u hv (by simpa using hu)), .inl ⟨hd, rfl, by rw [← hl.len]; exact hlen⟩⟩
  · have hf : isAggT P t = false := by simpa using hd
    have h' : vs[off]? = some v := by
     rw [← nth?_eq]
     simp only [hu] at h
     simp only [isAggT, hu] at hf
     cases d <;> simp at hf <;> exact h
    have hlt : off < vs.length := by
     rcases Nat.lt_or_ge off vs.length with h1 | h1
     · exact h1
     · simp [List.getElem?_eq_none h1] at h'
    have hlt' : off < us.length := by rw [← hl.len]; exact hlt
    exact ⟨us[off], hl.at_ off v _ h' (by simp [hlt']), .inr ⟨hf, by simp [hlt']⟩⟩
theorem partsS_spec {t : TypeId} {vs : List SV} : ∀ (m off : Nat) (l : List SV), partsS P t vs off m = some l → l.length = m ∧ ∀ i v, l[i]? = some v → partS P t vs (off + i * P.cellsOf t) = some v
 | 0, off, l, h => by simp [partsS] at h; subst h; exact ⟨rfl, fun i v hv => by simp at hv⟩
 | m + 1, off, l, h => by
  simp only [partsS] at h
  cases h1 : partS P t vs off with
  | none => simp [h1] at h
  | some v =>
   cases h2 : partsS P t vs (off + P.cellsOf t) m with
   | none => simp [h1, h2] at h
   | some l' =>
    simp only [h1, h2, Option.some.injEq] at h
    subst h
    obtain ⟨g1, g2⟩ := partsS_spec m _ l' h2
    refine ⟨by simp [g1], fun i x hx => ?_⟩
    cases i with
    | zero => simp at hx; subst hx; simpa using h1
    | succ i =>
     have := g2 i x (by simpa using hx)
     rw [Nat.add_mul, ← Nat.add_assoc, Nat.add_right_comm]
     simpa [Nat.add_assoc, Nat.add_comm, Nat.add_left_comm] using this
section
variable {w : World} {Im : Nat → Prop} {θ : Th} {h : HpF} (hr : HRel P ω w Im θ h)
include hr
theorem parts_elems {t : TypeId} (hpl : plainE P t = true) {vs : List SV} {us : List Value} {off m : Nat} {l : List SV} (hl : LRel P ω w Im θ vs us) (hp : partsS P t vs off m = some l) {k : List SV → List Nat → OpM} {r : SV} {ups : List (Nat × Option Chunk)} {nx : Nat} {rs : List Nat}
  (hm : mrun h (frzAll P t k l [] []) = some (r, ups, nx, rs)) :
  ∃ es zs rs' uf, mrun h (k es zs) = some (r, ups, nx, rs') ∧ es.length = m ∧ Elems P w (frozenBy Im θ h zs) t es uf ∧ ∀ i, i < m → ∀ (d : Nat) (c : Value), (uf i).cells[d]? = some c → us[off + i * P.cellsOf t + d]? = some c := by
 obtain ⟨hlen, hat⟩ := partsS_spec m off l hp
 have key : ∀ i, ∃ u, ∀ v, l[i]? = some v → VRel P ω w Im θ v u ∧ ((isAggT P t = true ∧ u = .agg ((us.drop (off + i * P.cellsOf t)).take (P.cellsOf t)).toArray ∧ off + i * P.cellsOf t + P.cellsOf t ≤ us.length) ∨ (isAggT P t = false ∧ us[off + i * P.cellsOf t]? = some u)) := by
  intro i
  cases hi : l[i]? with
  | none => exact ⟨undef, fun v hv => by cases hv⟩
  | some v =>
   obtain ⟨u, hu⟩ := part_val hl (hat i v hi)
   exact ⟨u, fun v' hv' => by cases hv'; exact hu⟩
 obtain ⟨uf, huf⟩ := Classical.axiomOfChoice key
 obtain ⟨es, zs, rs', h1, h2, h3⟩ := frzAll_run hr l uf [] [] rs (fun i v hv => (huf i v hv).1) hm
 refine ⟨es, zs, rs', uf, by simpa using h1, by rw [h2, hlen], h3, fun i hi d c hd => ?_⟩
 have hi' : i < l.length := by omega
 have hv : l[i]? = some l[i] := by simp [hi']
 obtain ⟨hrel, hcase⟩ := huf i l[i] hv
 rcases hcase with ⟨_, hu, hle⟩ | ⟨ha, hu⟩
 · rw [hu] at hd
   simp only [Value.cells, List.getElem?_toArray, List.getElem?_take, List.getElem?_drop] at hd
   split at hd
   · exact hd
   · cases hd
 · -- a single cell: its size tells
   have hsz := (h3.rel i es[i] (by have : i < es.length := by omega
                                   simp [this])).2
   have hrel2 := (h3.rel i es[i] (by have : i < es.length := by omega
                                     simp [this])).1
   have hex := h3.fit es[i] (List.getElem_mem (by omega))
   have hone : (uf i).cells = #[uf i] := (plain_cells hpl hex hrel2).2 ha
   rw [hone] at hd
   cases d with
   | zero => simp at hd; subst hd; simpa using hu
   | succ d => simp at hd
theorem elemsM_run {e : TypeId} (hpl : plainE P e = true) {x : SV} {u : Value} (hv : VRel P ω w Im θ x u) {k : List SV → List Nat → OpM} {r : SV} {ups : List (Nat × Option Chunk)} {nx : Nat} {rs : List Nat} (hm : mrun h (elemsM P e k x) = some (r, ups, nx, rs)) :
  ∃ es zs rs' uf, mrun h (k es zs) = some (r, ups, nx, rs') ∧ Elems P w (frozenBy Im θ h zs) e es uf ∧ Src P w (P.cellsOf e) u es.length (flat uf es.length) := by
 have pcase : ∀ (e' : TypeId) (es : List SV), VRel P ω w Im θ (.psl e' es) u → mrun h (bif Nat.beq e e' then k es [] else .fail) = some (r, ups, nx, rs) → ∃ es zs rs' uf, mrun h (k es zs) = some (r, ups, nx, rs') ∧ Elems P w (frozenBy Im θ h zs) e es uf ∧ Src P w (P.cellsOf e) u es.length (flat uf es.length) := by
  clear hm hv
  intro e' es hv hm
  cases hb : Nat.beq e e' with
  | false => simp [hb, mrun] at hm
  | true =>
   simp only [hb, cond_true] at hm
   have : e = e' := Nat.eq_of_beq_eq_true hb
   subst this
   cases hv with
   | psl us h1 h0 h2 h3 h4 =>
    rename_i p n cap
    subst h1
    by_cases hn : es.length = 0
    · have : es = [] := List.eq_nil_of_length_eq_zero hn
      subst this
      exact ⟨[], [], rs, fun _ => undef, hm, Elems.nil, src_none⟩
    · obtain ⟨a, off, rfl, ha, hc⟩ := h4 hn
      have hel : Elems P w (frozenBy Im θ h []) e es us := ⟨h2, fun i v hv => ⟨(h3 i v hv).mono (frozenBy_up w) (fun _ _ h => h), (hc i (by
       rcases Nat.lt_or_ge i es.length with h5 | h5
       · exact h5
       · simp [List.getElem?_eq_none h5] at hv)).1⟩⟩
      refine ⟨es, [], rs, us, hm, hel, src_slice (flat_len _ hel.size) (flat_at hel.size (fun i hi d c hd => ?_))⟩
      have := (hc i hi).2 d c hd
      rw [add_off]
      rw [Nat.add_assoc] at this
      exact this
 unfold elemsM at hm
 split at hm
 · -- a slice of a row
   rename_i y sz off m
   simp only [mrun] at hm
   cases hy : h y with
   | none => simp [hy] at hm
   | some c =>
    simp only [hy] at hm
    cases c with
    | cells T cs =>
     simp only [] at hm
     cases hb : Nat.beq sz (P.cellsOf e) with
     | false => simp [hb, mrun] at hm
     | true =>
      simp only [hb, cond_true] at hm
      have hsz : sz = P.cellsOf e := Nat.eq_of_beq_eq_true hb
      subst hsz
      cases hp : partsS P e cs off m with
      | none => simp [hp, mrun] at hm
      | some l =>
       simp only [hp] at hm
       split at hm
       · rename_i r0 ups0 nx0 rs0 heq
         simp only [Option.some.injEq, Prod.mk.injEq] at hm
         obtain ⟨rfl, rfl, rfl, rfl⟩ := hm
         obtain ⟨b, ca, fr, h1, h2, h3, h4⟩ := hr.at_ y _ hy
         obtain ⟨es, zs, rs', uf, g1, g2, g3, g4⟩ := parts_elems hr hpl h4 hp heq
         refine ⟨es, zs, rs', uf, g1, g3, ?_⟩
         have gsz := g3.size
         rw [g2] at gsz ⊢
         cases hv with
         | sl hθ k1 k2 =>
          rw [h1] at hθ
          simp only [Option.some.injEq, Prod.mk.injEq] at hθ
          obtain ⟨rfl, rfl⟩ := hθ
          refine src_slice (flat_len _ gsz) (flat_at gsz (fun i hi d c hd => ?_))
          have := g4 i hi d c hd
          rw [add_off]
          simp only [World.cell?, h2]
          rw [Nat.add_assoc] at this
          simpa using this
         | slnil => exact src_none
       · cases hm
    | seq => simp [mrun] at hm
    | loopr => simp [mrun] at hm
    | mpc => simp [mrun] at hm
    | mpb => simp [mrun] at hm
    | mpn => simp [mrun] at hm
    | mit => simp [mrun] at hm
    | sqo => simp [mrun] at hm
    | sqp => simp [mrun] at hm
    | ext => simp [mrun] at hm
 · -- a list that has grown
   rename_i y sz l m
   simp only [mrun] at hm
   cases hy : h y with
   | none => simp [hy] at hm
   | some c =>
    simp only [hy] at hm
    cases c with
    | seq e' es =>
     simp only [] at hm
     cases hb : Nat.beq e e' && Nat.beq sz (P.cellsOf e) with
     | false => simp [hb, mrun] at hm
     | true =>
      simp only [hb, cond_true] at hm
      simp only [Bool.and_eq_true] at hb
      have : e = e' := Nat.eq_of_beq_eq_true hb.1
      subst this
      have hsz : sz = P.cellsOf e := Nat.eq_of_beq_eq_true hb.2
      subst hsz
      have main : ∀ (hlm : l + m ≤ es.length), ∃ uf, Elems P w (frozenBy Im θ h []) e ((es.drop l).take m) uf ∧ Src P w (P.cellsOf e) u ((es.drop l).take m).length (flat uf ((es.drop l).take m).length) := by
       intro hlm
       have hlen : ((es.drop l).take m).length = m := by simp; omega
       rcases hr.at_ y _ hy with ⟨rfl, h3⟩ | ⟨b, N, cs, T, fr, us, h3, h4, h5, h6, h7, h8, h9⟩
       · have hm0 : m = 0 := by simp at hlm; omega
         subst hm0
         cases hv with
         | qs hθ _ _ => rw [h3] at hθ; cases hθ
         | qsnil _ => exact ⟨fun _ => undef, by simpa using Elems.nil, by simpa [flat] using src_none⟩
       · have hel : Elems P w (frozenBy Im θ h []) e es us := ⟨h8, fun i v hv => ⟨(h9 i v hv).1.mono (frozenBy_up w) (fun _ _ h => h), (h9 i v hv).2.1⟩⟩
         refine ⟨_, hel.part l m, ?_⟩
         have hpt := hel.part l m
         have hsz := hpt.size
         rw [hlen] at hsz
         rw [hlen]
         cases hv with
         | qsnil h0 => subst h0; simpa [flat] using src_none
         | qs hθ k1 k2 =>
          rw [h3] at hθ
          simp only [Option.some.injEq, Prod.mk.injEq] at hθ
          obtain ⟨rfl, rfl⟩ := hθ
          refine src_slice (flat_len _ hsz) (flat_at hsz (fun i hi d c hd => ?_))
          have hli : l + i < es.length := by omega
          have := (h9 (l + i) es[l + i] (by simp [hli])).2.2 d c hd
          rw [add_off]
          simp only [World.cell?, h4]
          have e1 : l * P.cellsOf e + (i * P.cellsOf e + d) = (l + i) * P.cellsOf e + d := by rw [Nat.add_mul]; omega
          rw [e1]
          simpa using this
      simp only [mrun] at hm
      split at hm
      · rename_i r0 ups0 nx0 rs0 heq
        simp only [Option.some.injEq, Prod.mk.injEq] at hm
        obtain ⟨rfl, rfl, rfl, rfl⟩ := hm
        split at heq
        · rename_i hc
          simp only [Bool.and_eq_true, decide_eq_true_eq] at hc
          obtain ⟨rfl, rfl⟩ := hc
          obtain ⟨uf, m1, m2⟩ := main (by omega)
          simp only [List.drop_zero, List.take_length] at m1 m2
          exact ⟨es, [], _, uf, heq, m1, m2⟩
        · split at heq
          · rename_i hc
            simp only [decide_eq_true_eq] at hc
            obtain ⟨uf, m1, m2⟩ := main hc
            exact ⟨_, [], _, uf, heq, m1, m2⟩
          · simp at heq
      · cases hm
    | cells => simp [mrun] at hm
    | loopr => simp [mrun] at hm
    | mpc => simp [mrun] at hm
    | mpb => simp [mrun] at hm
    | mpn => simp [mrun] at hm
    | mit => simp [mrun] at hm
    | sqo => simp [mrun] at hm
    | sqp => simp [mrun] at hm
    | ext => simp [mrun] at hm
 · exact pcase _ _ hv hm
 · cases hv with
   | pnn h => exact pcase _ _ h hm
 · cases hv
   exact ⟨[], [], rs, fun _ => undef, hm, Elems.nil, src_none⟩
 · cases hv
   exact ⟨[], [], rs, fun _ => undef, hm, Elems.nil, src_none⟩
 · rename_i s
   split at hm
   · rename_i hu
     cases hb : Nat.beq (P.cellsOf e) 1 with
     | false => simp [hb, mrun] at hm
     | true =>
      simp only [hb, cond_true] at hm
      have h1 : P.cellsOf e = 1 := Nat.eq_of_beq_eq_true hb
      cases hv with
      | str hs =>
       rename_i bs
       have hagg : isAggT P e = false := by simp [isAggT, hu]
       have hlen : (s.map byteSV).length = bs.size := by simp [bytes_size hs]
       let uf : Nat → Value := fun i => .int .u8 ((s.getD i 0).toNat)
       have hel : Elems P w (frozenBy Im θ h []) e (s.map byteSV) uf := by
        refine ⟨fun v hv => ?_, fun i v hv => ?_⟩
        · obtain ⟨b, _, rfl⟩ := List.mem_map.1 hv
          unfold expand
          rw [hagg]
          simp only [cond_false, expandLeaf, hu, byteSV, asI]
        · simp only [List.getElem?_map, Option.map_eq_some_iff] at hv
          obtain ⟨b, hb, rfl⟩ := hv
          refine ⟨?_, by simp [uf, Value.cells, h1]⟩
          have : uf i = .int .u8 b.toNat := by simp [uf, List.getD_eq_getElem?_getD, hb]
          rw [this]; exact .int
       refine ⟨_, [], rs, uf, hm, hel, ?_⟩
       have hfl : ∀ m, m ≤ s.length → flat uf m = (s.take m).map (fun b => Value.int .u8 b.toNat) := by
        intro m
        induction m with
        | zero => intro _; simp [flat]
        | succ m ih =>
         intro hm
         have hms : m < s.length := by omega
         simp only [flat]
         rw [ih (by omega), List.take_succ_eq_append_getElem hms, List.map_append]
         congr 1
         simp [uf, Value.cells, List.getD_eq_getElem?_getD, hms]
       refine ⟨fun w' => ?_, fun w' _ => ?_, ?_⟩
       · simp [Builtin.lenOf, bytes_size hs]
       · simp only [Builtin.firstCells, List.length_map]
         rw [hfl _ (Nat.le_refl _), List.take_length]
         have : (bs.extract 0 s.length).data = s.toArray := by
          rw [← bytes_size hs]
          subst hs
          simp
         rw [this]
         simp
       · rw [flat_len _ hel.size]
   · simp [mrun] at hm
 · simp [mrun] at hm
end
end Go.Am
/- The abstract machine: 'append'. -/
namespace Go.Am
variable {P : Program} {ω : Nat → Value}
theorem listLike_or {t : TypeId} (h : listLike P t = true) : (∃ e, P.underlying t = some (.slice e)) ∨ P.underlying t = some .string := by
 unfold listLike at h
 split at h
 · rename_i e hu; exact .inl ⟨e, hu⟩
 · rename_i hu; exact .inr hu
 · cases h
section
variable {w : World} {t t2 e : TypeId} {i : TypeInfo} {z : Value} {tys : Array TypeId} {args : Array Value} {ty : TypeId}
theorem append_in (h0 : tys[0]? = some t) (h1 : tys[1]? = some t2) (ht : P.underlying t = some (.slice e)) (ht2 : listLike P t2 = true) (hi : P.info? e = some i) {a : Addr} {n cap m : Nat} {x : Value} {news : List Value}
  (a0 : args[0]? = some (.slice (some a) n cap)) (a1 : args[1]? = some x) (hs : Src P w i.size x m news) (hle : n + m ≤ cap) {w' : World} (hst : (storeCells (a.add (n * i.size)) news).run P w = .ok () w') :
  (Builtin.append_ tys ty args).run P w = .ok (.slice (some a) (n + m) cap) w' := by
 have hl := hs.len w
 have hc := hs.cells w rfl
 rcases listLike_or ht2 with ⟨e2, hu⟩ | hu <;>
  simp [Builtin.append_, h0, h1, a0, a1, run_underlying ht, run_underlying hu, sizeOf, typeInfo, hi, hl, hle, hc, hst]
theorem append_none (h0 : tys[0]? = some t) (h1 : tys[1]? = some t2) (ht : P.underlying t = some (.slice e)) (ht2 : listLike P t2 = true) (hi : P.info? e = some i) {n cap m : Nat} {x : Value} {news : List Value}
  (a0 : args[0]? = some (.slice none n cap)) (a1 : args[1]? = some x) (hs : Src P w i.size x m news) (hle : n + m ≤ cap) :
  (Builtin.append_ tys ty args).run P w = .ok (.slice none (n + m) cap) w := by
 have hl := hs.len w
 have hc := hs.cells w rfl
 rcases listLike_or ht2 with ⟨e2, hu⟩ | hu <;>
  simp [Builtin.append_, h0, h1, a0, a1, run_underlying ht, run_underlying hu, sizeOf, typeInfo, hi, hl, hle, hc]
theorem append_out (h0 : tys[0]? = some t) (h1 : tys[1]? = some t2) (ht : P.underlying t = some (.slice e)) (ht2 : listLike P t2 = true) (hi : P.info? e = some i) (hz : i.zero = some z) {p : Option Addr} {n cap m : Nat} {x : Value} {news olds : List Value}
  (a0 : args[0]? = some (.slice p n cap)) (a1 : args[1]? = some x) (hs : Src P w i.size x m news) (ho : ∀ w' : World, w'.heap = w.heap → (Builtin.firstCells i.size n (.slice p n cap)).run P w' = .ok olds.toArray w') (hgt : cap < n + m)
  (h63 : n + m ≤ 9223372036854775807) (hb : (n + m) * i.bytes ≤ 140737488355328) :
  (Builtin.append_ tys ty args).run P w = .ok (.slice (some ⟨w.heap.size, 0, none⟩) (n + m) (grownCap w (n + m) cap e))
    (w.drew.alloc (.cells (olds.toArray ++ news.toArray ++ Builtin.zeroCells z.cells (grownCap w (n + m) cap e - (n + m))) e)) := by
 have hl := hs.len w
 have hc := hs.cells w.drew rfl
 have hco := ho w.drew rfl
 have hn : ¬ (n + m ≤ cap) := by omega
 have h63' : ¬ (9223372036854775807 < ((n : Int) + (m : Int))) := by omega
 have hfit := growslice_fits (need := n + m) (old := cap) (bytes := i.bytes) hgt hb
 have h48' : ¬ (281474976710656 < Builtin.nextslicecap (n + m) cap * i.bytes) := by omega
 rcases listLike_or ht2 with ⟨e2, hu⟩ | hu <;>
  simp [Builtin.append_, h0, h1, a0, a1, run_underlying ht, run_underlying hu, sizeOf, typeInfo, zeroValue, hi, hz, hl, hn, h63', h48', Question.forced, hc, hco, newRow, grownCap] <;> (congr 2; apply Array.ext'; simp)
inductive Dst (P : Program) (w : World) (θ : Th) (h : HpF) (e : TypeId) (dead : List Nat) (n : Nat) (uf : Nat → Value) : Value → Prop
 | none {p : Option Addr} : n = 0 → Dst P w θ h e dead n uf (.slice p 0 0)
 | row {b cap y : Nat} {c0 : Chunk} {N' : Nat} {cs : Array Value} {fr : Nat × Nat} : y ∈ dead → h y = some c0 → θ y = some (b, N') → w.heap[b]? = some (.cells cs e fr) → fine cs.size fr → n ≤ cap → cap * P.cellsOf e ≤ cs.size →
   (∀ i, i < n → ∀ (d : Nat) (c : Value), (uf i).cells[d]? = some c → cs[i * P.cellsOf e + d]? = some c) → Dst P w θ h e dead n uf (.slice (some ⟨b, 0, none⟩) n cap)
theorem apartN_spec : ∀ (l m : List Nat), apartN l m = true → ∀ x ∈ l, x ∉ m
 | [], _, _, x, hx => by cases hx
 | y :: l, m, h, x, hx => by
  simp only [apartN, Bool.and_eq_true, Bool.not_eq_true'] at h
  rcases List.mem_cons.1 hx with rfl | hx
  · intro hm; rw [(memN_iff' _ _).2 hm] at h; exact absurd h.1 (by simp)
  · exact apartN_spec l m h.2 x hx
theorem grown_cells {w : World} {Im : Nat → Prop} {e : TypeId} {es fs : List SV} {us vs : Nat → Value} (h : Elems P w Im e es us) (h' : Elems P w Im e fs vs) {cells : List Value}
  (hc : ∀ (j : Nat) (u : Value), (flat us es.length ++ flat vs fs.length)[j]? = some u → cells[j]? = some u) : ∀ (i : Nat) (v : SV), (es ++ fs)[i]? = some v →
   ∀ (d : Nat) (c : Value), ((fun i => if i < es.length then us i else vs (i - es.length)) i).cells[d]? = some c → cells[i * P.cellsOf e + d]? = some c := by
 intro i v hv d c hd
 have happ := h.append h'
 have hi : i < (es ++ fs).length := by
  rcases Nat.lt_or_ge i (es ++ fs).length with h1 | h1
  · exact h1
  · simp [List.getElem?_eq_none h1] at hv
 have hd' : d < P.cellsOf e := by
  rw [← happ.size i hi]
  rcases Nat.lt_or_ge d ((fun i => if i < es.length then us i else vs (i - es.length)) i).cells.size with h1 | h1
  · exact h1
  · simp [Array.getElem?_eq_none h1] at hd
 refine hc _ c ?_
 rw [← flat_add us vs es.length fs.length, ← List.length_append, flat_get _ happ.size i d hi hd']
 exact hd
theorem grow_run {w : World} {Im : Nat → Prop} {θ : Th} {h : HpF} (hr : HRel P ω w Im θ h) {nx : Nat} (hθ : θ nx = none) (hnx : h nx = none) {dead ys : List Nat} (hap : apartN dead ys = true) {es fs : List SV} {us vs : Nat → Value}
  (hes : Elems P w (frozenBy Im θ h ys) e es us) (hfs : Elems P w (frozenBy Im θ h ys) e fs vs) (hpl : plainE P e = true)
  (h0 : tys[0]? = some t) (h1 : tys[1]? = some t2) (ht : P.underlying t = some (.slice e)) (ht2 : listLike P t2 = true) (hi : P.info? e = some i) (hz : i.zero = some z) (hzs : z.cells.size = P.cellsOf e)
  {s x : Value} (a0 : args[0]? = some s) (a1 : args[1]? = some x) (hd : Dst P w θ h e dead es.length us s) (hsrc : Src P w (P.cellsOf e) x fs.length (flat vs fs.length))
  (h63 : es.length + fs.length ≤ 9223372036854775807) (hb : (es.length + fs.length) * i.bytes ≤ 140737488355328) :
  ∃ v' w' θ', (Builtin.append_ tys ty args).run P w = .ok v' w' ∧ Ext (fun x => nx ≤ x ∧ x < nx + 1) h w Im θ (updF (drops (dead ++ ys) ++ [(nx, some (.seq e (es ++ fs)))]) h) w' (frozenBy Im θ h ys) θ' ∧
   HRel P ω w' (frozenBy Im θ h ys) θ' (updF (drops (dead ++ ys) ++ [(nx, some (.seq e (es ++ fs)))]) h) ∧ VRel P ω w' (frozenBy Im θ h ys) θ' (.qs nx (P.cellsOf e) 0 (es.length + fs.length)) v' := by
 have hsize : i.size = P.cellsOf e := by simp [Program.cellsOf, hi]
 have hsub : ∀ y ∈ ys, y ∈ dead ++ ys := fun y hy => List.mem_append.2 (.inr hy)
 have happ := hes.append hfs
 have hfl := flat_len (us := us) es.length hes.size
 have hgl := flat_len (us := vs) fs.length hfs.size
 have hones : ∀ u ∈ flat vs fs.length, u.oneCell' = true := by
  intro u hu
  obtain ⟨k, hk, huk⟩ := flat_mem _ u hu
  have hrel := (hfs.rel k fs[k] (by simp [hk])).1
  exact (plain_cells hpl (hfs.fit _ (List.getElem_mem hk)) hrel).1 u huk
 -- out of place
 have out : ∀ {p : Option Addr} {cap : Nat}, s = .slice p es.length cap → (∀ w' : World, w'.heap = w.heap → (Builtin.firstCells i.size es.length (.slice p es.length cap)).run P w' = .ok (flat us es.length).toArray w') → cap < es.length + fs.length →
   ∃ v' w' θ', (Builtin.append_ tys ty args).run P w = .ok v' w' ∧ Ext (fun x => nx ≤ x ∧ x < nx + 1) h w Im θ (updF (drops (dead ++ ys) ++ [(nx, some (.seq e (es ++ fs)))]) h) w' (frozenBy Im θ h ys) θ' ∧
    HRel P ω w' (frozenBy Im θ h ys) θ' (updF (drops (dead ++ ys) ++ [(nx, some (.seq e (es ++ fs)))]) h) ∧ VRel P ω w' (frozenBy Im θ h ys) θ' (.qs nx (P.cellsOf e) 0 (es.length + fs.length)) v' := by
  intro p cap hs ho hgt
  subst hs
  have hge := grownCap_ge w (es.length + fs.length) cap e
  have hrun := append_out (args := args) (ty := ty) h0 h1 ht ht2 hi hz a0 a1 (by rw [hsize]; exact hsrc) ho hgt h63 hb
  generalize hcells : ((flat us es.length).toArray ++ (flat vs fs.length).toArray ++ Builtin.zeroCells z.cells (grownCap w (es.length + fs.length) cap e - (es.length + fs.length))) = cells at hrun
  have hcs : cells.size = grownCap w (es.length + fs.length) cap e * P.cellsOf e := by
   rw [← hcells]
   simp only [Array.size_append, List.size_toArray, hfl, hgl, size_zeroCells, hzs, ← Nat.add_mul]
   congr 1; omega
  obtain ⟨θ', hE, hH, hn⟩ := name_step hr hθ hnx hsub (ds := dead ++ ys) (w' := w.drew.alloc (.cells cells e)) (b := w.heap.size) (N := cells.size) (.inl ⟨Nat.le_refl _, by simp⟩) (by simp) (fun d _ hdl => alloc_old w.drew _ d hdl) rfl rfl rfl (by first | exact Nat.le_refl _ | exact Nat.le_succ _) (.seq e (es ++ fs)) (fun θ' g1 g2 g3 => by
   refine .inr ⟨w.heap.size, cells.size, cells, e, (0, 0), _, g1, alloc_new w.drew _, fun i _ hh => by omega, ⟨rfl, rfl⟩, ?_, happ.fit, fun i v hv => ⟨((happ.mono g3).rel i v hv).1, (happ.rel i v hv).2, ?_⟩⟩
   · rw [hcs, List.length_append]; exact Nat.mul_le_mul_right _ hge
   · have := grown_cells hes hfs (cells := cells.toList) (fun j u hj => by
       rw [← hcells]
       simp only [Array.toList_append, List.append_assoc]
       rw [← List.append_assoc, List.getElem?_append_left]
       · exact hj
       · rcases Nat.lt_or_ge j (flat us es.length ++ flat vs fs.length).length with h3 | h3
         · exact h3
         · simp [List.getElem?_eq_none h3] at hj) i v hv
     intro d c hd
     have := this d c hd
     simpa using this)
  refine ⟨_, _, θ', hrun, hE, hH, ?_⟩
  have := VRel'.qs (P := P) (ω := ω) (w := w.drew.alloc (.cells cells e)) (Im := frozenBy Im θ h ys) (θ := θ') (x := nx) (sz := P.cellsOf e) (l := 0) (n := es.length + fs.length) (cap := grownCap w (es.length + fs.length) cap e) hn (by rw [hcs]; simp) hge
  simpa using this
 cases hd with
 | none hn0 =>
  rename_i p
  have hes0 : es = [] := List.eq_nil_of_length_eq_zero hn0
  subst hes0
  by_cases hm : fs.length = 0
  · have hfs0 : fs = [] := List.eq_nil_of_length_eq_zero hm
    subst hfs0
    obtain ⟨hE, hH⟩ := none_step hr hθ hsub e (ds := dead ++ ys)
    refine ⟨.slice p 0 0, w, θ, ?_, by simpa using hE, by simpa using hH, .qsnil (by simp)⟩
    cases p with
    | none => exact append_none h0 h1 ht ht2 hi a0 a1 (by rw [hsize]; exact hsrc) (by simp)
    | some a => exact append_in h0 h1 ht ht2 hi a0 a1 (by rw [hsize]; exact hsrc) (by simp) (w' := w) (by simp [flat, storeCells])
  · exact out (p := p) (cap := 0) rfl (fun w' _ => (src_none (P := P) (w := w) (sz := i.size) (cap := 0) (p := p)).cells w' ‹_›) (by simp; omega)
 | row hy hyh hyθ hheap hfine hle hcap hcells =>
  rename_i b cap y c0 N' cs fr
  have hsrc0 : Src P w i.size (.slice (some ⟨b, 0, none⟩) es.length cap) es.length (flat us es.length) := by
   refine src_slice (by rw [hsize]; exact hfl) (flat_at hes.size (fun i hi d c hd => ?_))
   rw [add_off]
   simp only [World.cell?, hheap, Nat.zero_add]
   simpa using hcells i hi d c hd
  by_cases hfit : es.length + fs.length ≤ cap
  · have hroom : es.length * P.cellsOf e + (flat vs fs.length).length ≤ cs.size := by
      rw [hgl, ← Nat.add_mul]
      exact Nat.le_trans (Nat.mul_le_mul_right _ hfit) hcap
    have hst := run_storeCells_fine P b (es.length * P.cellsOf e) e fr (flat vs fs.length) 0 cs w hheap hfine (by simpa using hroom) hones
    simp only [Nat.add_zero] at hst
    have hrun := append_in (args := args) (ty := ty) h0 h1 ht ht2 hi a0 a1 (by rw [hsize]; exact hsrc) hfit (w' := w.setRow b (cs.toList.take (es.length * P.cellsOf e) ++ flat vs fs.length ++ cs.toList.drop (es.length * P.cellsOf e + (flat vs fs.length).length)).toArray) (by rw [add_off, hsize, Nat.zero_add]; exact hst)
    generalize hcells' : (cs.toList.take (es.length * P.cellsOf e) ++ flat vs fs.length ++ cs.toList.drop (es.length * P.cellsOf e + (flat vs fs.length).length)).toArray = cells at hrun
    have hcs : cells.size = cs.size := by
     rw [← hcells']
     simp only [List.size_toArray, List.length_append, List.length_take, List.length_drop, Array.length_toList]
     omega
    have hyys : y ∉ ys := apartN_spec _ _ hap y hy
    obtain ⟨θ', hE, hH, hn⟩ := name_step hr hθ hnx hsub (ds := dead ++ ys) (w' := w.setRow b cells) (b := b) (N := cells.size) (.inr ⟨y, c0, N', List.mem_append.2 (.inl hy), hyys, hyh, hyθ⟩) (by simp [World.setRow]) (fun d hd _ => setRow_other w b d _ hd) rfl rfl rfl (by first | exact Nat.le_refl _ | exact Nat.le_succ _) (.seq e (es ++ fs)) (fun θ' g1 g2 g3 => by
     refine .inr ⟨b, cells.size, cells, e, fr, _, g1, setRow_heap w b cs _ e fr hheap, by rw [hcs]; exact hfine, ⟨rfl, rfl⟩, ?_, happ.fit, fun i v hv => ⟨((happ.mono g3).rel i v hv).1, (happ.rel i v hv).2, ?_⟩⟩
     · rw [hcs, List.length_append]; exact Nat.le_trans (Nat.mul_le_mul_right _ hfit) hcap
     · have := grown_cells hes hfs (cells := cells.toList) (fun j u hj => by
         rw [← hcells']
         simp only []
         have htake : cs.toList.take (es.length * P.cellsOf e) = flat us es.length := by
          apply List.ext_getElem?
          intro k
          by_cases hk : k < es.length * P.cellsOf e
          · rw [List.getElem?_take, if_pos hk]
            have hk2 : k < (flat us es.length).length := by rw [hfl]; exact hk
            have e1 : (flat us es.length)[k]? = some (flat us es.length)[k] := by simp [hk2]
            rw [e1]
            have := flat_at (us := us) (m := es.length) hes.size (at_ := fun j => cs[j]?) (fun i hi d c hd => hcells i hi d c hd) k _ e1
            simpa using this
          · rw [List.getElem?_take, if_neg hk, List.getElem?_eq_none (by rw [hfl]; omega)]
         rw [htake, List.getElem?_append_left]
         · exact hj
         · rcases Nat.lt_or_ge j (flat us es.length ++ flat vs fs.length).length with h3 | h3
           · exact h3
           · simp [List.getElem?_eq_none h3] at hj) i v hv
       intro d c hd
       have := this d c hd
       simpa using this)
    refine ⟨_, _, θ', hrun, hE, hH, ?_⟩
    have := VRel'.qs (P := P) (ω := ω) (w := w.setRow b cells) (Im := frozenBy Im θ h ys) (θ := θ') (x := nx) (sz := P.cellsOf e) (l := 0) (n := es.length + fs.length) (cap := cap) hn (by rw [hcs]; simpa using hcap) hfit
    simpa using this
  · exact out (p := some ⟨b, 0, none⟩) (cap := cap) rfl (fun w' hw => hsrc0.cells w' hw) (by omega)
end
end Go.Am
/- The abstract machine: slices, elements, loads. -/
namespace Go.Am
variable {P : Program} {ω : Nat → Value}
theorem chkM_run {h : HpF} {n : Nat} : ∀ {m : OpM} {rs0 : List Nat} {r : SV} {ups : List (Nat × Option Chunk)} {nx : Nat} {rs : List Nat}, mrun h (chkM n m rs0) = some (r, ups, nx, rs) →
  mrun h m = some (r, ups, nx, rs) ∧ n ≤ nx ∧ ∀ p ∈ ups, p.1 ∈ rs0 ∨ p.1 ∈ rs ∨ (n ≤ p.1 ∧ p.1 < nx)
 | .done r0 ups0 nx0, rs0, r, ups, nx, rs, hm => by
  simp only [chkM] at hm
  cases hb : Nat.ble n nx0 && keysOk rs0 n nx0 ups0 with
  | false => simp [hb, mrun] at hm
  | true =>
   simp only [hb, cond_true] at hm
   obtain ⟨rfl, rfl, rfl, rfl⟩ := mrun_done hm
   simp only [Bool.and_eq_true] at hb
   refine ⟨rfl, by have := hb.1; rwa [Nat.ble_eq] at this, fun p hp => ?_⟩
   have key : ∀ (l : List (Nat × Option Chunk)), keysOk rs0 n nx0 l = true → ∀ p ∈ l, p.1 ∈ rs0 ∨ (n ≤ p.1 ∧ p.1 < nx0) := by
    intro l
    induction l with
    | nil => intro _ p hp; cases hp
    | cons q l ih =>
     obtain ⟨y, c⟩ := q
     intro hk p hp
     simp only [keysOk, Bool.and_eq_true, Bool.or_eq_true] at hk
     rcases List.mem_cons.1 hp with rfl | hp
     · rcases hk.1 with h1 | h1
       · exact .inl ((memN_iff' _ _).1 h1)
       · rw [Nat.ble_eq, Nat.blt_eq] at h1; exact .inr h1
     · exact ih hk.2 p hp
   rcases key _ hb.2 p hp with h1 | h1
   · exact .inl h1
   · exact .inr (.inr h1)
 | .get x k, rs0, r, ups, nx, rs, hm => by
  simp only [chkM, mrun] at hm ⊢
  cases hx : h x with
  | none => simp [hx] at hm
  | some c =>
   simp only [hx] at hm ⊢
   cases hk : mrun h (chkM n (k c) (x :: rs0)) with
   | none => simp [hk] at hm
   | some q =>
    obtain ⟨r1, ups1, nx1, rs1⟩ := q
    simp only [hk, Option.some.injEq, Prod.mk.injEq] at hm
    obtain ⟨rfl, rfl, rfl, rfl⟩ := hm
    obtain ⟨h1, h2, h3⟩ := chkM_run hk
    refine ⟨by rw [h1], h2, fun p hp => ?_⟩
    rcases h3 p hp with h4 | h4 | h4
    · rcases List.mem_cons.1 h4 with h5 | h5
      · exact .inr (.inl (by simp [h5]))
      · exact .inl h5
    · exact .inr (.inl (by simp [h4]))
    · exact .inr (.inr h4)
 | .ite b t e, rs0, r, ups, nx, rs, hm => by
  simp only [chkM, mrun] at hm ⊢
  cases b
  · simp only [Bool.false_eq_true, if_false] at hm ⊢
    exact chkM_run hm
  · simp only [if_true] at hm ⊢
    exact chkM_run hm
 | .fail, _, _, _, _, _, hm => by simp [chkM, mrun] at hm
theorem mrun_ite_fail' {h : HpF} {b : Bool} {m : OpM} {res : SV × List (Nat × Option Chunk) × Nat × List Nat} (hm : mrun h (.ite b m .fail) = some res) : b = true ∧ mrun h m = some res := by
 cases b
 · simp [mrun] at hm
 · exact ⟨rfl, by simpa [mrun] using hm⟩
theorem bif_fail {h : HpF} {b : Bool} {m : OpM} {res : SV × List (Nat × Option Chunk) × Nat × List Nat} (hm : mrun h (bif b then m else .fail) = some res) : b = true ∧ mrun h m = some res := by
 cases b
 · simp [mrun] at hm
 · exact ⟨rfl, hm⟩
theorem get_run {h : HpF} {x : Nat} {k : Chunk → OpM} {r : SV} {ups : List (Nat × Option Chunk)} {nx : Nat} {rs : List Nat} (hm : mrun h (.get x k) = some (r, ups, nx, rs)) : ∃ c rs', h x = some c ∧ mrun h (k c) = some (r, ups, nx, rs') ∧ rs = x :: rs' := by
 simp only [mrun] at hm
 cases hx : h x with
 | none => simp [hx] at hm
 | some c =>
  simp only [hx] at hm
  cases hk : mrun h (k c) with
  | none => simp [hk] at hm
  | some q =>
   obtain ⟨r1, ups1, nx1, rs1⟩ := q
   simp only [hk, Option.some.injEq, Prod.mk.injEq] at hm
   obtain ⟨rfl, rfl, rfl, rfl⟩ := hm
   exact ⟨c, rs1, rfl, hk, rfl⟩
section
variable {w : World} {Im : Nat → Prop} {θ : Th} {h : HpF}
/- Slicing. -/
theorem run_sliceArr {t : TypeId} {x : SV} {lo hi mx : Option SV} {nx nx' : Nat} {r : SV} {ups : List (Nat × Option Chunk)} {rs : List Nat} (hr : HRel P ω w Im θ h) (hm : mrun h (sliceArrS P t x lo hi mx nx) = some (r, ups, nx', rs)) {u : Value} {ul uh um : Option Value} (hx : VRel P ω w Im θ x u)
  (l1 : lo = none → ul = none) (l2 : ∀ v, lo = some v → ∃ x, ul = some x ∧ VRel P ω w Im θ v x) (i1 : hi = none → uh = none) (i2 : ∀ v, hi = some v → ∃ x, uh = some x ∧ VRel P ω w Im θ v x) (m1 : mx = none → um = none) :
  ∃ v, (Instr.sliceAt t u ul uh um).run P w = .ok v w ∧ VRel P ω w Im θ r v ∧ ups = [] ∧ nx' = nx := by
 unfold sliceArrS at hm
 split at hm
 case h_2 => simp [mrun] at hm
 rename_i n e y off hu
 obtain rfl := m1 rfl
 split at hm
 case h_2 => simp [mrun] at hm
 rename_i l hh hl' hh'
 obtain ⟨c, rs', hy, hm, rfl⟩ := get_run hm
 cases c with
 | cells T vs =>
  obtain ⟨hk, hm⟩ := bif_fail hm
  simp only [Bool.and_eq_true] at hk
  obtain ⟨ie, hie⟩ := known_info hk.1
  have hle : off + n * P.cellsOf e ≤ vs.length := by have := hk.2; rwa [Nat.ble_eq] at this
  have bl := bound_rel hl' l1 l2
  have bh := bound_rel hh' i1 i2
  unfold slicedS at hm
  obtain ⟨hc, hm⟩ := mrun_ite_fail' hm
  simp only [Bool.and_eq_true, decide_eq_true_eq] at hc
  obtain ⟨⟨c1, c2⟩, c3⟩ := hc
  cases hx with
  | ptr hθ =>
   rename_i b N
   obtain ⟨b', cs, fr, g1, g2, g3, g4⟩ := hr.at_ y _ hy
   rw [hθ] at g1
   simp only [Option.some.injEq, Prod.mk.injEq] at g1
   obtain ⟨rfl, rfl⟩ := g1
   have hb := run_boundsA (P := P) (w := w) bl bh c1 c2 c3
   simp only [mrun] at hm
   split at hm
   · rename_i hc2
     simp only [Option.some.injEq, Prod.mk.injEq] at hm
     obtain ⟨rfl, rfl, rfl, _⟩ := hm
     simp only [Bool.or_eq_true, decide_eq_true_eq] at hc2
     refine ⟨.slice (some ⟨b, off + l.toNat * P.cellsOf e, none⟩) (hh.toNat - l.toNat) (n - l.toNat), ?_, .sl hθ ?_ (by omega), rfl, rfl⟩
     · by_cases hcl : n = l.toNat
       · have h0 : l = 0 := by omega
         subst h0
         have hc0 : n = 0 := by simpa using hcl
         subst hc0
         simp [Instr.sliceAt, run_underlying hu, hb, run_sizeOf' hie, Instr.sureAddr]
       · simp [Instr.sliceAt, run_underlying hu, hb, run_sizeOf' hie, hcl, add_off, Instr.sureAddr]
     · have : (l.toNat + (n - l.toNat)) * P.cellsOf e = n * P.cellsOf e := by congr 1; omega
       rw [Nat.add_assoc, ← Nat.add_mul, this]; exact hle
   · rename_i hc2
     simp only [Option.some.injEq, Prod.mk.injEq] at hm
     obtain ⟨rfl, rfl, rfl, _⟩ := hm
     simp only [Bool.or_eq_true, decide_eq_true_eq, not_or] at hc2
     have hnl : n = l.toNat := by omega
     refine ⟨.slice (some ⟨b, off, none⟩) 0 0, ?_, .psl (fun _ => undef) rfl ⟨Nat.zero_le _, by simp⟩ (fun v hv => by cases hv) (fun i v hv => by simp at hv) (fun hn => absurd rfl hn), rfl, rfl⟩
     have e0 : hh.toNat - l.toNat = 0 := by omega
     simp [Instr.sliceAt, run_underlying hu, hb, run_sizeOf' hie, ← hnl, Instr.sureAddr]
     omega
 | seq => simp [mrun] at hm
 | loopr => simp [mrun] at hm
 | mpc => simp [mrun] at hm
 | mpb => simp [mrun] at hm
 | mpn => simp [mrun] at hm
 | mit => simp [mrun] at hm
 | sqo => simp [mrun] at hm
 | sqp => simp [mrun] at hm
 | ext => simp [mrun] at hm
end
end Go.Am
/- The abstract machine: slices, elements, loads, stores. -/
namespace Go.Am
variable {P : Program} {ω : Nat → Value}
section
variable {w : World} {Im : Nat → Prop} {θ : Th} {h : HpF}
theorem psl_part {e : TypeId} {es : List SV} {p : Option Addr} {n cap : Nat} {l k : Nat} (hv : VRel P ω w Im θ (.psl e es) (.slice p n cap)) (hlk : l + k ≤ es.length) :
  VRel P ω w Im θ (.psl e ((es.drop l).take k)) (.slice (if cap = l then p else p.map (·.add (l * P.cellsOf e))) k (cap - l)) := by
 cases hv with
 | psl us h1 h0 h2 h3 h4 =>
  have hlen : ((es.drop l).take k).length = k := by simp; omega
  by_cases hk0 : k = 0
  · subst hk0
    simp only [List.take_zero]
    refine .psl (fun _ => undef) rfl ⟨Nat.zero_le _, fun hp => ?_⟩ (fun v hv => by cases hv) (fun i v hv => by simp at hv) (fun hn => absurd rfl hn)
    by_cases hcl : cap = l
    · omega
    · rw [if_neg hcl] at hp
      have := h0.2 (by simpa using hp)
      omega
  · have hn0 : n ≠ 0 := by omega
    obtain ⟨a, off, rfl, ha, hc⟩ := h4 hn0
    have hcl : ¬ cap = l := by omega
    rw [if_neg hcl]
    simp only [Option.map_some, add_off]
    refine .psl (fun i => us (l + i)) hlen ⟨by omega, by simp⟩ (fun v hv => h2 v (List.mem_of_mem_drop (List.mem_of_mem_take hv))) (fun i v hv => ?_) (fun _ => ⟨a, _, rfl, ha, fun i hi => ?_⟩)
    · rw [List.getElem?_take] at hv
      split at hv
      · rw [List.getElem?_drop] at hv; exact h3 _ v hv
      · cases hv
    · obtain ⟨g1, g2⟩ := hc (l + i) (by omega)
      refine ⟨g1, fun d c hd => ?_⟩
      have := g2 d c hd
      rw [Nat.add_mul] at this
      rw [← this]
      congr 2
      omega
theorem mrun_ite_either {h : HpF} {b : Bool} {m m' : OpM} {res : SV × List (Nat × Option Chunk) × Nat × List Nat} (hm : mrun h (.ite b m m') = some res) : (b = true ∧ mrun h m = some res) ∨ (b = false ∧ mrun h m' = some res) := by
 cases b
 · exact .inr ⟨rfl, by simpa [mrun] using hm⟩
 · exact .inl ⟨rfl, by simpa [mrun] using hm⟩
theorem run_bounds3 {w : World} {n cap : Nat} {lu hu mu : Option Value} {l h k : Int} (hl : (lu = none ∧ l = 0) ∨ ∃ q, lu = some (.int q l)) (hh : ∃ q, hu = some (.int q h)) (hm : ∃ q, mu = some (.int q k)) (h1 : 0 ≤ l) (h2 : l ≤ h) (h3 : h ≤ k) (h4 : k ≤ (n : Int)) (h5 : n ≤ cap) :
  (Instr.sliceBounds true n cap lu hu mu).run P w = .ok (l.toNat, h.toNat, k.toNat) w := by
 obtain ⟨q1, rfl⟩ := hh
 obtain ⟨q2, rfl⟩ := hm
 have a0 : 0 ≤ k := by omega
 have a1 : 0 ≤ h := by omega
 have a2 : k ≤ (cap : Int) := by omega
 have a3 : l ≤ (h.toNat : Int) := by omega
 have a4 : h ≤ (k.toNat : Int) := by omega
 have a5 : h ≤ max k 0 := by omega
 have a6 : l ≤ max h 0 := by omega
 rcases hl with ⟨rfl, rfl⟩ | ⟨q3, rfl⟩ <;> simp [Instr.sliceBounds, Instr.sliceBound, asIntOf, *]
theorem run_slc3X {t e : TypeId} (hu : P.underlying t = some (.slice e)) {ie : TypeInfo} (hie : P.info? e = some ie) {x : SV} {l hh k : Int} {nx nx' : Nat} {r : SV} {ups : List (Nat × Option Chunk)} {rs : List Nat} (hm : mrun h (slc3X P e x l hh k nx) = some (r, ups, nx', rs)) {u : Value} {ul uh um : Option Value} (hx : VRel P ω w Im θ x u)
  (bl : (ul = none ∧ l = 0) ∨ ∃ q, ul = some (.int q l)) (bh : ∃ q, uh = some (.int q hh)) (bm : ∃ q, um = some (.int q k)) :
  ∃ v, (Instr.sliceAt t u ul uh um).run P w = .ok v w ∧ VRel P ω w Im θ r v ∧ ups = [] ∧ nx' = nx := by
 unfold slc3X at hm
 split at hm
 case h_2 => simp [mrun] at hm
 rename_i y sz i n
 have hb0 := bif_fail hm; clear hm; obtain ⟨hk, hm⟩ := hb0
 have : sz = P.cellsOf e := Nat.eq_of_beq_eq_true hk
 subst this
 have hb0 := mrun_ite_fail' hm; clear hm; obtain ⟨hc, hm⟩ := hb0
 simp only [Bool.and_eq_true, decide_eq_true_eq] at hc
 obtain ⟨⟨⟨c1, c2⟩, c3⟩, c4⟩ := hc
 obtain ⟨rfl, rfl, rfl, -⟩ := mrun_done hm
 cases hx with
 | qs hθ g1 g2 =>
  rename_i b N cap
  have hb := run_bounds3 (P := P) (w := w) bl bh bm c1 c2 c3 c4 g2
  by_cases hcl : k.toNat = l.toNat
  · have hz : hh.toNat - l.toNat = 0 := by omega
    refine ⟨.slice (some ⟨b, i * P.cellsOf e, none⟩) 0 0, ?_, .qsnil hz, rfl, rfl⟩
    simp [Instr.sliceAt, Instr.slice, run_underlying hu, hb, run_sizeOf' hie, hz, hcl]
  · refine ⟨.slice (some ⟨b, (i + l.toNat) * P.cellsOf e, none⟩) (hh.toNat - l.toNat) (k.toNat - l.toNat), ?_, .qs hθ ?_ (by omega), rfl, rfl⟩
    · simp [Instr.sliceAt, Instr.slice, run_underlying hu, hb, run_sizeOf' hie, hcl, add_off, Nat.add_mul]
    · have : i + l.toNat + (k.toNat - l.toNat) ≤ i + cap := by omega
      exact Nat.le_trans (Nat.mul_le_mul_right _ this) g1
 | qsnil h0 =>
  rename_i p
  subst h0
  have hb := run_bounds3 (P := P) (w := w) (cap := 0) bl bh bm c1 c2 c3 c4 (Nat.le_refl _)
  have hl0 : l = 0 := by omega
  have hh0 : hh = 0 := by omega
  have hk0 : k = 0 := by omega
  subst hl0
  subst hh0
  subst hk0
  refine ⟨.slice p 0 0, ?_, .qsnil (by simp), rfl, rfl⟩
  simp [Instr.sliceAt, Instr.slice, run_underlying hu, hb, run_sizeOf' hie]
theorem byteL_at : ∀ {l : List SV}, byteL l = true → ∀ v ∈ l, ∃ n, v = .int .u8 n
 | [], _, v, h => by cases h
 | a :: l, hb, v, h => by
  unfold byteL at hb
  split at hb
  · rename_i heq; cases heq
  · rename_i n l' heq
    simp only [List.cons.injEq] at heq
    obtain ⟨rfl, rfl⟩ := heq
    rcases List.mem_cons.1 h with rfl | h
    · exact ⟨_, rfl⟩
    · exact byteL_at hb v h
  · cases hb
theorem run_pelS {t : TypeId} {v : SV} {off n nx nx' : Nat} {e : TypeId} {r : SV} {ups : List (Nat × Option Chunk)} {rs : List Nat} (hu : P.underlying t = some (.array n e)) (hm : mrun h (pelS P e n v off nx) = some (r, ups, nx', rs)) {u : Value} (hx : VRel P ω w Im θ (.pel v off) u) :
  ∃ v, (Instr.sliceAt t u none none none).run P w = .ok v w ∧ VRel P ω w Im θ r v ∧ ups = [] ∧ nx' = nx := by
 unfold pelS at hm
 split at hm
 case h_2 => simp [mrun] at hm
 rename_i cs hcs
 split at hm
 case h_2 => simp [mrun] at hm
 rename_i bs hbs
 have hb0 := bif_fail hm; clear hm; obtain ⟨hk, hm⟩ := hb0
 obtain ⟨rfl, rfl, rfl, rfl⟩ := mrun_done hm
 simp only [Bool.and_eq_true] at hk
 obtain ⟨k1, k2, k3, k4⟩ := hk
 obtain ⟨ie, hie⟩ := known_info k1
 have hn : 1 ≤ n := by rwa [Nat.ble_eq] at k4
 have hue : P.underlying e = some (.int .u8) ∧ P.cellsOf e = 1 := by
  unfold byteT at k2
  split at k2
  · rename_i h1; exact ⟨h1, Nat.eq_of_beq_eq_true k2⟩
  · cases k2
 obtain ⟨t1, t2⟩ := takeN_spec _ _ _ _ hbs
 cases hx with
 | pel h1 h2 h3 =>
  rename_i uu a base
  have hl := cells_rel h1 hcs
  have hlen : bs.length = n := by rw [t2, List.length_take, List.length_drop]; omega
  have hb := run_boundsA (P := P) (w := w) (n := n) (lu := none) (hu := none) (l := 0) (h := n) (.inl ⟨rfl, rfl⟩) (.inl ⟨rfl, rfl⟩) (by omega) (by omega) (by omega)
  have hat : ∀ (i : Nat) (x : SV), bs[i]? = some x → ∃ k q, x = .int .u8 k ∧ uu.cells.toList[off + i]? = some q ∧ q = .int .u8 k := by
   intro i x hi
   obtain ⟨k, rfl⟩ := byteL_at k3 x (List.mem_of_getElem? hi)
   have hci : cs[off + i]? = some (.int .u8 k) := by
    rw [t2] at hi
    rw [List.getElem?_take, List.getElem?_drop] at hi
    split at hi
    · exact hi
    · cases hi
   have hlt : off + i < uu.cells.toList.length := by
    obtain ⟨hlt, _⟩ := List.getElem?_eq_some_iff.1 hci
    rw [hl.len] at hlt; exact hlt
   refine ⟨k, uu.cells.toList[off + i], rfl, List.getElem?_eq_getElem hlt, ?_⟩
   have := hl.at_ (off + i) _ _ hci (List.getElem?_eq_getElem hlt)
   generalize uu.cells.toList[off + i] = q at this
   cases this; rfl
  refine ⟨.slice (some ⟨a, base + off, none⟩) n n, ?_, ?_, rfl, rfl⟩
  · have : ¬ n = 0 := by omega
    simp [Instr.sliceAt, run_underlying hu, hb, run_sizeOf' hie, this, add_off, Instr.sureAddr]
  · refine .psl (fun i => uu.cells.toList.getD (off + i) undef) hlen ⟨Nat.le_refl _, fun h => by cases h⟩ (fun x hx => ?_) (fun i x hi => ?_) (fun _ => ⟨a, base + off, rfl, h2, fun i hi => ?_⟩)
    · obtain ⟨k, rfl⟩ := byteL_at k3 x hx
      have ha : isAggT P e = false := by unfold isAggT; rw [hue.1]
      simp only [expand, ha, cond_false, expandLeaf, hue.1, asI]
    · obtain ⟨k, q, rfl, hq, rfl⟩ := hat i x hi
      show VRel P om0 w Im noTh _ (uu.cells.toList.getD (off + i) undef)
      rw [List.getD_eq_getElem?_getD, hq]; exact .int
    · obtain ⟨k, q, hx, hq, rfl⟩ := hat i bs[i] (List.getElem?_eq_getElem (by omega))
      show (uu.cells.toList.getD (off + i) undef).cells.size = _ ∧ ∀ (d : Nat) (c : Value), (uu.cells.toList.getD (off + i) undef).cells[d]? = some c → _
      rw [List.getD_eq_getElem?_getD, hq]
      refine ⟨by rw [hue.2]; rfl, fun d c hd => ?_⟩
      cases d with
      | zero =>
       simp [Value.cells] at hd; subst hd
       rw [hue.2, Nat.mul_one, Nat.add_zero, Nat.add_assoc]
       exact h3 (off + i) _ (by simpa using hq)
      | succ d => simp [Value.cells] at hd
theorem bvals_at (es : List SV) : ∀ (n i j : Nat) (v : SV), (bvals es i n)[j]? = some v → j < n ∧ v = .int .u8 (asI (es.getD (i + j) .junk))
 | 0, i, j, v, h => by simp [bvals] at h
 | n + 1, i, 0, v, h => by simp [bvals] at h; exact ⟨by omega, h.symm⟩
 | n + 1, i, j + 1, v, h => by
  simp only [bvals, List.getElem?_cons_succ] at h
  obtain ⟨h1, h2⟩ := bvals_at es n (i + 1) j v h
  exact ⟨by omega, by rw [h2, show i + 1 + j = i + (j + 1) by omega]⟩
theorem bvals_len (es : List SV) : ∀ (n i : Nat), (bvals es i n).length = n
 | 0, i => rfl
 | n + 1, i => by simp [bvals, bvals_len es n (i + 1)]
theorem run_s2apX {t : TypeId} {x : SV} {nx nx' : Nat} {r : SV} {ups : List (Nat × Option Chunk)} {rs : List Nat} (hm : mrun h (s2apX P t x nx) = some (r, ups, nx', rs)) {u : Value} (hx : VRel P ω w Im θ x u) :
  ∃ v, (Instr.arrayAt t u).run P w = .ok v w ∧ VRel P ω w Im θ r v ∧ ups = [] ∧ nx' = nx := by
 unfold s2apX at hm
 split at hm
 case h_2 => simp [mrun] at hm
 rename_i n e e' es hu
 have hb0 := bif_fail hm; clear hm; obtain ⟨hk, hm⟩ := hb0
 simp only [Bool.and_eq_true] at hk
 obtain ⟨⟨k2, k5⟩, k4⟩ := hk
 have hee : e = e' := Nat.eq_of_beq_eq_true k5
 subst hee
 have hn : 1 ≤ n := by rwa [Nat.ble_eq] at k4
 have hue : P.underlying e = some (.int .u8) ∧ P.cellsOf e = 1 := by
  unfold byteT at k2
  split at k2
  · rename_i h1; exact ⟨h1, Nat.eq_of_beq_eq_true k2⟩
  · cases k2
 have hb0 := mrun_ite_fail' hm; clear hm; obtain ⟨hc, hm⟩ := hb0
 have hle : n ≤ es.length := of_decide_eq_true hc
 obtain ⟨rfl, rfl, rfl, rfl⟩ := mrun_done hm
 cases hx with
 | psl us h1 h0 h2 h3 h4 =>
  rename_i p m cap
  obtain ⟨a, off, rfl, hIm, hat⟩ := h4 (by omega)
  have hval : ∀ i, i < n → us i = .int .u8 (asI (es.getD i .junk)) := by
   intro i hi
   have hi' : i < es.length := by omega
   have hv := h3 i es[i] (by simp [hi'])
   have hex := h2 es[i] (List.getElem_mem _)
   have ha : isAggT P e = false := by unfold isAggT; rw [hue.1]
   unfold expand at hex
   rw [ha, cond_false] at hex
   unfold expandLeaf at hex
   rw [hue.1] at hex
   simp only at hex
   rw [List.getD_eq_getElem?_getD, List.getElem?_eq_getElem hi', Option.getD_some]
   rw [← hex] at hv
   rw [← hex]
   generalize us i = q at hv
   cases hv
   simp [asI]
  refine ⟨.pointer (some ⟨a, off, none⟩), ?_, ?_, rfl, rfl⟩
  · have : ¬ m < n := by omega
    simp [Instr.arrayAt, run_underlying hu, this]
  · refine .pel (u := .agg ((List.range n).map fun i => Value.int .u8 (asI (es.getD i .junk))).toArray) (base := off) ?_ hIm (fun d c hd => ?_)
    · refine .agg (by simp [bvals_len]) (fun i v u hv hu' => ?_)
      obtain ⟨q1, q2⟩ := bvals_at es n 0 i v hv
      rw [q2, Nat.zero_add]
      simp [q1] at hu'
      rw [← hu']
      exact .int
    · simp only [Value.cells, List.getElem?_toArray, List.getElem?_map] at hd
      by_cases hdn : d < n
      · simp [hdn] at hd
        obtain ⟨q1, q2⟩ := hat d (by omega)
        have := q2 0 c (by rw [hval d hdn, ← hd]; rfl)
        rw [hue.2, Nat.mul_one, Nat.add_zero] at this
        exact this
      · simp [hdn] at hd
theorem run_slcX {t : TypeId} {x : SV} {lo hi mx : Option SV} {nx nx' : Nat} {r : SV} {ups : List (Nat × Option Chunk)} {rs : List Nat} (hr : HRel P ω w Im θ h) (hm : mrun h (slcX P t x lo hi mx nx) = some (r, ups, nx', rs)) {u : Value} {ul uh um : Option Value} (hx : VRel P ω w Im θ x u)
  (l1 : lo = none → ul = none) (l2 : ∀ v, lo = some v → ∃ x, ul = some x ∧ VRel P ω w Im θ v x) (i1 : hi = none → uh = none) (i2 : ∀ v, hi = some v → ∃ x, uh = some x ∧ VRel P ω w Im θ v x) (m1 : mx = none → um = none) (m2 : ∀ v, mx = some v → ∃ x, um = some x ∧ VRel P ω w Im θ v x) :
  ∃ v, (Instr.sliceAt t u ul uh um).run P w = .ok v w ∧ VRel P ω w Im θ r v ∧ ups = [] ∧ nx' = nx := by
 unfold slcX at hm
 split at hm
 · obtain rfl := m1 rfl
   split at hm
   · -- a string
     rename_i s hu
     split at hm
     case h_2 => simp [mrun] at hm
     rename_i l hh hl' hh'
     have hb0 := mrun_ite_fail' hm; clear hm; obtain ⟨hc, hm⟩ := hb0
     simp only [Bool.and_eq_true, decide_eq_true_eq] at hc
     obtain ⟨⟨c1, c2⟩, c3⟩ := hc
     obtain ⟨rfl, rfl, rfl, rfl⟩ := mrun_done hm
     have bl := bound_rel hl' l1 l2
     have bh := bound_rel hh' i1 i2
     cases hx with
     | str hs =>
      rename_i bs
      rw [← bytes_size hs] at bh c3
      have hb := run_boundsA (P := P) (w := w) bl bh c1 c2 c3
      refine ⟨.string (bs.extract l.toNat hh.toNat), ?_, .str ?_, rfl, rfl⟩
      · simp [Instr.sliceAt, Instr.slice, run_underlying hu, hb]
      · rw [ByteArray.data_extract, Array.toList_extract, hs, List.extract_eq_take_drop]
   · -- known by content
     rename_i e e' es hu
     split at hm
     case h_2 => simp [mrun] at hm
     rename_i l hh hl' hh'
     have hb0 := bif_fail hm; clear hm; obtain ⟨hk, hm⟩ := hb0
     simp only [Bool.and_eq_true] at hk
     have : e = e' := Nat.eq_of_beq_eq_true hk.1
     subst this
     obtain ⟨ie, hie⟩ := known_info hk.2
     have hb0 := mrun_ite_fail' hm; clear hm; obtain ⟨hc, hm⟩ := hb0
     simp only [Bool.and_eq_true, decide_eq_true_eq] at hc
     obtain ⟨⟨c1, c2⟩, c3⟩ := hc
     obtain ⟨rfl, rfl, rfl, rfl⟩ := mrun_done hm
     have bl := bound_rel hl' l1 l2
     have bh := bound_rel hh' i1 i2
     have hx2 := hx
     cases hx with
     | psl us h1 h0 h2 h3 h4 =>
      rename_i p n cap
      rw [h1] at bh c3
      have hb := run_bounds (P := P) (w := w) bl bh c1 c2 c3 h0.1
      refine ⟨_, ?_, psl_part (l := l.toNat) (k := hh.toNat - l.toNat) hx2 (by omega), rfl, rfl⟩
      simp [Instr.sliceAt, Instr.slice, run_underlying hu, hb, run_sizeOf' hie]
   · -- a list that has grown
     rename_i e y sz k n hu
     split at hm
     case h_2 => simp [mrun] at hm
     rename_i l hh hl' hh'
     have hb0 := bif_fail hm; clear hm; obtain ⟨hk, hm⟩ := hb0
     simp only [Bool.and_eq_true] at hk
     have : sz = P.cellsOf e := Nat.eq_of_beq_eq_true hk.1
     subst this
     obtain ⟨ie, hie⟩ := known_info hk.2
     have hb0 := mrun_ite_fail' hm; clear hm; obtain ⟨hc, hm⟩ := hb0
     simp only [Bool.and_eq_true, decide_eq_true_eq] at hc
     obtain ⟨⟨c1, c2⟩, c3⟩ := hc
     obtain ⟨rfl, rfl, rfl, rfl⟩ := mrun_done hm
     have bl := bound_rel hl' l1 l2
     have bh := bound_rel hh' i1 i2
     cases hx with
     | qs hθ g1 g2 =>
      rename_i b N cap
      have hb := run_bounds (P := P) (w := w) bl bh c1 c2 c3 g2
      by_cases hcl : cap = l.toNat
      · have hz : hh.toNat - l.toNat = 0 := by omega
        refine ⟨.slice (some ⟨b, k * P.cellsOf e, none⟩) 0 0, ?_, .qsnil hz, rfl, rfl⟩
        subst hcl
        simp [Instr.sliceAt, Instr.slice, run_underlying hu, hb, run_sizeOf' hie, hz]
      · refine ⟨.slice (some ⟨b, (k + l.toNat) * P.cellsOf e, none⟩) (hh.toNat - l.toNat) (cap - l.toNat), ?_, .qs hθ ?_ (by omega), rfl, rfl⟩
        · simp [Instr.sliceAt, Instr.slice, run_underlying hu, hb, run_sizeOf' hie, hcl, add_off, Nat.add_mul]
        · have : k + l.toNat + (cap - l.toNat) = k + cap := by omega
          rw [this]; exact g1
     | qsnil h0 =>
      rename_i p
      subst h0
      have hb := run_bounds (P := P) (w := w) (cap := 0) bl bh c1 c2 c3 (Nat.le_refl _)
      have hl0 : l = 0 := by omega
      have hh0 : hh = 0 := by omega
      subst hl0
      subst hh0
      refine ⟨.slice p 0 0, ?_, .qsnil (by simp), rfl, rfl⟩
      simp [Instr.sliceAt, Instr.slice, run_underlying hu, hb, run_sizeOf' hie]
   · rename_i e hu
     split at hm
     case h_2 => simp [mrun] at hm
     rename_i l hh hl' hh'
     have hb0 := bif_fail hm; clear hm; obtain ⟨hk, hm⟩ := hb0
     obtain ⟨ie, hie⟩ := known_info hk
     have hb0 := mrun_ite_fail' hm; clear hm; obtain ⟨hc, hm⟩ := hb0
     simp only [Bool.and_eq_true, decide_eq_true_eq] at hc
     obtain ⟨rfl, rfl⟩ := hc
     obtain ⟨rfl, rfl, rfl, rfl⟩ := mrun_done hm
     have bl := bound_rel hl' l1 l2
     have bh := bound_rel hh' i1 i2
     cases hx
     have hb := run_bounds (P := P) (w := w) (n := 0) (cap := 0) bl bh (Int.le_refl _) (Int.le_refl _) (Int.le_refl _) (Nat.le_refl _)
     refine ⟨.slice none 0 0, ?_, .nils, rfl, rfl⟩
     simp [Instr.sliceAt, Instr.slice, run_underlying hu, hb, run_sizeOf' hie]
   · exact run_sliceArr hr hm hx l1 l2 i1 i2 (fun h => rfl)
   · rename_i n e v off hu
     split at hm
     · obtain rfl := l1 rfl
       obtain rfl := i1 rfl
       exact run_pelS hu hm hx
     · simp [mrun] at hm
   · simp [mrun] at hm
 · rename_i m
   obtain ⟨xm, rfl, hxm⟩ := m2 m rfl
   split at hm
   case h_2 => simp [mrun] at hm
   rename_i e l hh k hu hl' hh' hk'
   have hb0 := bif_fail hm; clear hm; obtain ⟨hk, hm⟩ := hb0
   simp only [Bool.and_eq_true] at hk
   obtain ⟨ie, hie⟩ := known_info hk.1
   have bl := bound_rel hl' l1 l2
   have bm0 : ∃ q, some xm = some (.int q k) := by
    cases m <;> simp only [boundS] at hk' <;> try (cases hk'; done)
    simp only [Option.some.injEq] at hk'
    subst hk'
    cases hxm
    exact ⟨_, rfl⟩
   have bh0 : ∃ q, uh = some (.int q hh) := by
    cases hi with
    | none => simp at hk
    | some v =>
     obtain ⟨x, rfl, hv⟩ := i2 v rfl
     cases v <;> simp only [boundS] at hh' <;> try (cases hh'; done)
     simp only [Option.some.injEq] at hh'
     subst hh'
     cases hv
     exact ⟨_, rfl⟩
   have hm2 := mrun_ite_either hm
   clear hm
   rcases hm2 with ⟨hc, hm⟩ | ⟨hc, hm⟩
   case inr => exact run_slc3X hu hie hm hx bl bh0 bm0
   simp only [Bool.and_eq_true, decide_eq_true_eq] at hc
   obtain ⟨⟨rfl, rfl⟩, rfl⟩ := hc
   have bm : ∃ kk, xm = .int kk 0 := by
    cases m <;> simp only [boundS] at hk' <;> try (cases hk'; done)
    simp only [Option.some.injEq] at hk'
    subst hk'
    cases hxm
    exact ⟨_, rfl⟩
   have bh : ∃ kk, uh = some (.int kk 0) := by
    cases hi with
    | none => simp at hk
    | some v =>
     obtain ⟨x, rfl, hv⟩ := i2 v rfl
     cases v <;> simp only [boundS] at hh' <;> try (cases hh'; done)
     simp only [Option.some.injEq] at hh'
     subst hh'
     cases hv
     exact ⟨_, rfl⟩
   obtain ⟨km, rfl⟩ := bm
   obtain ⟨kh, rfl⟩ := bh
   have hb : ∀ n cap, (Instr.sliceBounds true n cap ul (some (.int kh 0)) (some (.int km 0))).run P w = .ok (0, 0, 0) w := by
    intro n cap
    rcases bl with ⟨rfl, _⟩ | ⟨kl, rfl⟩ <;> simp [Instr.sliceBounds, Instr.sliceBound, asIntOf]
   have key : ∀ (p : Option Addr) (n cap : Nat), (Instr.sliceAt t (.slice p n cap) ul (some (.int kh 0)) (some (.int km 0))).run P w = .ok (.slice p 0 0) w := by
    intro p n cap
    simp [Instr.sliceAt, Instr.slice, run_underlying hu, hb, run_sizeOf' hie]
   split at hm
   · obtain ⟨rfl, rfl, rfl, rfl⟩ := mrun_done hm
     cases hx
     exact ⟨_, key _ _ _, .nils, rfl, rfl⟩
   · obtain ⟨rfl, rfl, rfl, rfl⟩ := mrun_done hm
     cases hx
     exact ⟨_, key _ _ _, .emp, rfl, rfl⟩
   · obtain ⟨rfl, rfl, rfl, rfl⟩ := mrun_done hm
     cases hx
     exact ⟨_, key _ _ _, .emp, rfl, rfl⟩
   · obtain ⟨rfl, rfl, rfl, rfl⟩ := mrun_done hm
     cases hx
     exact ⟨_, key _ _ _, .emp, rfl, rfl⟩
   · obtain ⟨rfl, rfl, rfl, rfl⟩ := mrun_done hm
     cases hx <;> exact ⟨_, key _ _ _, .emp, rfl, rfl⟩
   · obtain ⟨rfl, rfl, rfl, rfl⟩ := mrun_done hm
     cases hx <;> exact ⟨_, key _ _ _, .emp, rfl, rfl⟩
   · simp [mrun] at hm
/- Elements. -/
theorem run_indexAddrX {t : TypeId} {x ix : SV} {nx nx' : Nat} {r : SV} {ups : List (Nat × Option Chunk)} {rs : List Nat} (hm : mrun h (indexAddrX P t x ix nx) = some (r, ups, nx', rs)) {u ui : Value} (hx : VRel P ω w Im θ x u) (hi : VRel P ω w Im θ ix ui) :
  ∃ v, (Instr.indexAt t u ui).run P w = .ok v w ∧ VRel P ω w Im θ r v ∧ ups = [] ∧ nx' = nx := by
 unfold indexAddrX at hm
 split at hm
 · rename_i k i e e' es hu
   cases hi
   have hb0 := bif_fail hm; clear hm; obtain ⟨hk, hm⟩ := hb0
   simp only [Bool.and_eq_true] at hk
   have : e = e' := Nat.eq_of_beq_eq_true hk.1
   subst this
   obtain ⟨ie, hie⟩ := known_info hk.2
   obtain ⟨hb, rfl, rfl, rfl⟩ := mrun_ite_fail hm
   have hb' := inB_iff.1 hb
   cases hx with
   | psl us h1 h0 h2 h3 h4 =>
    rename_i p n cap
    have hil : i.toNat < es.length := by omega
    obtain ⟨a, off, rfl, ha, hc⟩ := h4 (by omega)
    obtain ⟨g1, g2⟩ := hc i.toNat (by omega)
    have hget : es[i.toNat]? = some es[i.toNat] := by simp [hil]
    refine ⟨.pointer (some ⟨a, off + i.toNat * P.cellsOf e + 0, none⟩), ?_, .pel ?_ ha g2, rfl, rfl⟩
    · have hin : 0 ≤ i ∧ i < (n : Int) := by omega
      simp [Instr.indexAt, asIntOf, run_underlying hu, hin, run_sizeOf' hie, add_off]
    · have : es.getD i.toNat .junk = es[i.toNat] := by simp [List.getD_eq_getElem?_getD, hget]
      rw [this, h2 _ (List.getElem_mem hil)]
      exact h3 _ _ hget
 · rename_i k i e y sz l n hu
   cases hi
   have hb0 := bif_fail hm; clear hm; obtain ⟨hk, hm⟩ := hb0
   simp only [Bool.and_eq_true] at hk
   have : sz = P.cellsOf e := Nat.eq_of_beq_eq_true hk.1
   subst this
   obtain ⟨ie, hie⟩ := known_info hk.2
   obtain ⟨hb, rfl, rfl, rfl⟩ := mrun_ite_fail hm
   have hb' := inB_iff.1 hb
   cases hx with
   | qs hθ g1 g2 =>
    rename_i b N cap
    refine ⟨.pointer (some ⟨b, (l + i.toNat) * P.cellsOf e + 0, none⟩), ?_, .qp hθ, rfl, rfl⟩
    simp [Instr.indexAt, asIntOf, run_underlying hu, hb', run_sizeOf' hie, add_off, Nat.add_mul]
   | qsnil h0 => exfalso; omega
 · rename_i k i e y sz n hu
   cases hi
   have hb0 := bif_fail hm; clear hm; obtain ⟨hk, hm⟩ := hb0
   simp only [Bool.and_eq_true] at hk
   have : sz = P.cellsOf e := Nat.eq_of_beq_eq_true hk.1
   subst this
   obtain ⟨ie, hie⟩ := known_info hk.2
   obtain ⟨hb, rfl, rfl, rfl⟩ := mrun_ite_fail hm
   have hb' := inB_iff.1 hb
   cases hx with
   | qo hθ g2 =>
    rename_i b off cap
    refine ⟨.pointer (some ⟨b, off + i.toNat * P.cellsOf e + 0, none⟩), ?_, .qop hθ, rfl, rfl⟩
    simp [Instr.indexAt, asIntOf, run_underlying hu, hb', run_sizeOf' hie, add_off]
   | qonil h0 => exfalso; omega
 · rename_i k i n e v off hu
   cases hi
   have hb0 := bif_fail hm; clear hm; obtain ⟨hk, hm⟩ := hb0
   obtain ⟨ie, hie⟩ := known_info hk
   obtain ⟨hb, rfl, rfl, rfl⟩ := mrun_ite_fail hm
   have hb' := inB_iff.1 hb
   cases hx with
   | pel h1 h2 h3 =>
    refine ⟨_, ?_, .pel h1 h2 h3, rfl, rfl⟩
    simp [Instr.indexAt, asIntOf, run_underlying hu, Instr.sureAddr, hb', run_sizeOf' hie, add_off, Nat.add_assoc]
 · rename_i k i n e y sz l off hu
   cases hi
   have hb0 := bif_fail hm; clear hm; obtain ⟨hk, hm⟩ := hb0
   obtain ⟨ie, hie⟩ := known_info hk
   obtain ⟨hb, rfl, rfl, rfl⟩ := mrun_ite_fail hm
   have hb' := inB_iff.1 hb
   cases hx with
   | qp hθ =>
    refine ⟨_, ?_, .qp hθ, rfl, rfl⟩
    simp [Instr.indexAt, asIntOf, run_underlying hu, Instr.sureAddr, hb', run_sizeOf' hie, add_off, Nat.add_assoc]
 · rename_i k i n e g off hu
   cases hi
   have hb0 := bif_fail hm; clear hm; obtain ⟨hk, hm⟩ := hb0
   obtain ⟨ie, hie⟩ := known_info hk
   obtain ⟨hb, rfl, rfl, rfl⟩ := mrun_ite_fail hm
   have hb' := inB_iff.1 hb
   cases hx with
   | gp =>
    refine ⟨_, ?_, .gp, rfl, rfl⟩
    simp [Instr.indexAt, asIntOf, run_underlying hu, Instr.sureAddr, hb', run_sizeOf' hie, add_off, Nat.add_assoc]
 · simp [mrun] at hm
theorem tabAt_mem : ∀ (l : List (Nat × List (IntKind × Int))) (g d : Nat) (kn : IntKind × Int), (tabAt l g)[d]? = some kn → ∃ e ∈ l, e.1 = g ∧ e.2[d]? = some kn
 | [], _, _, _, h => by simp [tabAt] at h
 | (g', l) :: r, g, d, kn, h => by
  unfold tabAt at h
  cases hb : Nat.beq g' g with
  | true => rw [hb] at h; exact ⟨(g', l), by simp, Nat.eq_of_beq_eq_true hb, h⟩
  | false =>
   rw [hb] at h
   obtain ⟨e, he, h1, h2⟩ := tabAt_mem r g d kn h
   exact ⟨e, by simp [he], h1, h2⟩
theorem take_some {α : Type} {l : List α} {n i : Nat} {c : α} (h : (l.take n)[i]? = some c) : l[i]? = some c := by
 rw [List.getElem?_take] at h
 split at h
 · exact h
 · cases h
theorem run_loadVar_at {θ' : Th} {a base off : Nat} {us : List Value} {vs : List SV} {t : TypeId} {v : SV} (hmem : ∀ (d : Nat) (c : Value), us[d]? = some c → w.cell? ⟨a, base + d, none⟩ = some c) (hl : LRel P ω w Im θ' vs us) (hp : partS P t vs off = some v) :
  ∃ u, (loadVar t ⟨a, base + off, none⟩).run P w = .ok u w ∧ VRel P ω w Im θ' v u := by
 obtain ⟨u, hu, hc⟩ := part_val hl hp
 refine ⟨u, ?_, hu⟩
 have hun : ∃ d, P.underlying t = some d := by
  unfold partS at hp
  cases h : P.underlying t with
  | none => simp [h] at hp
  | some d => exact ⟨d, rfl⟩
 obtain ⟨d, hd⟩ := hun
 obtain ⟨i, hi⟩ := info_of_underlying hd
 rcases hc with ⟨h1, rfl, h2⟩ | ⟨h1, h2⟩
 · have hload := run_loadCells_list (P := P) w ⟨a, base + off, none⟩ ((us.drop off).take (P.cellsOf t)) (fun j v hj => by
     rw [List.getElem?_take] at hj
     split at hj
     · rw [List.getElem?_drop] at hj
       rw [add_off, Nat.add_assoc]
       exact hmem _ _ hj
     · cases hj)
   have hn : ((us.drop off).take (P.cellsOf t)).length = P.cellsOf t := by simp; omega
   rw [hn] at hload
   unfold loadVar
   simp [run_isAgg hd, h1, run_sizeOf' hi, hload]
 · have hc := hmem off u h2
   unfold loadVar
   simp [run_isAgg hd, h1, hc]
theorem VRel.names {θ' : Th} {v : SV} {u : Value} (hv : VRel P om0 w Im noTh v u) (hn : noOpq v = true) : VRel P ω w Im θ' v u := (VRel.om hv hn).mono (fun b hb => ⟨hb, rfl⟩) (fun x p hp => by simp [noTh] at hp)
theorem run_loadX {t : TypeId} {a : SV} {nx nx' : Nat} {r : SV} {ups : List (Nat × Option Chunk)} {rs : List Nat} (hr : HRel P ω w Im θ h) (hm : mrun h (loadX P t a nx) = some (r, ups, nx', rs)) {u : Value} (hx : VRel P ω w Im θ a u) :
  ∃ v, (Instr.loadAt t u).run P w = .ok v w ∧ VRel P ω w Im θ r v ∧ ups = [] ∧ nx' = nx := by
 unfold loadX at hm
 split at hm
 · rename_i v off
   split at hm
   case h_2 => simp [mrun] at hm
   rename_i cs hcs
   split at hm
   case h_2 => simp [mrun] at hm
   rename_i z hz
   have hb0 := bif_fail hm; clear hm; obtain ⟨hno, hm⟩ := hb0
   obtain ⟨rfl, rfl, rfl, rfl⟩ := mrun_done hm
   cases hx with
   | pel h1 h2 h3 =>
    rename_i uu a base
    obtain ⟨q, hq1, hq2⟩ := run_loadVar_at (t := t) (off := off) (us := uu.cells.toList) (fun d c hd => h3 d c (by simpa using hd)) (cells_rel h1 hcs) hz
    exact ⟨q, by simp [Instr.loadAt, Instr.sureAddr, hq1], hq2.names hno, rfl, rfl⟩
 · rename_i y sz k off
   have hb0 := get_run hm; clear hm; obtain ⟨c, rs', hy, hm, rfl⟩ := hb0
   cases c with
   | seq e es =>
    have hb0 := bif_fail hm; clear hm; obtain ⟨hk, hm⟩ := hb0
    have : sz = P.cellsOf e := Nat.eq_of_beq_eq_true hk
    subst this
    split at hm
    case h_2 => simp [mrun] at hm
    rename_i cs hcs
    split at hm
    case h_2 => simp [mrun] at hm
    rename_i z hz
    have hb0 := bif_fail hm; clear hm; obtain ⟨hno, hm⟩ := hb0
    obtain ⟨hb, rfl, rfl, rfl⟩ := mrun_ite_fail hm
    have hkl : k < es.length := of_decide_eq_true hb
    cases hx with
    | qp hθ =>
     rename_i b N
     rcases hr.at_ y _ hy with ⟨_, h3⟩ | ⟨b', N', ca, T, fr, us, h3, h4, h5, h6, h7, h8, h9⟩
     · rw [h3] at hθ; cases hθ
     · rw [hθ] at h3
       simp only [Option.some.injEq, Prod.mk.injEq] at h3
       obtain ⟨rfl, rfl⟩ := h3
       have hget : es[k]? = some es[k] := by simp [hkl]
       obtain ⟨g1, g2, g3⟩ := h9 k es[k] hget
       have hex : expand P e (es.getD k .junk) = es[k] := by
        have : es.getD k .junk = es[k] := by simp [List.getD_eq_getElem?_getD, hget]
        rw [this, h8 _ (List.getElem_mem hkl)]
       rw [hex] at hcs
       obtain ⟨q, hq1, hq2⟩ := run_loadVar_at (t := t) (a := b) (base := k * P.cellsOf e) (off := off) (us := (us k).cells.toList) (fun d c hd => by
        have := g3 d c (by simpa using hd)
        simp only [World.cell?, h4]
        simpa using this) (cells_rel g1 hcs) hz
       exact ⟨q, by simp [Instr.loadAt, Instr.sureAddr, hq1], hq2.names hno, rfl, rfl⟩
   | cells => simp [mrun] at hm
   | loopr => simp [mrun] at hm
   | mpc => simp [mrun] at hm
   | mpb => simp [mrun] at hm
   | mpn => simp [mrun] at hm
   | mit => simp [mrun] at hm
   | sqo => simp [mrun] at hm
   | ext => simp [mrun] at hm
   | sqp e es =>
    have hb0 := bif_fail hm; clear hm; obtain ⟨hk, hm⟩ := hb0
    simp only [Bool.and_eq_true] at hk
    have : sz = 1 := Nat.eq_of_beq_eq_true hk.1
    subst this
    have : off = 0 := Nat.eq_of_beq_eq_true hk.2
    subst this
    split at hm
    case h_2 => simp [mrun] at hm
    rename_i z hz
    obtain ⟨rfl, rfl, rfl, rfl⟩ := mrun_done hm
    cases hx with
    | qp hθ =>
     rename_i b N
     obtain ⟨b', N', ca, fr, h3, h4, h5, h6, h7, h8⟩ := hr.at_ y _ hy
     rw [hθ] at h3
     simp only [Option.some.injEq, Prod.mk.injEq] at h3
     obtain ⟨rfl, rfl⟩ := h3
     obtain ⟨q, hq1, hq2⟩ := run_loadVar_at (t := t) (a := b) (base := 0) (off := k) (us := ca.toList.take es.length) (fun d c hd => by
      simp only [World.cell?, h4]
      have hd' := take_some hd
      simpa using hd') h8 hz
     rw [Nat.zero_add] at hq1
     exact ⟨q, by simp [Instr.loadAt, Instr.sureAddr, hq1], hq2, rfl, rfl⟩
 · rename_i y sz k off
   have hb0 := get_run hm; clear hm; obtain ⟨c, rs', hy, hm, rfl⟩ := hb0
   cases c with
   | sqo e es =>
    have hb0 := bif_fail hm; clear hm; obtain ⟨hk, hm⟩ := hb0
    have : sz = P.cellsOf e := Nat.eq_of_beq_eq_true hk
    subst this
    split at hm
    case h_2 => simp [mrun] at hm
    rename_i cs hcs
    split at hm
    case h_2 => simp [mrun] at hm
    rename_i z hz
    have hb0 := bif_fail hm; clear hm; obtain ⟨hno, hm⟩ := hb0
    obtain ⟨hb, rfl, rfl, rfl⟩ := mrun_ite_fail hm
    have hkl : k < es.length := of_decide_eq_true hb
    cases hx with
    | qop hθ =>
     rename_i b o cap
     obtain ⟨b', o', cap', ca, fr, us, h3, h4, h5, h6, h7, h8, h9⟩ := hr.at_ y _ hy
     rw [hθ] at h3
     simp only [Option.some.injEq, Prod.mk.injEq] at h3
     obtain ⟨rfl, h3⟩ := h3
     obtain ⟨rfl, rfl⟩ := enc_inj h3
     have hget : es[k]? = some es[k] := by simp [hkl]
     obtain ⟨g1, g2, g3⟩ := h9 k es[k] hget
     have hex : expand P e (es.getD k .junk) = es[k] := by
      have : es.getD k .junk = es[k] := by simp [List.getD_eq_getElem?_getD, hget]
      rw [this, h8 _ (List.getElem_mem hkl)]
     rw [hex] at hcs
     obtain ⟨q, hq1, hq2⟩ := run_loadVar_at (t := t) (a := b) (base := o + k * P.cellsOf e) (off := off) (us := (us k).cells.toList) (fun d c hd => by
      have := g3 d c (by simpa using hd)
      simp only [World.cell?, h4]
      simpa using this) (cells_rel g1 hcs) hz
     exact ⟨q, by simp [Instr.loadAt, Instr.sureAddr, hq1], hq2.names hno, rfl, rfl⟩
   | cells => simp [mrun] at hm
   | loopr => simp [mrun] at hm
   | mpc => simp [mrun] at hm
   | mpb => simp [mrun] at hm
   | mpn => simp [mrun] at hm
   | mit => simp [mrun] at hm
   | sqp => simp [mrun] at hm
   | ext => simp [mrun] at hm
   | seq => simp [mrun] at hm
 · rename_i g off
   split at hm
   case h_2 => simp [mrun] at hm
   rename_i k hu
   obtain ⟨hb, rfl, rfl, rfl⟩ := mrun_ite_fail hm
   simp only [Bool.and_eq_true, decide_eq_true_eq, beq_iff_eq] at hb
   obtain ⟨h1, h2⟩ := hb
   have hg : (tabAt (gtab P) g)[off]? = some ((tabAt (gtab P) g).getD off (k, 0)) := by simp [List.getD_eq_getElem?_getD, h1]
   generalize (tabAt (gtab P) g).getD off (k, 0) = kn at *
   obtain ⟨kd, n⟩ := kn
   simp only at h2
   subst h2
   obtain ⟨e, he, rfl, hd⟩ := tabAt_mem _ _ _ _ hg
   have hcell := hr.gl.cell he off (kd, n) hd
   cases hx with
   | gp =>
    have hp : partS P t [.int kd n] 0 = some (.int kd n) := by simp [partS, hu, nth?]
    obtain ⟨q, hq1, hq2⟩ := run_loadVar_at (ω := ω) (Im := Im) (θ' := θ) (t := t) (a := e.1) (base := off) (off := 0) (us := [.int kd n]) (vs := [.int kd n]) (fun d c hd => by
     match d, hd with
     | 0, hd => simp at hd; subst hd; exact hcell) ⟨rfl, fun i v u hv hu => by
     match i, hv, hu with
     | 0, hv, hu => simp at hv hu; subst hv hu; exact .int⟩ hp
    exact ⟨q, by simp [Instr.loadAt, Instr.sureAddr, Nat.add_zero] at hq1 ⊢; exact hq1, hq2, rfl, rfl⟩
 · simp [mrun] at hm
end
end Go.Am
/- The abstract machine: stores into lists, maps. -/
namespace Go.Am
variable {P : Program} {ω : Nat → Value}
theorem setRow_put {w : World} {b : Nat} {cs cs' : Array Value} {T : TypeId} {fr : Nat × Nat} (hb : w.heap[b]? = some (.cells cs T fr)) : w.setRow b cs' = w.putObj b (.cells cs' T fr) := by
 have hlt : b < w.heap.size := heap_lt hb
 have hv : w.heap[b] = .cells cs T fr := (Array.getElem?_eq_some_iff.1 hb).2
 unfold World.setRow World.putObj
 congr 1
 apply Array.ext
 · simp
 · intro i h1 h2
   simp only [Array.getElem_modify]
   by_cases h : b = i
   · subst h; simp [hv]
   · rw [if_neg h]; exact (Array.getElem_setIfInBounds_ne (by simpa using h2) h).symm
theorem seg_get {α : Type} (l vs : List α) (o : Nat) (h : o + vs.length ≤ l.length) (j : Nat) : (l.take o ++ vs ++ l.drop (o + vs.length))[j]? = if o ≤ j ∧ j < o + vs.length then vs[j - o]? else l[j]? := by
 have h1 : (l.take o).length = o := by simp; omega
 by_cases hj : j < o
 · rw [if_neg (by omega), List.append_assoc, List.getElem?_append_left (by omega), List.getElem?_take, if_pos hj]
 · by_cases hj2 : j < o + vs.length
   · rw [if_pos ⟨by omega, hj2⟩, List.append_assoc, List.getElem?_append_right (by omega), List.getElem?_append_left (by omega), h1]
   · rw [if_neg (by omega), List.getElem?_append_right (by simp; omega), List.getElem?_drop]
     congr 1
     simp; omega
section
variable {w : World} {Im : Nat → Prop} {θ : Th} {h : HpF}
theorem run_storeX {t : TypeId} {a v : SV} {nx nx' : Nat} {r : SV} {ups : List (Nat × Option Chunk)} {rs : List Nat} (hr : HRel P ω w Im θ h) (hm : mrun h (storeX P t a v nx) = some (r, ups, nx', rs)) {ua uv : Value} (hx : VRel P ω w Im θ a ua) (hv : VRel P ω w Im θ v uv) :
  ∃ w' Im', (Instr.storeAt t ua uv).run P w = .ok () w' ∧ r = .junk ∧ nx' = nx ∧ Ext (fun _ => False) h w Im θ (updF ups h) w' Im' θ ∧ HRel P ω w' Im' θ (updF ups h) := by
 unfold storeX at hm
 split at hm
 case h_2 => simp [mrun] at hm
 rename_i y sz k off
 have hb0 := bif_fail hm; clear hm; obtain ⟨hkt, hm⟩ := hb0
 obtain ⟨it, hit⟩ := known_info hkt
 have hb0 := get_run hm; clear hm; obtain ⟨c, rs', hy, hm, rfl⟩ := hb0
 cases c with
 | seq e es =>
  have hb0 := bif_fail hm; clear hm; obtain ⟨hk, hm⟩ := hb0
  have : sz = P.cellsOf e := Nat.eq_of_beq_eq_true hk
  subst this
  split at hm
  case h_2 => simp [mrun] at hm
  rename_i cs hcs
  obtain ⟨v', ys, rs1, hm, f1, f2, f3, f4⟩ := frzM_run hr hv hm
  split at hm
  case h_2 => simp [mrun] at hm
  rename_i vs hvs
  have hb0 := bif_fail hm; clear hm; obtain ⟨hk2, hm⟩ := hb0
  simp only [Bool.and_eq_true, Bool.not_eq_true'] at hk2
  split at hm
  case h_2 => simp [mrun] at hm
  rename_i cs' hcs'
  split at hm
  case h_2 => simp [mrun] at hm
  rename_i nw hnw
  have hb0 := bif_fail hm; clear hm; obtain ⟨hk3, hm⟩ := hb0
  simp only [Bool.and_eq_true] at hk3
  have hb0 := mrun_ite_fail' hm; clear hm; obtain ⟨hkl0, hm⟩ := hb0
  obtain ⟨rfl, rfl, rfl, rfl⟩ := mrun_done hm
  have hkl : k < es.length := of_decide_eq_true hkl0
  have hvl : vs.length = P.cellsOf t := Nat.eq_of_beq_eq_true hk2.1
  have hys : y ∉ ys := fun hh => by rw [(memN_iff' _ _).2 hh] at hk2; exact absurd hk2.2 (by simp)
  have hcl : cs'.length = P.cellsOf e := Nat.eq_of_beq_eq_true hk3.2
  obtain ⟨hE1, hH1⟩ := drop_step hr (new := fun _ => False) ys
  have hy1 : updF (drops ys) h y = some (.seq e es) := updF_drops_some.2 ⟨hys, hy⟩
  cases hx with
  | qp hθ =>
   rename_i b N
   rcases hH1.at_ y _ hy1 with ⟨_, h3⟩ | ⟨b', N', ca, T, fr, us, h3, h4, h5, h6, h7, h8, h9⟩
   · rw [h3] at hθ; cases hθ
   · rw [hθ] at h3
     simp only [Option.some.injEq, Prod.mk.injEq] at h3
     obtain ⟨rfl, rfl⟩ := h3
     have hget : es[k]? = some es[k] := by simp [hkl]
     obtain ⟨g1, g2, g3⟩ := h9 k es[k] hget
     have hex : expand P e (es.getD k .junk) = es[k] := by
      have : es.getD k .junk = es[k] := by simp [List.getD_eq_getElem?_getD, hget]
      rw [this, h8 _ (List.getElem_mem hkl)]
     rw [hex] at hcs
     obtain ⟨hle, rfl⟩ := splice_spec _ _ _ _ hcs'
     have hcr := cells_rel g1 hcs
     have hvr := cells_rel f1 hvs
     have hul : uv.cells.toList.length = vs.length := hvr.len.symm
     have hcsl : cs.length = P.cellsOf e := by
      have h1 := hcr.len
      simp only [Array.length_toList] at h1
      omega
     have hkb : (k + 1) * P.cellsOf e ≤ es.length * P.cellsOf e := Nat.mul_le_mul_right _ hkl
     have hkb2 : (k + 1) * P.cellsOf e = k * P.cellsOf e + P.cellsOf e := by rw [Nat.add_mul]; omega
     have hone : ∀ u ∈ uv.cells.toList, u.oneCell' = true := hvr.one (oneS_one hvs)
     have hroom : k * P.cellsOf e + off + uv.cells.toList.length ≤ ca.size := by omega
     have hst := run_storeCells_fine P b (k * P.cellsOf e + off) T fr uv.cells.toList 0 ca w h4 h5 (by simpa using hroom) hone
     simp only [Nat.add_zero] at hst
     generalize hcells : (ca.toList.take (k * P.cellsOf e + off) ++ uv.cells.toList ++ ca.toList.drop (k * P.cellsOf e + off + uv.cells.toList.length)).toArray = cells at hst
     have hcsz : cells.size = ca.size := by
      rw [← hcells]
      simp only [List.size_toArray, List.length_append, List.length_take, List.length_drop, Array.length_toList] at hroom ⊢
      omega
     rw [setRow_put h4] at hst
     -- the new element
     have hnl := ((hcr.takeL off).append hvr).append (hcr.dropL (off + vs.length))
     have hnew : ∃ u', VRel P om0 w (frozenBy Im θ h ys) noTh nw u' ∧ u'.cells.size = P.cellsOf e ∧ ∀ (d : Nat) (c : Value), u'.cells[d]? = some c → ((us k).cells.toList.take off ++ uv.cells.toList ++ (us k).cells.toList.drop (off + vs.length))[d]? = some c := by
      cases ha : isAggT P e with
      | true =>
       rw [ha] at hnw
       simp only [cond_true, Option.some.injEq] at hnw
       subst hnw
       refine ⟨.agg ((us k).cells.toList.take off ++ uv.cells.toList ++ (us k).cells.toList.drop (off + vs.length)).toArray, .agg (by simpa using hnl.len) (fun i v u hv hu => hnl.at_ i v u hv (by simpa using hu)), ?_, fun d c hd => by simpa [Value.cells] using hd⟩
       have := hnl.len
       rw [hcl] at this
       simpa [Value.cells] using this.symm
      | false =>
       rw [ha] at hnw
       simp only [cond_false] at hnw
       cases h1 : Nat.beq (P.cellsOf e) 1 with
       | false => simp [h1] at hnw
       | true =>
        simp only [h1, cond_true, nth?_eq] at hnw
        have h1' : P.cellsOf e = 1 := Nat.eq_of_beq_eq_true h1
        have hlen2 := hnl.len
        rw [hcl, h1'] at hlen2
        obtain ⟨u', hu'⟩ : ∃ u', ((us k).cells.toList.take off ++ uv.cells.toList ++ (us k).cells.toList.drop (off + vs.length))[0]? = some u' := by
         rw [List.getElem?_eq_getElem (by omega)]; exact ⟨_, rfl⟩
        have hrel := hnl.at_ 0 nw u' hnw hu'
        have hf := hk3.1
        unfold fits at hf
        rw [ha] at hf
        simp only [cond_false] at hf
        have hc1 := cells_one (one_of_oneS hrel (expandLeaf_fits hf).2)
        refine ⟨u', hrel, by rw [hc1, h1']; rfl, fun d c hd => ?_⟩
        rw [hc1] at hd
        cases d with
        | zero => simp at hd; subst hd; exact hu'
        | succ d => simp at hd
     obtain ⟨u', n1, n2, n3⟩ := hnew
     have hfn := (fits_free (ω' := om0) (θ' := noTh) hk3.1 n1).2
     obtain ⟨hE2, hH2⟩ := put_block hH1 hy1 hθ (.cells cells T fr) (some (.seq e (es.set k nw))) (fun hI d hd => by
      cases hd
      refine .inr ⟨b, N, cells, T, fr, fun i => if i = k then u' else us i, hθ, World.putObj_heap_same (heap_lt h4), by rw [hcsz]; exact h5, ⟨by rw [hcsz, h6.1], h6.2⟩, by simpa using h7, fun v hv => ?_, fun i v hv => ?_⟩
      · rcases List.mem_or_eq_of_mem_set hv with hv | rfl
        · exact h8 v hv
        · exact hfn
      · rw [List.getElem?_set] at hv
        by_cases hik : k = i
        · subst hik
          rw [if_pos rfl, if_pos hkl, Option.some.injEq] at hv
          subst hv
          simp only [if_true]
          refine ⟨n1.mono hI (fun _ _ h => h), n2, fun d c hd => ?_⟩
          have hdl : d < P.cellsOf e := by
           rw [← n2]
           rcases Nat.lt_or_ge d u'.cells.size with h1 | h1
           · exact h1
           · simp [Array.getElem?_eq_none h1] at hd
          have := n3 d c hd
          rw [← hul] at this
          rw [seg_get _ _ _ (by simp only [Array.length_toList]; have := hcr.len; simp only [Array.length_toList] at this; omega)] at this
          rw [← hcells]
          simp only [List.getElem?_toArray]
          rw [seg_get _ _ _ (by simpa using hroom)]
          by_cases hc : off ≤ d ∧ d < off + uv.cells.toList.length
          · rw [if_pos hc] at this
            rw [if_pos (by omega)]
            rw [← this]; congr 1; omega
          · rw [if_neg hc] at this
            rw [if_neg (by omega)]
            simpa using g3 d c (by simpa using this)
        · rw [if_neg hik] at hv
          have hik' : ¬ i = k := fun e => hik e.symm
          simp only [if_neg hik']
          obtain ⟨q1, q2, q3⟩ := h9 i v hv
          refine ⟨q1.mono hI (fun _ _ h => h), q2, fun d c hd => ?_⟩
          have hdl : d < P.cellsOf e := by
           rw [← q2]
           rcases Nat.lt_or_ge d (us i).cells.size with h1 | h1
           · exact h1
           · simp [Array.getElem?_eq_none h1] at hd
          rw [← hcells]
          simp only [List.getElem?_toArray]
          rw [seg_get _ _ _ (by simpa using hroom), if_neg]
          · simpa using q3 d c hd
          · intro hc
            rcases Nat.lt_or_gt_of_ne hik' with h1 | h1
            · have : (i + 1) * P.cellsOf e ≤ k * P.cellsOf e := Nat.mul_le_mul_right _ h1
              rw [Nat.add_mul] at this
              omega
            · have : (k + 1) * P.cellsOf e ≤ i * P.cellsOf e := Nat.mul_le_mul_right _ h1
              rw [Nat.add_mul] at this
              omega)
     have hsz : (sizeOf t).run P w = .ok (P.cellsOf t) w := run_sizeOf' hit w
     refine ⟨w.putObj b (.cells cells T fr), frozenBy Im θ h ys, ?_, rfl, rfl, by rw [updF_app]; exact hE1.trans hE2, by rw [updF_app]; exact hH2⟩
     simp [Instr.storeAt, Instr.sureAddr, storeVar, hsz, f3, hst]
 | cells => simp [mrun] at hm
 | loopr => simp [mrun] at hm
 | mpc => simp [mrun] at hm
 | mpb => simp [mrun] at hm
 | mpn => simp [mrun] at hm
 | mit => simp [mrun] at hm
 | sqo => simp [mrun] at hm
 | sqp => simp [mrun] at hm
 | ext => simp [mrun] at hm
/- Maps. -/
theorem findM_run {key : SV} {hit : Nat → OpM} {miss : OpM} {res : SV × List (Nat × Option Chunk) × Nat × List Nat} : ∀ (xs : List SV) (i : Nat), mrun h (findM key hit miss xs i) = some res →
  (∃ j x, xs[j]? = some x ∧ keyEq key x = some true ∧ (∀ j' x', j' < j → xs[j']? = some x' → keyEq key x' = some false) ∧ mrun h (hit (i + j)) = some res) ∨ ((∀ x ∈ xs, keyEq key x = some false) ∧ mrun h miss = some res)
 | [], i, hm => .inr ⟨(fun x hx => by cases hx), hm⟩
 | x :: xs, i, hm => by
  simp only [findM] at hm
  cases hk : keyEq key x with
  | none => simp [hk, mrun] at hm
  | some b =>
   simp only [hk, mrun] at hm
   cases b with
   | true => exact .inl ⟨0, x, rfl, hk, fun j' x' hj => by omega, by simpa using hm⟩
   | false =>
    simp only [Bool.false_eq_true, if_false] at hm
    rcases findM_run xs (i + 1) hm with ⟨j, y, h1, h2, h3, h4⟩ | ⟨h1, h2⟩
    · refine .inl ⟨j + 1, y, by simpa using h1, h2, fun j' x' hj hx => ?_, by rw [show i + (j + 1) = i + 1 + j by omega]; exact h4⟩
      cases j' with
      | zero => simp at hx; subst hx; exact hk
      | succ j' => exact h3 j' x' (by omega) (by simpa using hx)
    · refine .inr ⟨fun y hy => ?_, h2⟩
      rcases List.mem_cons.1 hy with rfl | hy
      · exact hk
      · exact h1 y hy
theorem keyT_is {kt : TypeId} {k : SV} (hk : keyT P kt k = true) {u : Value} (hv : VRel P ω w Im θ k u) : ∃ d, P.underlying kt = some d ∧ MapKept.IsKey d u := by
 unfold keyT at hk
 split at hk
 · rename_i a b n hu
   cases hv
   have : a = b := by cases a <;> cases b <;> first | rfl | (simp [ikEq] at hk)
   subst this
   exact ⟨_, hu, by simp [MapKept.IsKey]⟩
 · rename_i hu; cases hv; exact ⟨_, hu, by simp [MapKept.IsKey]⟩
 · rename_i hu; cases hv; exact ⟨_, hu, by simp [MapKept.IsKey]⟩
 · cases hk
theorem keyEq_now {d : TypeDesc} {k x : SV} {u v : Value} {b : Bool} (hu : VRel P ω w Im θ k u) (hv : VRel P ω w Im θ x v) (hk : MapKept.IsKey d u) (h : keyEq k x = some b) : Instr.sameNow d u v = some b ∧ (b = true → u = v) := by
 unfold keyEq at h
 split at h
 · rename_i k1 a k2 c
   cases hu
   cases hv
   cases hb : ikEq k1 k2 with
   | false => simp [hb] at h
   | true =>
    have : k1 = k2 := by cases k1 <;> cases k2 <;> first | rfl | (simp [ikEq] at hb)
    subst this
    simp only [hb, cond_true, Option.some.injEq] at h
    subst h
    cases d <;> simp [MapKept.IsKey] at hk
    subst hk
    exact ⟨by simp [Instr.sameNow], fun h => by simp at h; rw [h]⟩
 · rename_i a c
   cases hu with
   | str h1 =>
    cases hv with
    | str h2 =>
     rename_i s1 s2
     simp only [Option.some.injEq] at h
     subst h
     cases d <;> simp [MapKept.IsKey] at hk
     have hiff : (s1 == s2) = (a == c) := by
      rw [Bool.eq_iff_iff, MapKept.bytes_beq]
      simp only [beq_iff_eq]
      rw [← h1, ← h2]
      constructor
      · intro e; rw [e]
      · intro e
        obtain ⟨x⟩ := s1
        obtain ⟨y⟩ := s2
        congr 1
        exact Array.ext' e
     refine ⟨by simp [Instr.sameNow, hiff], fun h => ?_⟩
     rw [← hiff, MapKept.bytes_beq] at h
     rw [h]
 · rename_i a c
   cases hu
   cases hv
   simp only [Option.some.injEq] at h
   subst h
   cases d <;> simp [MapKept.IsKey] at hk
   exact ⟨by simp [Instr.sameNow], fun h => by simp at h; rw [h]⟩
 · cases h
theorem findNow_hit {d : TypeDesc} {k : SV} {u : Value} (hu : VRel P ω w Im θ k u) (hk : MapKept.IsKey d u) : ∀ (es : List MapEntry) (ks : List SV) (i j : Nat) (x : SV), LRel P ω w Im θ ks (es.map (·.key)) → ks[j]? = some x → keyEq k x = some true → (∀ j' x', j' < j → ks[j']? = some x' → keyEq k x' = some false) →
  ∃ e, es[j]? = some e ∧ e.key = u ∧ Instr.findNow d u es i = some (some (i + j, e.val))
 | [], ks, i, j, x, hl, hj, _, _ => by have := hl.len; simp at this; subst this; simp at hj
 | e :: es, [], i, j, x, hl, hj, _, _ => by simp at hj
 | e :: es, k0 :: ks, i, j, x, hl, hj, ht, hf => by
  have h0 := hl.at_ 0 k0 e.key rfl rfl
  have hl' : LRel P ω w Im θ ks (es.map (·.key)) := ⟨by have := hl.len; simpa using this, fun i v u hv hu => hl.at_ (i + 1) v u (by simpa using hv) (by simpa using hu)⟩
  cases j with
  | zero =>
   simp at hj
   subst hj
   obtain ⟨h1, h2⟩ := keyEq_now hu h0 hk ht
   exact ⟨e, rfl, (h2 rfl).symm, by simp [Instr.findNow, h1]⟩
  | succ j =>
   obtain ⟨h1, _⟩ := keyEq_now hu h0 hk (hf 0 k0 (by omega) rfl)
   obtain ⟨e', g1, g2, g3⟩ := findNow_hit hu hk es ks (i + 1) j x hl' (by simpa using hj) ht (fun j' x' hj' hx' => hf (j' + 1) x' (by omega) (by simpa using hx'))
   refine ⟨e', by simpa using g1, g2, ?_⟩
   simp only [Instr.findNow, h1, g3]
   congr 3
   omega
theorem findNow_miss {d : TypeDesc} {k : SV} {u : Value} (hu : VRel P ω w Im θ k u) (hk : MapKept.IsKey d u) : ∀ (es : List MapEntry) (ks : List SV) (i : Nat), LRel P ω w Im θ ks (es.map (·.key)) → (∀ x ∈ ks, keyEq k x = some false) → Instr.findNow d u es i = some none
 | [], ks, i, hl, _ => rfl
 | e :: es, [], i, hl, _ => by have := hl.len; simp at this
 | e :: es, k0 :: ks, i, hl, hf => by
  have h0 := hl.at_ 0 k0 e.key rfl rfl
  have hl' : LRel P ω w Im θ ks (es.map (·.key)) := ⟨by have := hl.len; simpa using this, fun i v u hv hu => hl.at_ (i + 1) v u (by simpa using hv) (by simpa using hu)⟩
  obtain ⟨h1, _⟩ := keyEq_now hu h0 hk (hf k0 (by simp))
  simp only [Instr.findNow, h1]
  exact findNow_miss hu hk es ks (i + 1) hl' (fun x hx => hf x (by simp [hx]))
theorem setN_eq {α : Type} : ∀ (l : List α) (i : Nat) (v : α), setN l i v = l.set i v
 | [], _, _ => rfl
 | _ :: _, 0, _ => rfl
 | x :: l, i + 1, v => by simp [setN, setN_eq l i v]
theorem sameBits_key {d : TypeDesc} {u : Value} (hk : MapKept.IsKey d u) : Instr.sameBits 10000 u u = true := by
 have : (10000 : Nat) = 9999 + 1 := rfl
 rw [this]
 cases d <;> cases u <;> simp [MapKept.IsKey] at hk <;> simp [Instr.sameBits]
 exact (MapKept.bytes_beq _ _).2 rfl
theorem run_mapSetX0 {t : TypeId} {m k v : SV} {nx nx' : Nat} {r : SV} {ups : List (Nat × Option Chunk)} {rs : List Nat} (hr : HRel P ω w Im θ h) (hm : mrun h (mapSetX0 P t m k v nx) = some (r, ups, nx', rs)) {um uk uv : Value} (h1 : VRel P ω w Im θ m um) (h2 : VRel P ω w Im θ k uk) (h3 : VRel P ω w Im θ v uv) :
  ∃ w', (Instr.mapUpdate t um uk uv).run P w = .ok () w' ∧ r = .junk ∧ nx' = nx ∧ Ext (fun _ => False) h w Im θ (updF ups h) w' Im θ ∧ HRel P ω w' Im θ (updF ups h) := by
 unfold mapSetX0 at hm
 split at hm
 case h_2 => simp [mrun] at hm
 rename_i kt et y hu
 have hb0 := bif_fail hm; clear hm; obtain ⟨hkt, hm⟩ := hb0
 obtain ⟨d, hd, hkey⟩ := keyT_is hkt h2
 have hb0 := get_run hm; clear hm; obtain ⟨c, rs', hy, hm, rfl⟩ := hb0
 cases c with
 | mpc ks vs =>
  have hb0 := bif_fail hm; clear hm; obtain ⟨hlen0, hm⟩ := hb0
  have hlen : ks.length = vs.length := Nat.eq_of_beq_eq_true hlen0
  cases h1 with
  | mp hθ =>
   rename_i b N
   obtain ⟨b', N', es, cl, g1, g2, g3, g4, g5⟩ := hr.at_ y _ hy
   rw [hθ] at g1
   simp only [Option.some.injEq, Prod.mk.injEq] at g1
   obtain ⟨rfl, rfl⟩ := g1
   have hck := MapKept.run_checkKey (P := P) (w := w) hd hkey false 9999
   have hel : es.toList.length = vs.length := by have := g4.len; simp at this ⊢; omega
   rcases findM_run ks 0 hm with ⟨j, x, f1, f2, f3, hm2⟩ | ⟨f1, hm2⟩
   · obtain ⟨rfl, rfl, rfl, _⟩ := mrun_done hm2
     obtain ⟨e, e1, e2, e3⟩ := findNow_hit h2 hkey es.toList ks 0 j x g3 f1 f2 f3
     have hfk := MapKept.run_findKey (P := P) (w := w) hd e3
     have hj : j < es.size := by
      rcases Nat.lt_or_ge j es.size with h5 | h5
      · exact h5
      · simp [Array.getElem?_eq_none h5] at e1
     have hej : es[j]? = some e := by simpa using e1
     have hsame : (Instr.keyThatStays (((es[j]?).map (·.key)).getD uk) uk).run P w = .ok uk w := by
      simp [hej, e2, Instr.keyThatStays, sameBits_key hkey]
     refine ⟨w.putObj b (.map (es.modify j fun e => { e with key := uk, val := uv }) cl), ?_, rfl, rfl, ?_⟩
     · have hset := MapKept.run_setObj_map (P := P) (.map (es.modify j fun e => { e with key := uk, val := uv }) cl) g2
       simp only [Nat.zero_add] at hfk
       have hck' : (Instr.checkKey false 10000 kt uk).run P w = .ok () w := hck
       simp [Instr.mapUpdate, run_underlying hu, MapKept.run_getObj_map g2, hck', hfk, hsame, hset, World.putObj]
     · refine put_block hr hy hθ _ _ (fun hI d hd => ?_)
       cases hd
       have hmod : (es.modify j fun e => { e with key := uk, val := uv }).toList = es.toList.set j { e with key := uk, val := uv } := by
        apply List.ext_getElem?
        intro i
        simp only [Array.getElem?_toList, Array.getElem?_modify, List.getElem?_set]
        by_cases hij : j = i
        · subst hij
          have hje : es[j] = e := (Array.getElem?_eq_some_iff.1 hej).2
          simp [hj, hje]
        · simp [hij]
       refine ⟨b, N, _, cl, hθ, World.putObj_heap_same (heap_lt g2), ?_, ?_, ?_⟩
       · rw [hmod, List.map_set]
         have : (es.toList.map (·.key)).set j uk = es.toList.map (·.key) := by
          apply List.ext_getElem?
          intro i
          rw [List.getElem?_set]
          by_cases hij : j = i
          · subst hij
            have hjl : j < (es.toList.map (·.key)).length := by simpa using hj
            rw [if_pos rfl, if_pos hjl]
            simp [hej, e2]
          · rw [if_neg hij]
         simp only [this]
         exact g3.mono hI (fun _ _ h => h)
       · rw [hmod, List.map_set]
         rw [Nat.zero_add, setN_eq]
         refine ⟨by simpa using g4.len, fun i v' u' hv hu' => ?_⟩
         rw [List.getElem?_set] at hv hu'
         by_cases hij : j = i
         · subst hij
           have h6 : j < vs.length := by have : j < es.toList.length := by simpa using hj
                                         omega
           have h7 : j < (es.toList.map (·.val)).length := by simpa using hj
           rw [if_pos rfl, if_pos h6, Option.some.injEq] at hv
           rw [if_pos rfl, if_pos h7, Option.some.injEq] at hu'
           subst hv; subst hu'
           exact h3.mono hI (fun _ _ h => h)
         · rw [if_neg hij] at hv hu'
           exact (g4.at_ i v' u' hv hu').mono hI (fun _ _ h => h)
       · intro x hx
         rw [hmod] at hx
         rcases List.mem_or_eq_of_mem_set hx with hx | rfl
         · exact g5 x hx
         · exact g5 e (List.mem_of_getElem? e1)
   · obtain ⟨rfl, rfl, rfl, _⟩ := mrun_done hm2
     have hfk := MapKept.run_findKey (P := P) (w := w) hd (findNow_miss h2 hkey es.toList ks 0 g3 f1)
     refine ⟨w.putObj b (.map (es.push { key := uk, val := uv, born := cl }) (cl + 1)), ?_, rfl, rfl, ?_⟩
     · have hset := MapKept.run_setObj_map (P := P) (.map (es.push { key := uk, val := uv, born := cl }) (cl + 1)) g2
       have hck' : (Instr.checkKey false 10000 kt uk).run P w = .ok () w := hck
       simp [Instr.mapUpdate, run_underlying hu, MapKept.run_getObj_map g2, hck', hfk, hset, World.putObj]
     · refine put_block hr hy hθ _ _ (fun hI d hd => ?_)
       cases hd
       have one : ∀ {v : SV} {u : Value}, VRel P ω w Im θ v u → LRel P ω w Im θ [v] [u] := fun hv => ⟨rfl, fun i v u h1 h2 => by
        cases i with
        | zero => simp at h1 h2; subst h1; subst h2; exact hv
        | succ i => simp at h1⟩
       refine ⟨b, N, _, cl + 1, hθ, World.putObj_heap_same (heap_lt g2), ?_, ?_, ?_⟩
       · simp only [Array.toList_push, List.map_append, List.map_cons, List.map_nil]
         exact (g3.append (one h2)).mono hI (fun _ _ h => h)
       · simp only [Array.toList_push, List.map_append, List.map_cons, List.map_nil]
         exact (g4.append (one h3)).mono hI (fun _ _ h => h)
       · intro x hx
         simp only [Array.toList_push, List.mem_append, List.mem_singleton] at hx
         rcases hx with hx | rfl
         · have := g5 x hx; omega
         · simp
 | cells => simp [mrun] at hm
 | loopr => simp [mrun] at hm
 | seq => simp [mrun] at hm
 | mpb => simp [mrun] at hm
 | mpn => simp [mrun] at hm
 | mit => simp [mrun] at hm
 | sqo => simp [mrun] at hm
 | sqp => simp [mrun] at hm
 | ext => simp [mrun] at hm
theorem setN_app {α : Type} : ∀ (pre : List α) (x : α) (l : List α) (v : α), setN (pre ++ x :: l) pre.length v = pre ++ v :: l
 | [], _, _, _ => rfl
 | p :: pre, x, l, v => by simp [setN, setN_app pre x l v]
theorem findM_set {kd : IntKind} {a : Int} {b : Bool} {y nx : Nat} : ∀ (kvs : List (Int × Bool)) (pk pv : List SV), pk.length = pv.length →
  mrun h (findM (.int kd a) (fun i => .done .junk [(y, some (.mpc (pk ++ keysB kd kvs) (setN (pv ++ valsB kvs) i (.bool b))))] nx) (.done .junk [(y, some (.mpc ((pk ++ keysB kd kvs) ++ [.int kd a]) ((pv ++ valsB kvs) ++ [.bool b])))] nx) (keysB kd kvs) pk.length) =
   some (.junk, [(y, some (.mpc (pk ++ keysB kd (setB a b kvs)) (pv ++ valsB (setB a b kvs))))], nx, [])
 | [], pk, pv, hl => by simp [keysB, valsB, findM, mrun, setB]
 | (c, d) :: kvs, pk, pv, hl => by
  have ih := findM_set (kd := kd) (a := a) (b := b) (y := y) (nx := nx) kvs (pk ++ [.int kd c]) (pv ++ [.bool d]) (by simp [hl])
  have hik : ikEq kd kd = true := by cases kd <;> rfl
  have e1 : keysB kd ((c, d) :: kvs) = .int kd c :: keysB kd kvs := rfl
  have e2 : valsB ((c, d) :: kvs) = .bool d :: valsB kvs := rfl
  rw [e1, e2]
  simp only [findM, keyEq, hik, cond_true, mrun]
  cases hac : a == c with
  | true =>
   have : setB a b ((c, d) :: kvs) = (c, b) :: kvs := by simp [setB, hac]
   rw [this]
   simp only [if_true, hl, setN_app]
   rfl
  | false =>
   have : setB a b ((c, d) :: kvs) = (c, d) :: setB a b kvs := by simp [setB, hac]
   rw [this]
   simp only [Bool.false_eq_true, if_false]
   simp only [List.append_assoc, List.cons_append, List.nil_append, List.length_append, List.length_cons, List.length_nil, Nat.zero_add] at ih
   simp only [List.append_assoc]
   exact ih
theorem find_has {kd : IntKind} {a : Int} {kvs : List (Int × Bool)} : (hasB kvs a = false ∧ lookB kvs a = false ∧ ∀ x ∈ keysB kd kvs, keyEq (.int kd a) x = some false) ∨
  ∃ (j : Nat) (x : SV), hasB kvs a = true ∧ (keysB kd kvs)[j]? = some x ∧ keyEq (.int kd a) x = some true ∧ (∀ (j' : Nat) (x' : SV), j' < j → (keysB kd kvs)[j']? = some x' → keyEq (.int kd a) x' = some false) ∧ (valsB kvs)[j]? = some (SV.bool (lookB kvs a)) := by
 have hik : ikEq kd kd = true := by cases kd <;> rfl
 induction kvs with
 | nil => exact .inl ⟨rfl, rfl, fun x hx => by simp [keysB] at hx⟩
 | cons p kvs ih =>
  obtain ⟨c, d⟩ := p
  have e1 : keysB kd ((c, d) :: kvs) = .int kd c :: keysB kd kvs := rfl
  have e2 : valsB ((c, d) :: kvs) = .bool d :: valsB kvs := rfl
  rw [e1, e2]
  cases hac : a == c with
  | true => exact .inr ⟨0, _, by simp [hasB, hac], rfl, by simp [keyEq, hik, hac], fun j' x' hj => by omega, by simp [lookB, hac]⟩
  | false =>
   have hl : lookB ((c, d) :: kvs) a = lookB kvs a := by simp [lookB, hac]
   have hh : hasB ((c, d) :: kvs) a = hasB kvs a := by simp [hasB, hac]
   rw [hl, hh]
   rcases ih with ⟨h1, h2, h3⟩ | ⟨j, x, h1, h2, h3, h4, h5⟩
   · refine .inl ⟨h1, h2, fun x hx => ?_⟩
     rcases List.mem_cons.1 hx with rfl | hx
     · simp [keyEq, hik, hac]
     · exact h3 x hx
   · refine .inr ⟨j + 1, x, h1, by simpa using h2, h3, fun j' x' hj hx => ?_, by simpa using h5⟩
     cases j' with
     | zero => simp at hx; subst hx; simp [keyEq, hik, hac]
     | succ j' => exact h4 j' x' (by omega) (by simpa using hx)
theorem mpb_out {y : Nat} {kd : IntKind} {kvs : List (Int × Bool)} (hr : HRel P ω w Im θ h) (hy : h y = some (.mpb kd kvs)) : HRel P ω w Im θ (fun x => if x = y then some (.mpc (keysB kd kvs) (valsB kvs)) else h x) := by
 have hs : ∀ x c, (if x = y then some (.mpc (keysB kd kvs) (valsB kvs)) else h x) = some c → ∃ c0, h x = some c0 ∧ (CRel P ω w Im θ x c0 → CRel P ω w Im θ x c) := by
  intro x c hx
  by_cases e : x = y
  · subst e; rw [if_pos rfl] at hx; cases hx; exact ⟨_, hy, fun hc => hc⟩
  · rw [if_neg e] at hx; exact ⟨c, hx, fun hc => hc⟩
 refine ⟨fun x c hx => ?_, fun x z c c' b N N' hx hz h1 h2 => ?_, fun x c b N hx hb => ?_, hr.im, hr.gl⟩
 · obtain ⟨c0, h1, h2⟩ := hs x c hx
   exact h2 (hr.at_ x c0 h1)
 · obtain ⟨c0, h3, _⟩ := hs x c hx
   obtain ⟨c1, h4, _⟩ := hs z c' hz
   exact hr.inj x z c0 c1 b N N' h3 h4 h1 h2
 · obtain ⟨c0, h3, _⟩ := hs x c hx
   exact hr.own x c0 b N h3 hb
theorem run_mapSetX {t : TypeId} {m k v : SV} {nx nx' : Nat} {r : SV} {ups : List (Nat × Option Chunk)} {rs : List Nat} (hr : HRel P ω w Im θ h) (hm : mrun h (mapSetX P t m k v nx) = some (r, ups, nx', rs)) {um uk uv : Value} (h1 : VRel P ω w Im θ m um) (h2 : VRel P ω w Im θ k uk) (h3 : VRel P ω w Im θ v uv) :
  ∃ w', (Instr.mapUpdate t um uk uv).run P w = .ok () w' ∧ r = .junk ∧ nx' = nx ∧ Ext (fun _ => False) h w Im θ (updF ups h) w' Im θ ∧ HRel P ω w' Im θ (updF ups h) := by
 unfold mapSetX at hm
 split at hm
 case h_2 => simp [mrun] at hm
 rename_i kt et y hu
 have hb0 := bif_fail hm; clear hm; obtain ⟨hkt, hm⟩ := hb0
 obtain ⟨d, hd, hkey⟩ := keyT_is hkt h2
 have hb0 := get_run hm; clear hm; obtain ⟨c, rs', hy, hm, rfl⟩ := hb0
 have base : mrun h (mapSetX0 P t (.mp y) k v nx) = some (r, ups, nx', y :: rs') → ∃ w', (Instr.mapUpdate t um uk uv).run P w = .ok () w' ∧ r = .junk ∧ nx' = nx ∧ Ext (fun _ => False) h w Im θ (updF ups h) w' Im θ ∧ HRel P ω w' Im θ (updF ups h) :=
  fun hb => run_mapSetX0 hr hb h1 h2 h3
 cases c with
 | mpc ks vs =>
  refine base ?_
  unfold mapSetX0
  simp only [hu, hkt, cond_true, mrun, hy, hm]
 | mpb kd kvs =>
  simp only [] at hm
  split at hm
  case h_2 => simp [mrun] at hm
  rename_i kd' a b
  have hb0 := bif_fail hm; clear hm; obtain ⟨hik, hm⟩ := hb0
  have : kd' = kd := by cases kd' <;> cases kd <;> first | rfl | (simp [ikEq] at hik)
  subst this
  obtain ⟨rfl, rfl, rfl, _⟩ := mrun_done hm
  have h0 := run_mapSetX0 (h := fun x => if x = y then some (.mpc (keysB kd' kvs) (valsB kvs)) else h x) (t := t) (m := .mp y) (k := .int kd' a) (v := .bool b) (nx := nx) (nx' := nx) (r := .junk) (ups := [(y, some (.mpc (keysB kd' (setB a b kvs)) (valsB (setB a b kvs))))]) (rs := [y]) (um := um) (uk := uk) (uv := uv) (mpb_out hr hy) (by
   have hf := findM_set (h := fun x => if x = y then some (.mpc (keysB kd' kvs) (valsB kvs)) else h x) (kd := kd') (a := a) (b := b) (y := y) (nx := nx) kvs [] [] rfl
   simp only [List.nil_append, List.length_nil] at hf
   have hl : Nat.beq (keysB kd' kvs).length (valsB kvs).length = true := by simp [keysB, valsB]
   unfold mapSetX0
   simp only [hu, hkt, cond_true, mrun, if_true, hl, hf]) h1 h2 h3
  obtain ⟨w', g1, g2, g3, g4, g5⟩ := h0
  have hup : ∀ x c, updF [(y, some (.mpb kd' (setB a b kvs)))] h x = some c → ∃ c0, updF [(y, some (.mpc (keysB kd' (setB a b kvs)) (valsB (setB a b kvs))))] (fun x => if x = y then some (.mpc (keysB kd' kvs) (valsB kvs)) else h x) x = some c0 ∧ (CRel P ω w' Im θ x c0 → CRel P ω w' Im θ x c) := by
   intro x c hx
   simp only [updF] at hx ⊢
   by_cases e : x = y
   · subst e; rw [if_pos rfl] at hx ⊢; cases hx; exact ⟨_, rfl, fun hc => hc⟩
   · rw [if_neg e] at hx ⊢; rw [if_neg e]; exact ⟨c, hx, fun hc => hc⟩
  refine ⟨w', g1, rfl, rfl, ?_, ?_⟩
  · have hdom : ∀ x c, (fun x => if x = y then some (Chunk.mpc (keysB kd' kvs) (valsB kvs)) else h x) x = some c → ∃ c', h x = some c' := by
      intro x c hx
      by_cases e : x = y
      · subst e; exact ⟨_, hy⟩
      · simp only [if_neg e] at hx; exact ⟨c, hx⟩
    refine { thOld := g4.thOld, thUp := g4.thUp, imUp := g4.imUp, size := g4.size, os := g4.os, output := g4.output, tape := g4.tape, drawn := g4.drawn, keep := fun b' hb hno => ?_, imNew := fun b' hb => .inl hb, ownNew := fun x c b' N hx hθ => ?_ }
    · refine g4.keep b' hb (fun x c N hx hθ => ?_)
      obtain ⟨c', hc'⟩ := hdom x c hx
      exact hno x c' N hc' hθ
    · obtain ⟨c0, h4, _⟩ := hup x c hx
      rcases g4.ownNew x c0 b' N h4 hθ with ⟨z, c', N', h5, h6⟩ | h5
      · obtain ⟨c2, hc2⟩ := hdom z c' h5
        exact .inl ⟨z, c2, N', hc2, h6⟩
      · exact .inr h5
  · refine ⟨fun x c hx => ?_, fun x z c c' b' N N' hx hz h4 h5 => ?_, fun x c b' N hx hb => ?_, g5.im, g5.gl⟩
    · obtain ⟨c0, h4, h5⟩ := hup x c hx
      exact h5 (g5.at_ x c0 h4)
    · obtain ⟨c0, h6, _⟩ := hup x c hx
      obtain ⟨c1, h7, _⟩ := hup z c' hz
      exact g5.inj x z c0 c1 b' N N' h6 h7 h4 h5
    · obtain ⟨c0, h6, _⟩ := hup x c hx
      exact g5.own x c0 b' N h6 hb
 | mpn => simp [mrun] at hm
 | mit => simp [mrun] at hm
 | sqo => simp [mrun] at hm
 | sqp => simp [mrun] at hm
 | ext => simp [mrun] at hm
 | cells => simp [mrun] at hm
 | loopr => simp [mrun] at hm
 | seq => simp [mrun] at hm
theorem run_lookupX {t : TypeId} {m k : SV} {ok : Bool} {nx nx' : Nat} {r : SV} {ups : List (Nat × Option Chunk)} {rs : List Nat} (hr : HRel P ω w Im θ h) (hm : mrun h (lookupX P t m k ok nx) = some (r, ups, nx', rs)) {um uk : Value} (h1 : VRel P ω w Im θ m um) (h2 : VRel P ω w Im θ k uk) :
  ∃ v, (Instr.lookup t um uk ok).run P w = .ok v w ∧ VRel P ω w Im θ r v ∧ ups = [] ∧ nx' = nx := by
 have pair : ∀ {v : SV} {u : Value} (b : Bool), VRel P ω w Im θ v u → VRel P ω w Im θ (bif ok then .tup [v, .bool b] else v) (if ok = true then .tuple #[u, .bool b] else u) := by
  intro v u b hv
  cases ok with
  | false => simpa using hv
  | true =>
   refine .tup rfl (fun i x y hx hy => ?_)
   match i, hx, hy with
   | 0, hx, hy => cases hx; cases hy; exact hv
   | 1, hx, hy => cases hx; cases hy; exact .bool
 have hzero : ∀ {et : TypeId} {z : SV}, zeroS P et = some z → ∃ uz, (zeroValue et).run P w = .ok uz w ∧ VRel P ω w Im θ z uz := by
  intro et z hz
  unfold zeroS at hz
  cases hi : P.info? et with
  | none => simp [hi] at hz
  | some i =>
   simp only [hi] at hz
   cases hzz : i.zero with
   | none => simp [hzz] at hz
   | some zv =>
    simp only [hzz, Option.some.injEq] at hz
    subst hz
    exact ⟨zv, by simp [zeroValue, typeInfo, hi, hzz], ofValue_rel (ω := ω) w Im θ zv⟩
 unfold lookupX at hm
 split at hm
 · rename_i kt et y hu
   have hb0 := bif_fail hm; clear hm; obtain ⟨hkt, hm⟩ := hb0
   obtain ⟨d, hd, hkey⟩ := keyT_is hkt h2
   split at hm
   case h_2 => simp [mrun] at hm
   rename_i z hz
   obtain ⟨uz, hz1, hz2⟩ := hzero hz
   have hb0 := get_run hm; clear hm; obtain ⟨c, rs', hy, hm, rfl⟩ := hb0
   cases c with
   | mpc ks vs =>
    cases h1 with
    | mp hθ =>
     rename_i b N
     obtain ⟨b', N', es, cl, g1, g2, g3, g4, g5⟩ := hr.at_ y _ hy
     rw [hθ] at g1
     simp only [Option.some.injEq, Prod.mk.injEq] at g1
     obtain ⟨rfl, rfl⟩ := g1
     have hck : (Instr.checkKey es.isEmpty 10000 kt uk).run P w = .ok () w := MapKept.run_checkKey (P := P) (w := w) hd hkey es.isEmpty 9999
     rcases findM_run ks 0 hm with ⟨j, x, f1, f2, f3, hm2⟩ | ⟨f1, hm2⟩
     · obtain ⟨e, e1, e2, e3⟩ := findNow_hit h2 hkey es.toList ks 0 j x g3 f1 f2 f3
       have hfk := MapKept.run_findKey (P := P) (w := w) hd e3
       simp only [nth?_eq, Nat.zero_add] at hm2
       split at hm2
       case h_2 => simp [mrun] at hm2
       rename_i v hv
       obtain ⟨rfl, rfl, rfl, _⟩ := mrun_done hm2
       have hval := g4.at_ j v e.val hv (by simp [e1])
       refine ⟨_, ?_, pair true hval, rfl, rfl⟩
       simp [Instr.lookup, run_underlying hu, MapKept.run_getObj_map g2, hck, hfk]
     · obtain ⟨rfl, rfl, rfl, _⟩ := mrun_done hm2
       have hfk := MapKept.run_findKey (P := P) (w := w) hd (findNow_miss h2 hkey es.toList ks 0 g3 f1)
       refine ⟨_, ?_, pair false hz2, rfl, rfl⟩
       simp [Instr.lookup, run_underlying hu, MapKept.run_getObj_map g2, hck, hfk, hz1]
   | mpn => simp [mrun] at hm
   | mit => simp [mrun] at hm
   | sqo => simp [mrun] at hm
   | sqp => simp [mrun] at hm
   | ext => simp [mrun] at hm
   | cells => simp [mrun] at hm
   | loopr => simp [mrun] at hm
   | seq => simp [mrun] at hm
   | mpb kd kvs =>
    cases h1 with
    | mp hθ =>
     rename_i b N
     simp only [] at hm
     split at hm
     case h_2 => simp [mrun] at hm
     rename_i kd' a
     have hb0 := bif_fail hm; clear hm; obtain ⟨hik, hm⟩ := hb0
     have : kd' = kd := by cases kd' <;> cases kd <;> first | rfl | (simp [ikEq] at hik)
     subst this
     obtain ⟨rfl, rfl, rfl, _⟩ := mrun_done hm
     obtain ⟨b', N', es, cl, g1, g2, g3, g4, g5⟩ := hr.at_ y _ hy
     rw [hθ] at g1
     simp only [Option.some.injEq, Prod.mk.injEq] at g1
     obtain ⟨rfl, rfl⟩ := g1
     have hck : (Instr.checkKey es.isEmpty 10000 kt uk).run P w = .ok () w := MapKept.run_checkKey (P := P) (w := w) hd hkey es.isEmpty 9999
     rcases find_has (kd := kd') (a := a) (kvs := kvs) with ⟨f0, f1, f2⟩ | ⟨j, x, f0, f1, f2, f3, f4⟩
     · have hfk := MapKept.run_findKey (P := P) (w := w) hd (findNow_miss h2 hkey es.toList (keysB kd' kvs) 0 g3 f2)
       rw [f0, f1]
       refine ⟨_, ?_, pair false hz2, rfl, rfl⟩
       simp [Instr.lookup, run_underlying hu, MapKept.run_getObj_map g2, hck, hfk, hz1]
     · obtain ⟨e, e1, e2, e3⟩ := findNow_hit h2 hkey es.toList (keysB kd' kvs) 0 j x g3 f1 f2 f3
       have hfk := MapKept.run_findKey (P := P) (w := w) hd e3
       have hval := g4.at_ j (.bool (lookB kvs a)) e.val f4 (by simp [e1])
       rw [f0]
       refine ⟨_, ?_, pair true hval, rfl, rfl⟩
       simp only [Nat.zero_add] at hfk
       simp [Instr.lookup, run_underlying hu, MapKept.run_getObj_map g2, hck, hfk]
 · rename_i kt et hu
   have hb0 := bif_fail hm; clear hm; obtain ⟨hkt, hm⟩ := hb0
   obtain ⟨d, hd, hkey⟩ := keyT_is hkt h2
   split at hm
   case h_2 => simp [mrun] at hm
   rename_i z hz
   obtain ⟨uz, hz1, hz2⟩ := hzero hz
   obtain ⟨rfl, rfl, rfl, rfl⟩ := mrun_done hm
   cases h1
   have hck : ∀ b, (Instr.checkKey b 10000 kt uk).run P w = .ok () w := fun b => MapKept.run_checkKey (P := P) (w := w) hd hkey b 9999
   have hfk := MapKept.run_findKey (P := P) (w := w) (k := uk) (l := []) (a := none) hd rfl
   refine ⟨_, ?_, pair false hz2, rfl, rfl⟩
   simp [Instr.lookup, run_underlying hu, hck, hfk, hz1]
 · simp [mrun] at hm
end
end Go.Am
/- The abstract machine: the further operations, each of them. -/
namespace Go.Am
variable {P : Program} {ω : Nat → Value}
section
variable {w : World} {Im : Nat → Prop} {θ : Th} {h : HpF}
theorem new_step {w' : World} (hr : HRel P ω w Im θ h) {nx : Nat} (hθ : θ nx = none) (hnx : h nx = none) {N : Nat} (hsz : w'.heap.size = w.heap.size + 1) (hold : ∀ d, d < w.heap.size → w'.heap[d]? = w.heap[d]?)
  (hos : w'.os = w.os) (hou : w'.output = w.output) (hta : w'.tape = w.tape) (hdr : w.drawn ≤ w'.drawn) (c : Chunk)
  (hc : ∀ θ' : Th, θ' nx = some (w.heap.size, N) → CRel P ω w' (frozenBy Im θ h []) θ' nx c) :
  ∃ θ' Im' , Ext (fun x => nx ≤ x ∧ x < nx + 1) h w Im θ (updF [(nx, some c)] h) w' Im' θ' ∧ HRel P ω w' Im' θ' (updF [(nx, some c)] h) ∧ θ' nx = some (w.heap.size, N) := by
 obtain ⟨θ', h1, h2, h3⟩ := name_step hr hθ hnx (ds := []) (ys := []) (fun y hy => by cases hy) (w' := w') (b := w.heap.size) (N := N) (.inl ⟨Nat.le_refl _, by omega⟩) (by omega) (fun d _ hd => hold d hd) hos hou hta hdr c (fun θ' a _ _ => hc θ' a)
 exact ⟨θ', _, by simpa [drops] using h1, by simpa [drops] using h2, h3⟩
theorem fr_cells {y : Nat} {T : TypeId} {cs : List SV} (hr : HRel P ω w Im θ h) (hy : h y = some (.cells T cs)) : ∃ b, θ y = some (b, cs.length) ∧ w.shape? b = some (T, cs.length) := by
 obtain ⟨b, ca, fr, g1, g2, g3, g4⟩ := hr.at_ y _ hy
 refine ⟨b, g1, ?_⟩
 have := g4.len
 simp only [Array.length_toList] at this
 simp [World.shape?, g2, this]
theorem run_convU {s d : TypeId} {x : SV} {nx nx' : Nat} {r : SV} {ups : List (Nat × Option Chunk)} {rs : List Nat} (hr : HRel P ω w Im θ h) (hm : mrun h (convU P s d x nx) = some (r, ups, nx', rs)) {u : Value} (hx : VRel P ω w Im θ x u) :
  (convert s d u).run P w = .ok u w ∧ VRel P ω w Im θ r u ∧ ups = [] ∧ nx' = nx := by
 unfold convU at hm
 split at hm
 · rename_i t y o h1 h2
   cases hb : Nat.beq (P.cellsOf t) 0 with
   | true => rw [hb] at hm; simp [mrun] at hm
   | false =>
    rw [hb] at hm
    simp only [cond_false] at hm
    have hne : P.cellsOf t ≠ 0 := by intro e; rw [e] at hb; cases hb
    obtain ⟨i, hi⟩ := info_of_cells hne
    have hsz : i.size ≠ 0 := by simpa [Program.cellsOf, hi] using hne
    have hb0 := get_run hm; clear hm; obtain ⟨c, rs', hy, hm, rfl⟩ := hb0
    cases c <;> try (simp [mrun] at hm; done)
    rename_i T cs
    have hb0 := bif_fail hm; clear hm; obtain ⟨hlt, hm⟩ := hb0
    obtain ⟨rfl, rfl, rfl, -⟩ := mrun_done hm
    obtain ⟨b, g1, g2⟩ := fr_cells hr hy
    cases hx with
    | ptr hθ =>
     rw [g1] at hθ
     simp only [Option.some.injEq, Prod.mk.injEq] at hθ
     obtain ⟨rfl, rfl⟩ := hθ
     exact ⟨Lib.run_to_unsafe w _ h1 h2 hi hsz g2 (by rw [Nat.blt_eq] at hlt; exact hlt), .ptr g1, rfl, rfl⟩
 · rename_i t y o h1 h2
   have hb0 := get_run hm; clear hm; obtain ⟨c, rs', hy, hm, rfl⟩ := hb0
   cases c <;> try (simp [mrun] at hm; done)
   rename_i T cs
   have hb0 := bif_fail hm; clear hm; obtain ⟨hk, hm⟩ := hb0
   simp only [Bool.and_eq_true] at hk
   obtain ⟨i, hi⟩ := known_info hk.1
   obtain ⟨rfl, rfl, rfl, -⟩ := mrun_done hm
   obtain ⟨b, g1, g2⟩ := fr_cells hr hy
   cases hx with
   | ptr hθ =>
    rw [g1] at hθ
    simp only [Option.some.injEq, Prod.mk.injEq] at hθ
    obtain ⟨rfl, rfl⟩ := hθ
    exact ⟨Lib.run_from_unsafe w _ h1 h2 hi g2 hk.2, .ptr g1, rfl, rfl⟩
 · simp [mrun] at hm
theorem run_makeStrX {t : TypeId} {l c : SV} {nx nx' : Nat} {r : SV} {ups : List (Nat × Option Chunk)} {rs : List Nat} (hr : HRel P ω w Im θ h) (hfr : ∀ x, nx ≤ x → x < nx' → θ x = none ∧ h x = none) (hm : mrun h (makeStrX P t l c nx) = some (r, ups, nx', rs)) {ul uc : Value} (hl : VRel P ω w Im θ l ul) (hc : VRel P ω w Im θ c uc) :
  ∃ v w' θ' Im', (Instr.makeSlice t ul uc).run P w = .ok v w' ∧ Ext (fun x => nx ≤ x ∧ x < nx') h w Im θ (updF ups h) w' Im' θ' ∧ VRel P ω w' Im' θ' r v ∧ HRel P ω w' Im' θ' (updF ups h) := by
 unfold makeStrX at hm
 split at hm
 case h_2 => simp [mrun] at hm
 rename_i e kl a kc b hu
 cases hl
 cases hc
 split at hm
 case h_2 => simp [mrun] at hm
 rename_i i hue hi hz
 have hb0 := bif_fail hm; clear hm; obtain ⟨hk, hm⟩ := hb0
 have h1c : P.cellsOf e = 1 := Nat.eq_of_beq_eq_true hk
 have hb0 := mrun_ite_fail' hm; clear hm; obtain ⟨hd, hm⟩ := hb0
 simp only [Bool.and_eq_true, decide_eq_true_eq] at hd
 obtain ⟨⟨⟨d1, d2⟩, d3⟩, d5⟩ := hd
 subst d2
 obtain ⟨rfl, rfl, rfl, rfl⟩ := mrun_done hm
 unfold zeroS at hz
 simp only [hi] at hz
 cases hzi : i.zero with
 | none => simp [hzi] at hz
 | some zv =>
  simp only [hzi, Option.some.injEq] at hz
  have hrz := ofValue_rel (P := P) (ω := ω) w Im θ zv
  rw [hz] at hrz
  cases hrz with
  | str hs =>
   rename_i bs
   have hsize : i.size = 1 := by have : P.cellsOf e = i.size := by unfold Program.cellsOf; rw [hi]; rfl
                                 omega
   have hrun := run_makeSlice (w := w) t e i (.string bs) hu hi hzi kl kc a a d1 (Int.le_refl _) (by rw [hsize]; omega) d5 (by omega)
   generalize hcells : madeCells (Value.string bs).cells (a.toNat * i.size) = cells at hrun
   have hcsz : cells.size = a.toNat := by rw [← hcells]; simp [hsize, madeCells]
   obtain ⟨f1, f2⟩ := hfr nx (Nat.le_refl _) (Nat.lt_succ_self _)
   have hagg : isAggT P e = false := by simp [isAggT, hue]
   obtain ⟨θ', Im', g1, g2, g3⟩ := new_step hr f1 f2 (w' := w.alloc (.cells cells e)) (N := cells.size) (by simp) (fun d hd => alloc_old w _ d hd) rfl rfl rfl (by first | exact Nat.le_refl _ | exact Nat.le_succ _) (.seq e (List.replicate a.toNat (.str []))) (fun θ' ha => by
    refine .inr ⟨_, _, cells, e, (0, 0), fun _ => .string bs, ha, alloc_new w _, fun i _ hh => by omega, ⟨rfl, rfl⟩, by rw [h1c, List.length_replicate]; omega, fun v hv => ?_, fun j v hv => ?_⟩
    · rw [(List.mem_replicate.1 hv).2]
      unfold expand
      rw [hagg]
      simp only [cond_false, expandLeaf, hue, asS]
    · have hv' := List.mem_of_getElem? hv
      rw [(List.mem_replicate.1 hv').2]
      have hj : j < a.toNat := by
       rcases Nat.lt_or_ge j a.toNat with h5 | h5
       · exact h5
       · rw [List.getElem?_eq_none (by simpa using h5)] at hv; cases hv
      refine ⟨.str hs, by simp [Value.cells, h1c], fun d c hd => ?_⟩
      cases d with
      | succ d => simp [Value.cells] at hd
      | zero =>
       simp [Value.cells] at hd
       subst hd
       rw [h1c, ← hcells]
       simp [hsize, hj, Value.cells, madeCells, Nat.mod_one])
   refine ⟨_, _, θ', Im', hrun, g1, ?_, g2⟩
   have := VRel'.qs (P := P) (ω := ω) (w := w.alloc (.cells cells e)) (Im := Im') (θ := θ') (x := nx) (sz := 1) (l := 0) (n := a.toNat) (cap := a.toNat) g3 (by rw [hcsz]; simp) (Nat.le_refl _)
   simpa using this
theorem run_convX {s d : TypeId} {x : SV} {nx nx' : Nat} {r : SV} {ups : List (Nat × Option Chunk)} {rs : List Nat} (hr : HRel P ω w Im θ h) (hfr : ∀ x, nx ≤ x → x < nx' → θ x = none ∧ h x = none) (hm : mrun h (convX P s d x nx) = some (r, ups, nx', rs)) {u : Value} (hx : VRel P ω w Im θ x u) :
  ∃ v w' θ' Im', (convert s d u).run P w = .ok v w' ∧ Ext (fun x => nx ≤ x ∧ x < nx') h w Im θ (updF ups h) w' Im' θ' ∧ VRel P ω w' Im' θ' r v ∧ HRel P ω w' Im' θ' (updF ups h) := by
 unfold convX at hm
 split at hm
 · rename_i e h1 h2
   split at hm
   case h_2 => simp [mrun] at hm
   rename_i l hu
   have hb0 := bif_fail hm; clear hm; obtain ⟨hk, hm⟩ := hb0
   have h1c : P.cellsOf e = 1 := Nat.eq_of_beq_eq_true hk
   obtain ⟨rfl, rfl, rfl, rfl⟩ := mrun_done hm
   cases hx with
   | str hs =>
    rename_i bs
    have hrun := run_bytes_of_string (P := P) w s d e bs h1 h2 hu
    generalize hcells : bytesRow bs (grownCap w bs.size 0 e) = cells at hrun
    have hge := grownCap_ge w bs.size 0 e
    have hcs : cells.size = grownCap w bs.size 0 e := by
     rw [← hcells]
     have : bs.data.size = bs.size := rfl
     simp [bytesRow, this]
     omega
    have hls : l.length = bs.size := (bytes_size hs).symm
    obtain ⟨f1, f2⟩ := hfr nx (Nat.le_refl _) (Nat.lt_succ_self _)
    have hagg : isAggT P e = false := by simp [isAggT, hu]
    obtain ⟨θ', Im', g1, g2, g3⟩ := new_step hr f1 f2 (w' := w.drew.alloc (.cells cells e (cells.size, cells.size + 1))) (N := cells.size) (by simp) (fun d hd => alloc_old w.drew _ d hd) rfl rfl rfl (by first | exact Nat.le_refl _ | exact Nat.le_succ _) (.seq e (l.map byteSV)) (fun θ' a => by
     refine .inr ⟨_, _, cells, e, _, fun i => .int .u8 ((l.getD i 0).toNat), a, alloc_new w.drew _, fun i hi hh => by simp only at hh; omega, ⟨rfl, rfl⟩, by rw [h1c, List.length_map]; omega, fun v hv => ?_, fun i v hv => ?_⟩
     · obtain ⟨b, _, rfl⟩ := List.mem_map.1 hv
       unfold expand
       rw [hagg]
       simp only [cond_false, expandLeaf, hu, byteSV, asI]
     · simp only [List.getElem?_map, Option.map_eq_some_iff] at hv
       obtain ⟨b, hb, rfl⟩ := hv
       have e1 : l.getD i 0 = b := by simp [List.getD_eq_getElem?_getD, hb]
       simp only [e1]
       refine ⟨.int, by simp [Value.cells, h1c], fun d c hd => ?_⟩
       cases d with
       | succ d => simp [Value.cells] at hd
       | zero =>
        simp [Value.cells] at hd
        subst hd
        have hil : i < l.length := by
         rcases Nat.lt_or_ge i l.length with h5 | h5
         · exact h5
         · simp [List.getElem?_eq_none h5] at hb
        have hib : i < bs.data.size := by show i < bs.size; omega
        have hbd : bs.data[i] = b := by
         have : bs.data.toList[i]? = some b := by rw [hs]; exact hb
         rw [Array.getElem?_toList, Array.getElem?_eq_getElem hib] at this
         exact Option.some.inj this
        rw [h1c, ← hcells]
        simp only [bytesRow, Nat.mul_one, Nat.add_zero]
        rw [Array.getElem?_append_left (by simpa using hib)]
        simp only [Array.getElem?_map, Option.map_eq_some_iff]
        exact ⟨b, by rw [Array.getElem?_eq_getElem hib, hbd], rfl⟩)
    refine ⟨_, _, θ', Im', hrun, g1, ?_, g2⟩
    have := VRel'.qs (P := P) (ω := ω) (w := w.drew.alloc (.cells cells e (cells.size, cells.size + 1))) (Im := Im') (θ := θ') (x := nx) (sz := 1) (l := 0) (n := bs.size) (cap := grownCap w bs.size 0 e) g3 (by rw [hcs]; simp) hge
    rw [hls]
    simpa using this
 · rename_i e h1 h2
   split at hm
   case h_2 => simp [mrun] at hm
   rename_i hu
   have hb0 := bif_fail hm; clear hm; obtain ⟨hk, hm⟩ := hb0
   simp only [Bool.and_eq_true] at hk
   have h1c : P.cellsOf e = 1 := Nat.eq_of_beq_eq_true hk.1
   have hagg : isAggT P e = false := by simp [isAggT, hu]
   split at hm
   · simp [mrun] at hm
   rename_i hns
   obtain ⟨es, zs, rs', uf, g1, g2, g3⟩ := elemsM_run hr hk.2 hx hm
   cases zs with
   | cons z zs => simp [mrun] at g1
   | nil =>
    simp only [] at g1
    obtain ⟨rfl, rfl, rfl, _⟩ := mrun_done g1
    have hint : ∀ i, i < es.length → ∃ n, uf i = .int .u8 n ∧ byteOf (es.getD i .junk) = UInt8.ofNat n.toNat := by
     intro i hi
     have hget : es[i]? = some es[i] := by simp [hi]
     obtain ⟨q1, q2⟩ := g2.rel i es[i] hget
     have q3 := g2.fit es[i] (List.getElem_mem hi)
     unfold expand at q3
     rw [hagg] at q3
     simp only [cond_false, expandLeaf, hu] at q3
     have hgd : es.getD i .junk = es[i] := by simp [List.getD_eq_getElem?_getD, hget]
     rw [hgd, ← q3]
     rw [← q3] at q1
     generalize uf i = z at q1
     cases q1
     exact ⟨_, rfl, rfl⟩
    have hflat : ∀ m, m ≤ es.length → ∃ ns : List Int, ns.length = m ∧ flat uf m = ns.map (Value.int .u8) ∧ ns.map (fun n => UInt8.ofNat n.toNat) = (es.map byteOf).take m := by
     intro m
     induction m with
     | zero => intro _; exact ⟨[], rfl, rfl, by simp⟩
     | succ m ih =>
      intro hm
      obtain ⟨ns, a1, a2, a3⟩ := ih (by omega)
      obtain ⟨n, b1, b2⟩ := hint m (by omega)
      have hml : m < (es.map byteOf).length := by simp; omega
      have hml' : m < es.length := by omega
      refine ⟨ns ++ [n], by simp [a1], by simp [flat, a2, b1, Value.cells], ?_⟩
      rw [List.map_append, a3, List.take_succ_eq_append_getElem hml]
      congr 1
      have hgd : es.getD m .junk = es[m] := by simp [List.getD_eq_getElem?_getD, hml']
      rw [hgd] at b2
      simp [b2]
    obtain ⟨ns, a1, a2, a3⟩ := hflat es.length (Nat.le_refl _)
    rw [← List.length_map (f := byteOf), List.take_length] at a3
    have hcells := g3.cells w rfl
    rw [a2] at hcells
    have hlen := g3.len w
    have hE : Ext (fun x => nx ≤ x ∧ x < nx) h w Im θ (updF [] h) w Im θ := Ext.refl _
    have fin : ∀ bs : ByteArray, bs.data.toList = es.map byteOf → (convert s d u).run P w = .ok (.string bs) w →
      ∃ v w' θ' Im', (convert s d u).run P w = .ok v w' ∧ Ext (fun x => nx ≤ x ∧ x < nx) h w Im θ (updF [] h) w' Im' θ' ∧ VRel P ω w' Im' θ' (.str (es.map byteOf)) v ∧ HRel P ω w' Im' θ' (updF [] h) :=
     fun bs hbs hrun => ⟨_, _, θ, Im, hrun, hE, .str hbs, hr⟩
    have sl : ∀ (p : Option Addr) (n cap : Nat), u = .slice p n cap → (convert s d u).run P w = .ok (.string (ns.foldl (fun r n => r.push (UInt8.ofNat n.toNat)) ByteArray.empty)) w := by
     intro p n cap hue
     subst hue
     rw [run_convert_bytes_string w s d e p n cap h1 hu h2]
     have hn : n = es.length := by simpa [Builtin.lenOf] using hlen
     subst hn
     cases p with
     | none =>
      simp only [Builtin.firstCells, Sem.run_pure, Result.ok.injEq, and_true] at hcells
      have : ns = [] := by
       have h9 := congrArg Array.size hcells
       simp at h9
       exact List.eq_nil_of_length_eq_zero (by omega)
      subst this
      simp [Conv.bytesToString]
     | some a =>
      simp only [Builtin.firstCells, h1c, Nat.mul_one] at hcells
      exact run_bytesToString w a _ cap ns hcells
    have hdata : (ns.foldl (fun r n => r.push (UInt8.ofNat n.toNat)) ByteArray.empty).data.toList = es.map byteOf := by
     rw [← a3]
     have key : ∀ (ns : List Int) (r : ByteArray), (ns.foldl (fun r n => r.push (UInt8.ofNat n.toNat)) r).data.toList = r.data.toList ++ ns.map (fun n => UInt8.ofNat n.toNat) := by
      intro ns
      induction ns with
      | nil => intro r; simp
      | cons n ns ih => intro r; rw [List.foldl_cons, ih]; simp [ByteArray.push]
     rw [key]
     rfl
    have hsl : ∃ p n cap, u = .slice p n cap := by
     cases hx <;> first
      | exact ⟨_, _, _, rfl⟩
      | (simp [elemsM, mrun] at hm; done)
      | (exact absurd rfl (hns _))
    obtain ⟨p, n, cap, hue⟩ := hsl
    exact fin _ hdata (sl p n cap hue)
 · obtain ⟨q1, q2, rfl, rfl⟩ := run_convU hr hm hx
   exact ⟨u, w, θ, Im, q1, Ext.refl _, q2, hr⟩
theorem run_lenX {t : TypeId} {x : SV} {nx nx' : Nat} {r : SV} {ups : List (Nat × Option Chunk)} {rs : List Nat} (hr : HRel P ω w Im θ h) (hm : mrun h (lenX P t x nx) = some (r, ups, nx', rs)) {tys : Array TypeId} {ty : TypeId} {us : Array Value} {u : Value} (h1 : tys[0]? = some t) (h2 : us[0]? = some u) (hx : VRel P ω w Im θ x u) :
  ∃ v, (Builtin.len_ tys ty us).run P w = .ok v w ∧ VRel P ω w Im θ r v ∧ ups = [] ∧ nx' = nx := by
 unfold lenX at hm
 split at hm
 · rename_i hu
   obtain ⟨rfl, rfl, rfl, rfl⟩ := mrun_done hm
   cases hx with
   | qs _ _ _ => exact ⟨_, by simp [Builtin.len_, h1, h2, run_underlying hu, goInt], .int, rfl, rfl⟩
   | qsnil h0 => subst h0; exact ⟨_, by simp [Builtin.len_, h1, h2, run_underlying hu, goInt], .int, rfl, rfl⟩
 · rename_i hu
   obtain ⟨rfl, rfl, rfl, rfl⟩ := mrun_done hm
   cases hx with
   | qo _ _ => exact ⟨_, by simp [Builtin.len_, h1, h2, run_underlying hu, goInt], .int, rfl, rfl⟩
   | qonil h0 => subst h0; exact ⟨_, by simp [Builtin.len_, h1, h2, run_underlying hu, goInt], .int, rfl, rfl⟩
 · rename_i hu
   obtain ⟨rfl, rfl, rfl, rfl⟩ := mrun_done hm
   cases hx
   exact ⟨_, by simp [Builtin.len_, h1, h2, run_underlying hu, goInt], .int, rfl, rfl⟩
 · rename_i hu
   obtain ⟨rfl, rfl, rfl, rfl⟩ := mrun_done hm
   cases hx with
   | pnn h =>
    cases h with
    | psl us' e1 e0 e2 e3 e4 => exact ⟨_, by simp [Builtin.len_, h1, h2, run_underlying hu, goInt, e1], .int, rfl, rfl⟩
 · rename_i y hu
   have hb0 := get_run hm; clear hm; obtain ⟨c, rs', hy, hm, rfl⟩ := hb0
   cases c with
   | mpc ks vs =>
    obtain ⟨rfl, rfl, rfl, rfl⟩ := mrun_done hm
    cases hx with
    | mp hθ =>
     obtain ⟨b', N', es, cl, g1, g2, g3, g4, g5⟩ := hr.at_ y _ hy
     rw [hθ] at g1
     simp only [Option.some.injEq, Prod.mk.injEq] at g1
     obtain ⟨rfl, rfl⟩ := g1
     have := g3.len
     simp at this
     exact ⟨_, by simp [Builtin.len_, h1, h2, run_underlying hu, goInt, MapKept.run_getObj_map g2, ← this], .int, rfl, rfl⟩
   | mpn bs cl ks vs =>
    obtain ⟨rfl, rfl, rfl, rfl⟩ := mrun_done hm
    cases hx with
    | mp hθ =>
     obtain ⟨b', N', es, g1, g2, g3, g4, g5⟩ := hr.at_ y _ hy
     rw [hθ] at g1
     simp only [Option.some.injEq, Prod.mk.injEq] at g1
     obtain ⟨rfl, rfl⟩ := g1
     have := g3.len
     simp at this
     exact ⟨_, by simp [Builtin.len_, h1, h2, run_underlying hu, goInt, MapKept.run_getObj_map g2, ← this], .int, rfl, rfl⟩
   | mit => simp [mrun] at hm
   | sqo => simp [mrun] at hm
   | sqp => simp [mrun] at hm
   | ext c =>
    cases c with
    | mpo kt et bs cl ks vs =>
     obtain ⟨rfl, rfl, rfl, rfl⟩ := mrun_done hm
     cases hx with
     | mp hθ =>
      obtain ⟨b', N', es, g1, g2, g3, g4, g5⟩ := hr.at_ y _ hy
      rw [hθ] at g1
      simp only [Option.some.injEq, Prod.mk.injEq] at g1
      obtain ⟨rfl, rfl⟩ := g1
      have := g3.len
      simp at this
      exact ⟨_, by simp [Builtin.len_, h1, h2, run_underlying hu, goInt, MapKept.run_getObj_map g2, ← this], .int, rfl, rfl⟩
    | mpu => simp [mrun] at hm
    | sqm => simp [mrun] at hm
   | mpb kd kvs =>
    obtain ⟨rfl, rfl, rfl, rfl⟩ := mrun_done hm
    cases hx with
    | mp hθ =>
     obtain ⟨b', N', es, cl, g1, g2, g3, g4, g5⟩ := hr.at_ y _ hy
     rw [hθ] at g1
     simp only [Option.some.injEq, Prod.mk.injEq] at g1
     obtain ⟨rfl, rfl⟩ := g1
     have := g3.len
     simp [keysB] at this
     exact ⟨_, by simp [Builtin.len_, h1, h2, run_underlying hu, goInt, MapKept.run_getObj_map g2, ← this], .int, rfl, rfl⟩
   | cells => simp [mrun] at hm
   | loopr => simp [mrun] at hm
   | seq => simp [mrun] at hm
 · simp [mrun] at hm
theorem run_minMaxX {mx : Bool} {x y : SV} {nx nx' : Nat} {r : SV} {ups : List (Nat × Option Chunk)} {rs : List Nat} (hm : mrun h (minMaxX mx x y nx) = some (r, ups, nx', rs)) {ux uy : Value} (hx : VRel P ω w Im θ x ux) (hy : VRel P ω w Im θ y uy) {tys : Array TypeId} {ty : TypeId} {us : Array Value} (hus : us.toList = [ux, uy]) :
  ∃ v, (bif mx then Builtin.max_ tys ty us else Builtin.min_ tys ty us).run P w = .ok v w ∧ VRel P ω w Im θ r v ∧ ups = [] ∧ nx' = nx := by
 unfold minMaxX at hm
 split at hm
 · rename_i k a k' b
   cases hx
   cases hy
   have hb0 := bif_fail hm; clear hm; obtain ⟨hk, hm⟩ := hb0
   cases mx with
   | true =>
    simp only [cond_true] at hm ⊢
    obtain ⟨rfl, rfl, rfl, rfl⟩ := mrun_done hm
    refine ⟨_, ?_, .int, rfl, rfl⟩
    simp only [Builtin.max_, hus, List.foldlM_cons, List.foldlM_nil, Builtin.max2, Sem.run_bind, Sem.run_pure, Result.andThen_ok]
    congr 2
    by_cases h : a < b
    · have h2 : decide (a < b) = true := by simpa using h
      simp [h]
    · simp [h]
   | false =>
    simp only [cond_false] at hm ⊢
    obtain ⟨rfl, rfl, rfl, rfl⟩ := mrun_done hm
    refine ⟨_, ?_, .int, rfl, rfl⟩
    simp only [Builtin.min_, hus, List.foldlM_cons, List.foldlM_nil, Builtin.min2, Sem.run_bind, Sem.run_pure, Result.andThen_ok]
    congr 2
    by_cases h : b < a
    · simp [h]
    · simp [h]
 · simp [mrun] at hm
end
end Go.Am
