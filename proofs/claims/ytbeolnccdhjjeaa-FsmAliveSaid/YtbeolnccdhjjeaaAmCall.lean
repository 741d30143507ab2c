/- The abstract machine: a call, by what is known of the callee. -/
import Derived.Test.YtbeolnccdhjjeaaAmX9
namespace Go.Am
variable {P : Program} {ω : Nat → Value}

/-- The names of a heap that is handed to a callee: 0, 1, 2, .. -/
def Canon (H : HpL) : Prop := ∀ (i : Nat) p, H[i]? = some p → p.1 = i

/-- What a call comes to: 's' tells it of whatever it is handed. -/
def ValidC (P : Program) (f : FuncId) (s : CSumm) : Prop :=
  ∀ (args : List SV) (H : HpL) v ups, crun (s args H) = some (v, ups) → Canon H → ∀ (ω : Nat → Value) (θ : Th) (Im : Nat → Prop) (w : World) (us : List Value),
    LRel P ω w Im θ args us → HRel P ω w Im θ H.get → (∀ x, H.length ≤ x → θ x = none) →
    Calls P f us.toArray w fun e w' => ∃ u θ' Im', e = .returned u ∧ Ext (fun x => H.length ≤ x) H.get w Im θ (updF ups H.get) w' Im' θ' ∧ VRel P ω w' Im' θ' v u ∧ HRel P ω w' Im' θ' (updF ups H.get)

theorem namesS_mem {v : SV} {vs : List SV} (h : v ∈ vs) : ∀ x ∈ namesS v, x ∈ namesL vs := by
  induction vs with
  | nil => cases h
  | cons w vs ih =>
    intro x hx
    simp only [namesL, List.mem_append]
    rcases List.mem_cons.1 h with rfl | h
    · exact .inl hx
    · exact .inr (ih h x hx)

theorem renL_eq (f : Nat → Nat) (vs : List SV) : renL f vs = vs.map (renS f) := by
  induction vs with
  | nil => rfl
  | cons v vs ih => simp [renL, ih]

theorem VRel.ren {w : World} {Im : Nat → Prop} {θ : Th} {v : SV} {u : Value} (h : VRel P ω w Im θ v u) : ∀ {θ2 : Th} (f : Nat → Nat), (∀ x ∈ namesS v, ∀ p, θ x = some p → θ2 (f x) = some p) → VRel P ω w Im θ2 (renS f v) u := by
  have lst : ∀ {ω : Nat → Value} {θ θ2 : Th} (f : Nat → Nat) (cs : List SV) (us : Array Value),
      (∀ (i : Nat) (v : SV) (u : Value), cs[i]? = some v → us[i]? = some u → ∀ {θ2 : Th} (f : Nat → Nat), (∀ x ∈ namesS v, ∀ p, θ x = some p → θ2 (f x) = some p) → VRel P ω w Im θ2 (renS f v) u) →
      (∀ x ∈ namesL cs, ∀ p, θ x = some p → θ2 (f x) = some p) → ∀ (i : Nat) (v : SV) (u : Value), (renL f cs)[i]? = some v → us[i]? = some u → VRel P ω w Im θ2 v u := by
    intro ω θ θ2 f cs us ih hn i v u hv hu
    rw [renL_eq, List.getElem?_map, Option.map_eq_some_iff] at hv
    obtain ⟨c, hc, rfl⟩ := hv
    exact ih i c u hc hu f (fun x hx => hn x (namesS_mem (List.mem_of_getElem? hc) x hx))
  induction h with
  | junk => intro _ f _; exact .junk
  | opq => intro _ f _; exact .opq
  | pnn h _ => intro _ f _; exact .pnn (by cases h with | psl us h1 h0 h2 h3 h4 => exact .psl us h1 h0 h2 h3 h4)
  | emp => intro _ f _; exact .emp
  | qs h1 h2 h3 => intro _ f hn; exact .qs (hn _ (by simp [namesS]) _ h1) h2 h3
  | qsnil h => intro _ f _; exact .qsnil h
  | qp h => intro _ f hn; exact .qp (hn _ (by simp [namesS]) _ h)
  | bool => intro _ f _; exact .bool
  | int => intro _ f _; exact .int
  | str h => intro _ f _; exact .str h
  | ptr h => intro _ f hn; exact .ptr (hn _ (by simp [namesS]) _ h)
  | nilp => intro _ f _; exact .nilp
  | pel h1 h2 h3 _ => intro _ f _; exact .pel h1 h2 h3
  | sl h1 h2 h3 => intro _ f hn; exact .sl (hn _ (by simp [namesS]) _ h1) h2 h3
  | slnil => intro _ f _; exact .slnil
  | nils => intro _ f _; exact .nils
  | psl us h1 h0 h2 h3 h4 _ => intro _ f _; exact .psl us h1 h0 h2 h3 h4
  | mp h => intro _ f hn; exact .mp (hn _ (by simp [namesS]) _ h)
  | nilm => intro _ f _; exact .nilm
  | yl h => intro _ f hn; exact .yl (hn _ (by simp [namesS]) _ h)
  | fn h1 h2 _ _ ih1 ih2 =>
    intro θ2 f hn
    simp only [namesS, List.mem_append] at hn
    simp only [renS]
    exact .fn (by rw [renL_eq]; simpa using h1) (by rw [renL_eq]; simpa using h2) (lst f _ _ ih1 (fun x hx => hn x (.inl hx))) (lst f _ _ ih2 (fun x hx => hn x (.inr hx)))
  | nilf => intro _ f _; exact .nilf
  | iface _ ih => intro _ f hn; simp only [renS]; exact .iface (ih f (by simpa [namesS] using hn))
  | nili => intro _ f _; exact .nili
  | agg h1 _ ih =>
    intro θ2 f hn
    simp only [renS]
    exact .agg (by rw [renL_eq]; simpa using h1) (lst f _ _ ih (by simpa [namesS] using hn))
  | tup h1 _ ih =>
    intro θ2 f hn
    simp only [renS]
    exact .tup (by rw [renL_eq]; simpa using h1) (lst f _ _ ih (by simpa [namesS] using hn))

theorem LRel.ren {w : World} {Im : Nat → Prop} {θ θ2 : Th} {cs : List SV} {us : List Value} (h : LRel P ω w Im θ cs us) (f : Nat → Nat) (hn : ∀ x ∈ namesL cs, ∀ p, θ x = some p → θ2 (f x) = some p) : LRel P ω w Im θ2 (renL f cs) us := by
  refine ⟨by rw [renL_eq]; simpa using h.len, fun i v u hv hu => ?_⟩
  rw [renL_eq, List.getElem?_map, Option.map_eq_some_iff] at hv
  obtain ⟨c, hc, rfl⟩ := hv
  exact (h.at_ i c u hc hu).ren f (fun x hx => hn x (namesS_mem (List.mem_of_getElem? hc) x hx))

theorem CRel.ren {w : World} {Im : Nat → Prop} {θ θ2 : Th} {x : Nat} {c : Chunk} (h : CRel P ω w Im θ x c) (f : Nat → Nat) (hn : ∀ x ∈ namesC c, ∀ p, θ x = some p → θ2 (f x) = some p) {y : Nat} (hy : θ2 y = θ x) : CRel P ω w Im θ2 y (renC f c) := by
  cases c with
  | cells T vs =>
    obtain ⟨b, cs, fr, h1, h2, h3, h4⟩ := h
    exact ⟨b, cs, fr, by rw [hy, h1, renL_eq]; simp, h2, h3, h4.ren f hn⟩
  | seq e es =>
    rcases h with ⟨h1, h2⟩ | ⟨b, N, cs, T, fr, us, h1, h2⟩
    · exact .inl ⟨h1, by rw [hy]; exact h2⟩
    · exact .inr ⟨b, N, cs, T, fr, us, by rw [hy]; exact h1, h2⟩
  | loopr st vs ps asg bdy =>
    obtain ⟨b, N, lp, h1, h2, h3, h4, h5, h6, h7⟩ := h
    exact ⟨b, N, lp, by rw [hy]; exact h1, h2, h3, h4, h5, h6, h7.ren f hn⟩
  | mpc ks vs =>
    obtain ⟨b, N, es, cl, h1, h2, h3, h4, h5⟩ := h
    exact ⟨b, N, es, cl, by rw [hy]; exact h1, h2, h3.ren f (fun x hx => hn x (List.mem_append.2 (.inl hx))), h4.ren f (fun x hx => hn x (List.mem_append.2 (.inr hx))), h5⟩

mutual
theorem renS_id (f g : Nat → Nat) : ∀ (v : SV), (∀ x ∈ namesS v, g (f x) = x) → renS g (renS f v) = v
  | .ptr x o, h => by simp only [renS]; rw [h x (by simp [namesS])]
  | .sl x sz o l, h => by simp only [renS]; rw [h x (by simp [namesS])]
  | .qs x sz o l, h => by simp only [renS]; rw [h x (by simp [namesS])]
  | .qp x sz o l, h => by simp only [renS]; rw [h x (by simp [namesS])]
  | .mp x, h => by simp only [renS]; rw [h x (by simp [namesS])]
  | .yl x, h => by simp only [renS]; rw [h x (by simp [namesS])]
  | .fn k a b, h => by
    simp only [namesS, List.mem_append] at h
    simp only [renS]
    rw [renL_id f g a (fun x hx => h x (.inl hx)), renL_id f g b (fun x hx => h x (.inr hx))]
  | .iface t v, h => by simp only [renS]; rw [renS_id f g v (by simpa [namesS] using h)]
  | .agg cs, h => by simp only [renS]; rw [renL_id f g cs (by simpa [namesS] using h)]
  | .tup cs, h => by simp only [renS]; rw [renL_id f g cs (by simpa [namesS] using h)]
  | .junk, _ | .pnn _ _, _ | .opq _, _ | .emp, _ | .bool _, _ | .int _ _, _ | .str _, _ | .nilp, _ | .pel _ _, _ | .nils, _ | .psl _ _, _ | .nilm, _ | .nilf, _ | .nili, _ => rfl
theorem renL_id (f g : Nat → Nat) : ∀ (vs : List SV), (∀ x ∈ namesL vs, g (f x) = x) → renL g (renL f vs) = vs
  | [], _ => rfl
  | v :: vs, h => by
    simp only [namesL, List.mem_append] at h
    simp only [renL]
    rw [renS_id f g v (fun x hx => h x (.inl hx)), renL_id f g vs (fun x hx => h x (.inr hx))]
end

mutual
theorem namesS_ren (f : Nat → Nat) (z : Nat) : ∀ (v : SV), z ∈ namesS (renS f v) → ∃ y ∈ namesS v, z = f y
  | .ptr x o, h => ⟨x, by simp [namesS], by simpa [renS, namesS] using h⟩
  | .sl x sz o l, h => ⟨x, by simp [namesS], by simpa [renS, namesS] using h⟩
  | .qs x sz o l, h => ⟨x, by simp [namesS], by simpa [renS, namesS] using h⟩
  | .qp x sz o l, h => ⟨x, by simp [namesS], by simpa [renS, namesS] using h⟩
  | .mp x, h => ⟨x, by simp [namesS], by simpa [renS, namesS] using h⟩
  | .yl x, h => ⟨x, by simp [namesS], by simpa [renS, namesS] using h⟩
  | .fn k a b, h => by
    simp only [renS, namesS, List.mem_append] at h
    rcases h with h | h
    · obtain ⟨y, hy, e⟩ := namesL_ren f z a h
      exact ⟨y, by simp only [namesS, List.mem_append]; exact .inl hy, e⟩
    · obtain ⟨y, hy, e⟩ := namesL_ren f z b h
      exact ⟨y, by simp only [namesS, List.mem_append]; exact .inr hy, e⟩
  | .iface t v, h => by
    obtain ⟨y, hy, e⟩ := namesS_ren f z v (by simpa [renS, namesS] using h)
    exact ⟨y, by simpa [namesS] using hy, e⟩
  | .agg cs, h => by
    obtain ⟨y, hy, e⟩ := namesL_ren f z cs (by simpa [renS, namesS] using h)
    exact ⟨y, by simpa [namesS] using hy, e⟩
  | .tup cs, h => by
    obtain ⟨y, hy, e⟩ := namesL_ren f z cs (by simpa [renS, namesS] using h)
    exact ⟨y, by simpa [namesS] using hy, e⟩
  | .junk, h | .pnn _ _, h | .opq _, h | .emp, h | .bool _, h | .int _ _, h | .str _, h | .nilp, h | .pel _ _, h | .nils, h | .psl _ _, h | .nilm, h | .nilf, h | .nili, h => by simp [renS, namesS] at h
theorem namesL_ren (f : Nat → Nat) (z : Nat) : ∀ (vs : List SV), z ∈ namesL (renL f vs) → ∃ y ∈ namesL vs, z = f y
  | [], h => by simp [renL, namesL] at h
  | v :: vs, h => by
    simp only [renL, namesL, List.mem_append] at h
    rcases h with h | h
    · obtain ⟨y, hy, e⟩ := namesS_ren f z v h
      exact ⟨y, by simp only [namesL, List.mem_append]; exact .inl hy, e⟩
    · obtain ⟨y, hy, e⟩ := namesL_ren f z vs h
      exact ⟨y, by simp only [namesL, List.mem_append]; exact .inr hy, e⟩
end

theorem renC_id (f g : Nat → Nat) (c : Chunk) (h : ∀ x ∈ namesC c, g (f x) = x) : renC g (renC f c) = c := by
  cases c with
  | cells T vs => simp only [renC]; rw [renL_id f g vs h]
  | seq e es => rfl
  | loopr st vs ps asg bdy => simp only [renC]; rw [renL_id f g vs h]
  | mpc ks vs => simp only [renC]; rw [renL_id f g ks (fun x hx => h x (List.mem_append.2 (.inl hx))), renL_id f g vs (fun x hx => h x (List.mem_append.2 (.inr hx)))]

theorem memN_iff : ∀ (x : Nat) (l : List Nat), memN x l = true ↔ x ∈ l
  | x, [] => by simp [memN]
  | x, y :: l => by
    have ih := memN_iff x l
    simp only [memN, Bool.or_eq_true, List.mem_cons, ih]
    constructor
    · rintro (h | h)
      · exact .inl (Nat.eq_of_beq_eq_true h)
      · exact .inr h
    · rintro (h | h)
      · exact .inl (nb_t h)
      · exact .inr h

theorem idxN_spec : ∀ (l : List Nat) (x : Nat), x ∈ l → idxN l x < l.length ∧ l[idxN l x]? = some x
  | [], _, h => by cases h
  | y :: l, x, h => by
    simp only [idxN]
    by_cases e : y = x
    · subst e; rw [nb_t rfl]; simp
    · rw [nb_f e]
      have hx : x ∈ l := by rcases List.mem_cons.1 h with h | h; exact absurd h.symm e; exact h
      have := idxN_spec l x hx
      simp only [cond_false, List.length_cons, List.getElem?_cons_succ]
      exact ⟨by omega, this.2⟩

theorem idxN_at {l : List Nat} (hd : l.Nodup) {i : Nat} {x : Nat} (h : l[i]? = some x) : idxN l x = i := by
  have hm := List.mem_of_getElem? h
  have := idxN_spec l x hm
  have hi : i < l.length := by
    rcases Nat.lt_or_ge i l.length with h1 | h1
    · exact h1
    · simp [List.getElem?_eq_none h1] at h
  have e1 : l[idxN l x]'this.1 = x := (List.getElem?_eq_some_iff.1 this.2).2
  have e2 : l[i] = x := (List.getElem?_eq_some_iff.1 h).2
  exact (List.getElem_inj hd).1 (e1.trans e2.symm)

/- The blocks that a call is handed. -/
structure Closed (h : HpF) (acc : HpL) : Prop where
  at_ : ∀ p ∈ acc, h p.1 = some p.2
  nodup : (acc.map (·.1)).Nodup

theorem closeM_spec {h : HpF} {k : HpL → OpM} {r : SV} {ups : List (Nat × Option Chunk)} {nx' : Nat} : ∀ (d : Nat) (todo : List Nat) (acc : HpL) (rs : List Nat), mrun h (closeM k d todo acc) = some (r, ups, nx', rs) → Closed h acc →
    (∀ p ∈ acc, ∀ x ∈ namesC p.2, x ∈ acc.map (·.1) ∨ x ∈ todo) →
    ∃ acc' rs1 rs2, Closed h acc' ∧ (∀ p ∈ acc', ∀ x ∈ namesC p.2, x ∈ acc'.map (·.1)) ∧ (∀ x ∈ todo, x ∈ acc'.map (·.1)) ∧ (∀ x ∈ acc.map (·.1), x ∈ acc'.map (·.1)) ∧
      (∀ x, x ∈ acc'.map (·.1) → x ∈ acc.map (·.1) ∨ x ∈ rs1) ∧ mrun h (k acc') = some (r, ups, nx', rs2) ∧ rs = rs1 ++ rs2
  | 0, _, _, rs, hm, _, _ => by simp [closeM, mrun] at hm
  | d + 1, [], acc, rs, hm, hc, hn => by
    simp only [closeM] at hm
    refine ⟨acc, [], rs, hc, ?_, ?_, fun _ h => h, fun x hx => .inl hx, hm, rfl⟩
    · intro p hp x hx
      rcases hn p hp x hx with h1 | h1
      · exact h1
      · cases h1
    · intro x hx; cases hx
  | d + 1, x :: todo, acc, rs, hm, hc, hn => by
    simp only [closeM] at hm
    cases hmem : memN x (acc.map (·.1)) with
    | true =>
      rw [hmem] at hm
      simp only [cond_true] at hm
      have hxa := (memN_iff _ _).1 hmem
      obtain ⟨acc', rs1, rs2, g1, g2, g3, g0, g4, g5, g6⟩ := closeM_spec d todo acc rs hm hc (by
        intro p hp y hy
        rcases hn p hp y hy with h1 | h1
        · exact .inl h1
        · rcases List.mem_cons.1 h1 with rfl | h1
          · exact .inl hxa
          · exact .inr h1)
      refine ⟨acc', rs1, rs2, g1, g2, ?_, g0, g4, g5, g6⟩
      intro y hy
      rcases List.mem_cons.1 hy with rfl | hy
      · exact g0 _ hxa
      · exact g3 y hy
    | false =>
      rw [hmem] at hm
      simp only [cond_false, mrun] at hm
      have hxa : x ∉ acc.map (·.1) := fun hh => by rw [(memN_iff _ _).2 hh] at hmem; cases hmem
      cases hx : h x with
      | none => simp [hx] at hm
      | some c =>
        simp only [hx] at hm
        cases hr : mrun h (closeM k d (namesC c ++ todo) ((x, c) :: acc)) with
        | none => simp [hr] at hm
        | some q =>
          obtain ⟨r0, ups0, nx0, rs0⟩ := q
          simp only [hr, Option.some.injEq, Prod.mk.injEq] at hm
          obtain ⟨rfl, rfl, rfl, rfl⟩ := hm
          have hc' : Closed h ((x, c) :: acc) := by
            refine ⟨?_, ?_⟩
            · intro p hp
              rcases List.mem_cons.1 hp with rfl | hp
              · exact hx
              · exact hc.at_ p hp
            · simp only [List.map_cons, List.nodup_cons]; exact ⟨hxa, hc.nodup⟩
          obtain ⟨acc', rs1, rs2, g1, g2, g3, g0, g4, g5, g6⟩ := closeM_spec d (namesC c ++ todo) ((x, c) :: acc) rs0 hr hc' (by
              intro p hp y hy
              rcases List.mem_cons.1 hp with rfl | hp
              · exact .inr (List.mem_append.2 (.inl hy))
              · rcases hn p hp y hy with h1 | h1
                · exact .inl (by simp only [List.map_cons, List.mem_cons]; exact .inr h1)
                · rcases List.mem_cons.1 h1 with rfl | h1
                  · exact .inl (by simp)
                  · exact .inr (List.mem_append.2 (.inr h1)))
          refine ⟨acc', x :: rs1, rs2, g1, g2, ?_, ?_, ?_, g5, by rw [g6]; rfl⟩
          · intro y hy
            rcases List.mem_cons.1 hy with rfl | hy
            · exact g0 _ (by simp)
            · exact g3 y (List.mem_append.2 (.inr hy))
          · intro y hy
            exact g0 y (by simp only [List.map_cons, List.mem_cons]; exact .inr hy)
          · intro y hy
            rcases g4 y hy with h1 | h1
            · simp only [List.map_cons, List.mem_cons] at h1
              rcases h1 with rfl | h1
              · exact .inr (by simp)
              · exact .inl h1
            · exact .inr (List.mem_cons.2 (.inr h1))

theorem locHeap_len (f : Nat → Nat) : ∀ (l : HpL) (i : Nat), (locHeap f l i).length = l.length
  | [], _ => rfl
  | _ :: l, i => by simp [locHeap, locHeap_len f l (i + 1)]
theorem locHeap_at (f : Nat → Nat) : ∀ (l : HpL) (i j : Nat), (locHeap f l i)[j]? = (l[j]?).map fun p => (i + j, renC f p.2)
  | [], _, _ => by simp [locHeap]
  | (x, c) :: l, i, 0 => by simp [locHeap]
  | (x, c) :: l, i, j + 1 => by
    simp only [locHeap, List.getElem?_cons_succ]
    rw [locHeap_at f l (i + 1) j]
    congr 1
    funext p
    simp; omega
theorem locHeap_get (f : Nat → Nat) : ∀ (l : HpL) (i y : Nat), HpL.get (locHeap f l i) (i + y) = (l[y]?).map fun p => renC f p.2
  | [], _, _ => by simp [locHeap, HpL.get]
  | (x, c) :: l, i, 0 => by simp [locHeap, HpL.get]
  | (x, c) :: l, i, y + 1 => by
    have h : ¬ i = i + (y + 1) := by omega
    simp only [locHeap, HpL.get, nb_f h, cond_false, List.getElem?_cons_succ]
    have := locHeap_get f l (i + 1) y
    rw [show i + 1 + y = i + (y + 1) by omega] at this
    exact this
theorem locHeap_get_lt (f : Nat → Nat) : ∀ (l : HpL) (i y : Nat), y < i → HpL.get (locHeap f l i) y = none
  | [], _, _, _ => rfl
  | (x, c) :: l, i, y, h => by
    have hne : ¬ i = y := by omega
    simp only [locHeap, HpL.get, nb_f hne, cond_false]
    exact locHeap_get_lt f l (i + 1) y (by omega)

theorem updF_not {x : Nat} : ∀ {l : List (Nat × Option Chunk)} {h : HpF}, x ∉ l.map (·.1) → updF l h x = h x
  | [], _, _ => rfl
  | (y, c) :: l, h, hx => by
    simp only [List.map_cons, List.mem_cons, not_or] at hx
    simp only [updF]
    rw [updF_not hx.2]
    simp [hx.1]

theorem backUps_keys (f : Nat → Nat) : ∀ (l : List (Nat × Option Chunk)), (backUps f l).map (·.1) = l.map (fun p => f p.1)
  | [] => rfl
  | (y, some c) :: l => by simp [backUps, backUps_keys f l]
  | (y, none) :: l => by simp [backUps, backUps_keys f l]

/-- The callee's changes in the caller's names. -/
theorem updF_back {f : Nat → Nat} {B : Nat} (hinj : ∀ x y, x < B → y < B → f x = f y → x = y) : ∀ (l : List (Nat × Option Chunk)) (h h' : HpF) (y : Nat), (∀ p ∈ l, p.1 < B) → y ∈ l.map (·.1) →
    updF (backUps f l) h' (f y) = (updF l h y).map (renC f)
  | [], _, _, _, _, hy => by cases hy
  | (x, c) :: l, h, h', y, hB, hy => by
    have hxB := hB (x, c) (by simp)
    have hlB : ∀ p ∈ l, p.1 < B := fun p hp => hB p (by simp [hp])
    have hb : ∀ (h' : HpF), updF (backUps f ((x, c) :: l)) h' = updF (backUps f l) (fun z => if z = f x then c.map (renC f) else h' z) := by
      intro h'; cases c <;> rfl
    rw [hb]
    simp only [updF]
    by_cases hyl : y ∈ l.map (·.1)
    · exact updF_back hinj l _ _ y hlB hyl
    · have hyx : y = x := by
        simp only [List.map_cons, List.mem_cons] at hy
        rcases hy with h1 | h1
        · exact h1
        · exact absurd h1 hyl
      subst hyx
      rw [updF_not hyl]
      have : f y ∉ (backUps f l).map (·.1) := by
        rw [backUps_keys]
        intro hh
        obtain ⟨p, hp, he⟩ := List.mem_map.1 hh
        have := hinj _ _ (hlB p hp) hxB he
        exact hyl (List.mem_map.2 ⟨p, hp, this⟩)
      rw [updF_not this]
      simp

theorem boundN_ge : ∀ (l : List Nat) (n : Nat), n ≤ boundN l n
  | [], _ => Nat.le_refl _
  | y :: l, n => by
    simp only [boundN]
    have := boundN_ge l (bif Nat.blt n (y + 1) then y + 1 else n)
    cases h : Nat.blt n (y + 1) with
    | true =>
      have h1 : n < y + 1 := by rw [Nat.blt_eq] at h; exact h
      rw [h] at this
      simp only [cond_true] at this ⊢
      omega
    | false => rw [h] at this; simpa using this
theorem boundN_mem : ∀ (l : List Nat) (n : Nat), ∀ y ∈ l, y < boundN l n
  | [], _, _, h => by cases h
  | z :: l, n, y, h => by
    simp only [boundN]
    rcases List.mem_cons.1 h with rfl | h
    · have := boundN_ge l (bif Nat.blt n (y + 1) then y + 1 else n)
      cases hb : Nat.blt n (y + 1) with
      | true => rw [hb] at this; simp only [cond_true] at this ⊢; omega
      | false =>
        have h1 : ¬ n < y + 1 := by intro hh; rw [← Nat.blt_eq] at hh; rw [hh] at hb; cases hb
        rw [hb] at this; simp only [cond_false] at this ⊢; omega
    · exact boundN_mem l _ y h
theorem namesU_key : ∀ {l : List (Nat × Option Chunk)} {p}, p ∈ l → p.1 ∈ namesU l
  | (y, some c) :: l, p, h => by
    simp only [namesU, List.mem_cons, List.mem_append]
    rcases List.mem_cons.1 h with rfl | h
    · exact .inl rfl
    · exact .inr (.inr (namesU_key h))
  | (y, none) :: l, p, h => by
    simp only [namesU, List.mem_cons]
    rcases List.mem_cons.1 h with rfl | h
    · exact .inl rfl
    · exact .inr (namesU_key h)
theorem namesU_chunk : ∀ {l : List (Nat × Option Chunk)} {y c}, (y, some c) ∈ l → ∀ x ∈ namesC c, x ∈ namesU l
  | (z, some d) :: l, y, c, h, x, hx => by
    simp only [namesU, List.mem_cons, List.mem_append]
    rcases List.mem_cons.1 h with e | h
    · cases e; exact .inr (.inl hx)
    · exact .inr (.inr (namesU_chunk h x hx))
  | (z, none) :: l, y, c, h, x, hx => by
    simp only [namesU, List.mem_cons]
    rcases List.mem_cons.1 h with e | h
    · cases e
    · exact .inr (namesU_chunk h x hx)
theorem updF_mem : ∀ {l : List (Nat × Option Chunk)} {h : HpF} {y : Nat} {c : Chunk}, updF l h y = some c → (y, some c) ∈ l ∨ (y ∉ l.map (·.1) ∧ h y = some c)
  | [], _, _, _, e => .inr ⟨by simp, e⟩
  | (x, d) :: l, h, y, c, e => by
    simp only [updF] at e
    rcases updF_mem e with h1 | ⟨h1, h2⟩
    · exact .inl (by simp [h1])
    · by_cases hyx : y = x
      · subst hyx
        simp at h2
        subst h2
        exact .inl (by simp)
      · simp [hyx] at h2
        refine .inr ⟨?_, h2⟩
        simp only [List.map_cons, List.mem_cons, not_or]
        exact ⟨hyx, h1⟩

theorem updF_key {l : List (Nat × Option Chunk)} {h h' : HpF} {y : Nat} (hy : y ∈ l.map (·.1)) : updF l h y = updF l h' y := by
  induction l generalizing h h' with
  | nil => cases hy
  | cons p l ih =>
    obtain ⟨x, c⟩ := p
    simp only [updF]
    by_cases hyl : y ∈ l.map (·.1)
    · exact ih hyl
    · rw [updF_not hyl, updF_not hyl]
      simp only [List.map_cons, List.mem_cons] at hy
      rcases hy with rfl | hy
      · simp
      · exact absurd hy hyl

theorem ofCTree_run {h : HpF} {ns : List Nat} {m nx nx' : Nat} {r : SV} {ups : List (Nat × Option Chunk)} {rs : List Nat} : ∀ (t : CTree), mrun h (ofCTree ns m nx t) = some (r, ups, nx', rs) →
    ∃ v u, crun t = some (v, u) ∧ r = renS (backName ns m nx) v ∧ ups = backUps (backName ns m nx) u ∧ nx' = nx + (boundN (namesS v ++ namesU u) m - m)
  | .ret v u, hm => by
    simp only [ofCTree, mrun, Option.some.injEq, Prod.mk.injEq] at hm
    exact ⟨v, u, rfl, hm.1.symm, hm.2.1.symm, hm.2.2.1.symm⟩
  | .ite b t e, hm => by
    simp only [ofCTree, mrun] at hm
    cases b
    · simp only [Bool.false_eq_true, if_false] at hm
      obtain ⟨v, u, h1, h2⟩ := ofCTree_run e hm
      exact ⟨v, u, by simpa [crun] using h1, h2⟩
    · simp only [if_true] at hm
      obtain ⟨v, u, h1, h2⟩ := ofCTree_run t hm
      exact ⟨v, u, by simpa [crun] using h1, h2⟩
  | .fail, hm => by simp [ofCTree, mrun] at hm

structure KOk (P : Program) (κ : Nat → Option CSumm) : Prop where
  fn : ∀ f s, κ f = some s → ∃ fn, P.funcs[f]? = some fn ∧ (fn.name == "runtime.NumGoroutine") = false ∧ fn.body.isNone = false
  ok : ∀ f s, κ f = some s → ValidC P f s

/-- A call by what is known, from the caller's names to the callee's and back. -/
theorem enter_gen {s : CSumm} {h : HpF} {args : List SV} {nx nx' : Nat} {r : SV}
    {ups : List (Nat × Option Chunk)} {rs : List Nat} (hm : mrun h (callS s args nx) = some (r, ups, nx', rs)) :
    ∃ (args' : List SV) (H : HpL) (v : SV) (u : List (Nat × Option Chunk)) (back : Nat → Nat), crun (s args' H) = some (v, u) ∧ Canon H ∧ args'.length = args.length ∧ r = renS back v ∧
      ∀ {ω : Nat → Value} {w : World} {Im : Nat → Prop} {θ : Th} (_ : HRel P ω w Im θ h) {us : List Value} (_ : LRel P ω w Im θ args us) (_ : ∀ x, nx ≤ x → x < nx' → θ x = none ∧ h x = none),
      ∃ θL : Th, LRel P ω w Im θL args' us ∧ HRel P ω w Im θL H.get ∧ (∀ x, H.length ≤ x → θL x = none) ∧
      (∀ y c b N, H.get y = some c → θL y = some (b, N) → ∃ x c0, h x = some c0 ∧ θ x = some (b, N)) ∧
      ∀ (z : Value) (w' : World) (θL' : Th) (Im' : Nat → Prop), Ext (fun x => H.length ≤ x) H.get w Im θL (updF u H.get) w' Im' θL' → VRel P ω w' Im' θL' v z → HRel P ω w' Im' θL' (updF u H.get) →
        ∃ θ', Ext (fun x => nx ≤ x ∧ x < nx') h w Im θ (updF ups h) w' Im' θ' ∧ VRel P ω w' Im' θ' r z ∧ HRel P ω w' Im' θ' (updF ups h) ∧
          (∀ x c b N, updF ups h x = some c → θ' x = some (b, N) → (∃ y c0, updF u H.get y = some c0 ∧ θL' y = some (b, N)) ∨ ∃ c0, h x = some c0 ∧ θ x = some (b, N)) ∧
          ∀ (v' : SV) (z' : Value), (∀ x ∈ namesS v', x ∈ namesS v) → VRel P ω w' Im' θL' v' z' → VRel P ω w' Im' θ' (renS back v') z' := by
  unfold callS at hm
  dsimp only at hm
  obtain ⟨acc, rs1, rs2, hcl, hclosed, hargs, -, -, hm2, -⟩ := closeM_spec _ _ _ _ hm ⟨(fun p hp => by cases hp), List.nodup_nil⟩ (fun p hp => by cases hp)
  generalize hL : acc.reverse = L at hm2
  have hLmem : ∀ p, p ∈ L ↔ p ∈ acc := fun p => by rw [← hL]; simp
  have hat : ∀ p ∈ L, h p.1 = some p.2 := fun p hp => hcl.at_ p ((hLmem p).1 hp)
  have hnd : (L.map (·.1)).Nodup := by rw [← hL, List.map_reverse]; exact (List.reverse_perm _).nodup_iff.2 hcl.nodup
  have hns : ∀ x, x ∈ L.map (·.1) ↔ x ∈ acc.map (·.1) := fun x => by rw [← hL]; simp
  generalize hnsd : L.map (·.1) = ns at hm2 hnd hns
  have hlen : ns.length = L.length := by rw [← hnsd]; simp
  obtain ⟨v, u, hrun, rfl, rfl, rfl⟩ := ofCTree_run _ hm2
  -- the callee's names
  have hnsat : ∀ (i x : Nat), ns[i]? = some x → ∃ c : Chunk, L[i]? = some (x, c) ∧ h x = some c := by
    intro i x hx
    rw [← hnsd, List.getElem?_map, Option.map_eq_some_iff] at hx
    obtain ⟨p, hp, rfl⟩ := hx
    exact ⟨p.2, hp, hat p (List.mem_of_getElem? hp)⟩
  have hchn : ∀ p ∈ L, ∀ x ∈ namesC p.2, x ∈ ns := fun p hp x hx => (hns x).2 (hclosed p ((hLmem p).1 hp) x hx)
  generalize hH : locHeap (idxN ns) L 0 = H at hrun
  have hHget : ∀ y, HpL.get H y = (L[y]?).map fun p => renC (idxN ns) p.2 := by
    intro y
    have := locHeap_get (idxN ns) L 0 y
    rw [Nat.zero_add, hH] at this
    exact this
  have hHlen : H.length = ns.length := by rw [← hH, locHeap_len, hlen]
  have hCanon : Canon H := by
    intro i p hp
    rw [← hH, locHeap_at] at hp
    obtain ⟨q, _, rfl⟩ := Option.map_eq_some_iff.1 hp
    simp
  have hHsome : ∀ (y : Nat) (c : Chunk), HpL.get H y = some c → ∃ (x : Nat) (c0 : Chunk), ns[y]? = some x ∧ h x = some c0 ∧ c = renC (idxN ns) c0 ∧ (∀ z ∈ namesC c0, z ∈ ns) := by
    intro y c hc
    rw [hHget, Option.map_eq_some_iff] at hc
    obtain ⟨p, hp, rfl⟩ := hc
    refine ⟨p.1, p.2, ?_, hat p (List.mem_of_getElem? hp), rfl, hchn p (List.mem_of_getElem? hp)⟩
    rw [← hnsd, List.getElem?_map, hp]; rfl
  refine ⟨_, H, v, u, backName ns ns.length nx, hrun, hCanon, by rw [renL_eq]; simp, rfl, ?_⟩
  intro ω w Im θ hr us hl hfr
  let θL : Th := fun i => match ns[i]? with
    | some x => θ x
    | none => none
  have hθL : ∀ (i x : Nat), ns[i]? = some x → θL i = θ x := fun i x hx => by simp [θL, hx]
  have hθL' : ∀ i : Nat, ns.length ≤ i → θL i = none := fun i hi => by simp [θL, List.getElem?_eq_none hi]
  have hto : ∀ x ∈ ns, ∀ p, θ x = some p → θL (idxN ns x) = some p := by
    intro x hx p hp
    rw [hθL _ x (idxN_spec ns x hx).2, hp]
  have hArgs : LRel P ω w Im θL (renL (idxN ns) args) us := hl.ren _ (fun x hx p hp => hto x ((hns x).2 (hargs x hx)) p hp)
  have hHr : HRel P ω w Im θL H.get := by
    refine ⟨?_, ?_, ?_, hr.im⟩
    · intro y c hc
      obtain ⟨x, c0, hx, hx0, rfl, hn⟩ := hHsome y c hc
      exact (hr.at_ x c0 hx0).ren _ (fun z hz p hp => hto z (hn z hz) p hp) (hθL y x hx)
    · intro y z c c' b N N' hy hz hb hb'
      obtain ⟨x, c0, hx, hx0, -, -⟩ := hHsome y c hy
      obtain ⟨x', c0', hx', hx0', -, -⟩ := hHsome z c' hz
      rw [hθL y x hx] at hb
      rw [hθL z x' hx'] at hb'
      have := hr.inj x x' c0 c0' b N N' hx0 hx0' hb hb'
      subst this
      rw [← idxN_at hnd hx, ← idxN_at hnd hx']
    · intro y c b N hy hb
      obtain ⟨x, c0, hx, hx0, -, -⟩ := hHsome y c hy
      rw [hθL y x hx] at hb
      exact hr.own x c0 b N hx0 hb
  refine ⟨θL, hArgs, hHr, fun x hx => hθL' x (by omega), fun y c b N hy hb => ?_, fun z w' θL' Im' hE hz hH' => ?_⟩
  · obtain ⟨x, c0, hx, hx0, -, -⟩ := hHsome y c hy
    rw [hθL y x hx] at hb
    exact ⟨x, c0, hx0, hb⟩
  rw [hHlen] at hE
  -- back to the caller's names
  generalize hB : boundN (namesS v ++ namesU u) ns.length = B at hfr ⊢
  have hBge : ns.length ≤ B := by rw [← hB]; exact boundN_ge _ _
  have hBv : ∀ x ∈ namesS v, x < B := fun x hx => by rw [← hB]; exact boundN_mem _ _ x (List.mem_append.2 (.inl hx))
  have hBu : ∀ x ∈ namesU u, x < B := fun x hx => by rw [← hB]; exact boundN_mem _ _ x (List.mem_append.2 (.inr hx))
  generalize hback : backName ns ns.length nx = back
  have hbk1 : ∀ (y x : Nat), ns[y]? = some x → back y = x := by
    intro y x hx
    have hlt : y < ns.length := (List.getElem?_eq_some_iff.1 hx).1
    have : Nat.blt y ns.length = true := by rw [Nat.blt_eq]; exact hlt
    rw [← hback]
    simp [backName, this, List.getD, hx]
  have hbk2 : ∀ y, ns.length ≤ y → back y = nx + (y - ns.length) := by
    intro y hy
    have : Nat.blt y ns.length = false := by
      cases hh : Nat.blt y ns.length with
      | false => rfl
      | true => rw [Nat.blt_eq] at hh; omega
    rw [← hback]
    simp [backName, this]
  have hnslt : ∀ y : Nat, y < ns.length → ∃ x, ns[y]? = some x := fun y hy => ⟨ns[y], by simp [hy]⟩
  have hold : ∀ (y x : Nat), ns[y]? = some x → ¬ (nx ≤ x ∧ x < nx + (B - ns.length)) := by
    intro y x hx hh
    obtain ⟨c, -, hc⟩ := hnsat y x hx
    rw [(hfr x hh.1 hh.2).2] at hc
    cases hc
  have hinj : ∀ x y, x < B → y < B → back x = back y → x = y := by
    intro x y hx hy e
    rcases Nat.lt_or_ge x ns.length with h1 | h1
    · obtain ⟨a, ha⟩ := hnslt x h1
      rcases Nat.lt_or_ge y ns.length with h2 | h2
      · obtain ⟨b, hb⟩ := hnslt y h2
        rw [hbk1 x a ha, hbk1 y b hb] at e
        subst e
        rw [← idxN_at hnd ha, ← idxN_at hnd hb]
      · rw [hbk1 x a ha, hbk2 y h2] at e
        exact absurd ⟨by omega, by omega⟩ (hold x a ha)
    · rcases Nat.lt_or_ge y ns.length with h2 | h2
      · obtain ⟨b, hb⟩ := hnslt y h2
        rw [hbk2 x h1, hbk1 y b hb] at e
        exact absurd ⟨by omega, by omega⟩ (hold y b hb)
      · rw [hbk2 x h1, hbk2 y h2] at e
        omega
  let θ' : Th := fun x => if nx ≤ x ∧ x < nx + (B - ns.length) then θL' (x - nx + ns.length) else θ x
  have hθ' : ∀ y, y < B → θ' (back y) = θL' y := by
    intro y hy
    rcases Nat.lt_or_ge y ns.length with h1 | h1
    · obtain ⟨x, hx⟩ := hnslt y h1
      rw [hbk1 y x hx]
      simp only [θ', if_neg (hold y x hx)]
      rw [hE.thOld y (by omega), hθL y x hx]
    · rw [hbk2 y h1]
      have : nx ≤ nx + (y - ns.length) ∧ nx + (y - ns.length) < nx + (B - ns.length) := by omega
      simp only [θ', if_pos this]
      congr 1
      omega
  have hθo : ∀ x, ¬ (nx ≤ x ∧ x < nx + (B - ns.length)) → θ' x = θ x := fun x hx => by simp only [θ', if_neg hx]
  have hup : ∀ x p, θ x = some p → θ' x = some p := by
    intro x p hp
    by_cases hx : nx ≤ x ∧ x < nx + (B - ns.length)
    · rw [(hfr x hx.1 hx.2).1] at hp; cases hp
    · rw [hθo x hx]; exact hp
  have hkeysB : ∀ p ∈ u, p.1 < B := fun p hp => hBu _ (namesU_key hp)
  -- what the caller's heap holds behind the call
  have hnew : ∀ x c, updF (backUps back u) h x = some c →
      (∃ y c0, y < B ∧ back y = x ∧ updF u (HpL.get H) y = some c0 ∧ c = renC back c0 ∧ (∀ z ∈ namesC c0, z < B)) ∨ (x ∉ ns ∧ h x = some c ∧ ¬ (nx ≤ x ∧ x < nx + (B - ns.length))) := by
    intro x c hx
    by_cases hkey : x ∈ (backUps back u).map (·.1)
    · rw [backUps_keys] at hkey
      obtain ⟨p, hp, rfl⟩ := List.mem_map.1 hkey
      have hyk : p.1 ∈ u.map (·.1) := List.mem_map.2 ⟨p, hp, rfl⟩
      rw [updF_back hinj u (HpL.get H) h p.1 hkeysB hyk, Option.map_eq_some_iff] at hx
      obtain ⟨c0, hc0, rfl⟩ := hx
      refine .inl ⟨p.1, c0, hkeysB p hp, rfl, hc0, rfl, ?_⟩
      rcases updF_mem hc0 with h1 | ⟨h1, _⟩
      · exact fun z hz => hBu z (namesU_chunk h1 z hz)
      · exact absurd hyk h1
    · rw [updF_not hkey] at hx
      by_cases hxn : x ∈ ns
      · obtain ⟨hi1, hi2⟩ := idxN_spec ns x hxn
        obtain ⟨c1, hL1, hc1⟩ := hnsat _ x hi2
        rw [hx] at hc1
        simp only [Option.some.injEq] at hc1
        subst hc1
        have hny : idxN ns x ∉ u.map (·.1) := by
          intro hh
          obtain ⟨p, hp, he⟩ := List.mem_map.1 hh
          apply hkey
          rw [backUps_keys]
          exact List.mem_map.2 ⟨p, hp, by simp only [he]; exact hbk1 _ x hi2⟩
        have hcn := hchn (x, c) (List.mem_of_getElem? hL1)
        refine .inl ⟨idxN ns x, renC (idxN ns) c, by omega, hbk1 _ x hi2, ?_, ?_, ?_⟩
        · rw [updF_not hny, hHget, hL1]; rfl
        · rw [renC_id]
          intro z hz
          exact hbk1 _ z (idxN_spec ns z (hcn z hz)).2
        · intro z hz
          cases c with
          | seq e es => cases hz
          | mpc ks vs =>
            simp only [renC, namesC, List.mem_append] at hz
            rcases hz with hz | hz
            · obtain ⟨y, hy, rfl⟩ := namesL_ren (idxN ns) z ks hz
              have := (idxN_spec ns y (hcn y (List.mem_append.2 (.inl hy)))).1
              omega
            · obtain ⟨y, hy, rfl⟩ := namesL_ren (idxN ns) z vs hz
              have := (idxN_spec ns y (hcn y (List.mem_append.2 (.inr hy)))).1
              omega
          | loopr st vs ps asg bdy =>
            simp only [renC, namesC] at hz
            have := namesL_ren (idxN ns) z vs hz
            obtain ⟨y, hy, rfl⟩ := this
            have := (idxN_spec ns y (hcn y hy)).1
            omega
          | cells T vs =>
            simp only [renC, namesC] at hz
            have := namesL_ren (idxN ns) z vs hz
            obtain ⟨y, hy, rfl⟩ := this
            have := (idxN_spec ns y (hcn y hy)).1
            omega
      · refine .inr ⟨hxn, hx, fun hh => ?_⟩
        rw [(hfr x hh.1 hh.2).2] at hx
        cases hx
  refine ⟨θ', ?_, ?_, ?_, ?_, ?_⟩
  · refine ⟨hθo, hup, hE.imUp, hE.size, ?_, ?_, ?_, hE.os, hE.output, hE.tape⟩
    · intro b hb hno
      refine hE.keep b hb (fun y c N hy => ?_)
      obtain ⟨x, c0, hx, hx0, -, -⟩ := hHsome y c hy
      rw [hθL y x hx]
      exact hno x c0 N hx0
    · intro b hb
      rcases hE.imNew b hb with h1 | ⟨y, c, N, hy, hθy⟩ | h1
      · exact .inl h1
      · obtain ⟨x, c0, hx, hx0, -, -⟩ := hHsome y c hy
        rw [hθL y x hx] at hθy
        exact .inr (.inl ⟨x, c0, N, hx0, hθy⟩)
      · exact .inr (.inr h1)
    · intro x c b N hx hb
      rcases hnew x c hx with ⟨y, c0, hyB, rfl, hy0, -, -⟩ | ⟨-, hx0, hxo⟩
      · rw [hθ' y hyB] at hb
        rcases hE.ownNew y c0 b N hy0 hb with ⟨y', c', N', hy', hθy'⟩ | h1
        · obtain ⟨x', c0', hx', hx0', -, -⟩ := hHsome y' c' hy'
          rw [hθL y' x' hx'] at hθy'
          exact .inl ⟨x', c0', N', hx0', hθy'⟩
        · exact .inr h1
      · rw [hθo x hxo] at hb
        exact .inl ⟨x, c, N, hx0, hb⟩
  · exact hz.ren back (fun x hx p hp => by rw [hθ' x (hBv x hx)]; exact hp)
  · have hkeepO : ∀ x c, x ∉ ns → h x = some c → ∀ b N, θ x = some (b, N) → w'.heap[b]? = w.heap[b]? := by
      intro x c hxn hx b N hb
      refine hE.keep b (hr.own x c b N hx hb).2 (fun y c' N' hy hθy => ?_)
      obtain ⟨x', c0', hx', hx0', -, -⟩ := hHsome y c' hy
      rw [hθL y x' hx'] at hθy
      have := hr.inj x x' c c0' b N N' hx hx0' hb hθy
      subst this
      exact hxn (List.mem_of_getElem? hx')
    have hI : ∀ b, Im b → Im' b ∧ w'.heap[b]? = w.heap[b]? := fun b hb => ⟨hE.imUp b hb, hE.keep b (hr.im b hb) (fun y c N hy hθy => by
      obtain ⟨x, c0, hx, hx0, -, -⟩ := hHsome y c hy
      rw [hθL y x hx] at hθy
      exact (hr.own x c0 b N hx0 hθy).1 hb)⟩
    have hownL : ∀ y c0 b N, updF u (HpL.get H) y = some c0 → θL' y = some (b, N) → (∃ x c1 N1, x ∈ ns ∧ h x = some c1 ∧ θ x = some (b, N1)) ∨ w.heap.size ≤ b := by
      intro y c0 b N hy hb
      rcases hE.ownNew y c0 b N hy hb with ⟨y', c', N', hy', hθy'⟩ | h1
      · obtain ⟨x', c0', hx', hx0', -, -⟩ := hHsome y' c' hy'
        rw [hθL y' x' hx'] at hθy'
        exact .inl ⟨x', c0', N', List.mem_of_getElem? hx', hx0', hθy'⟩
      · exact .inr h1
    have hcross : ∀ y c0 b N x c N', updF u (HpL.get H) y = some c0 → θL' y = some (b, N) → x ∉ ns → h x = some c → θ x = some (b, N') → False := by
      intro y c0 b N x c N' hy hb hxn hx hbx
      rcases hownL y c0 b N hy hb with ⟨x1, c1, N1, hx1, hx1h, hb1⟩ | h1
      · have := hr.inj x x1 c c1 b N' N1 hx hx1h hbx hb1
        subst this
        exact hxn hx1
      · have := (hr.own x c b N' hx hbx).2
        omega
    refine ⟨?_, ?_, ?_, hH'.im⟩
    · intro x c hx
      rcases hnew x c hx with ⟨y, c0, hyB, rfl, hy0, rfl, hzB⟩ | ⟨hxn, hx0, hxo⟩
      · exact (hH'.at_ y c0 hy0).ren back (fun z hz p hp => by rw [hθ' z (hzB z hz)]; exact hp) (hθ' y hyB)
      · exact (hr.at_ x c hx0).mono hI hup (hθo x hxo) (hkeepO x c hxn hx0)
    · intro x x' c c' b N N' hx hx' hb hb'
      rcases hnew x c hx with ⟨y, c0, hyB, rfl, hy0, -, -⟩ | ⟨hxn, hx0, hxo⟩
      · rw [hθ' y hyB] at hb
        rcases hnew x' c' hx' with ⟨y', c0', hyB', rfl, hy0', -, -⟩ | ⟨hxn', hx0', hxo'⟩
        · rw [hθ' y' hyB'] at hb'
          rw [hH'.inj y y' c0 c0' b N N' hy0 hy0' hb hb']
        · rw [hθo x' hxo'] at hb'
          exact (hcross y c0 b N x' c' N' hy0 hb hxn' hx0' hb').elim
      · rw [hθo x hxo] at hb
        rcases hnew x' c' hx' with ⟨y', c0', hyB', rfl, hy0', -, -⟩ | ⟨hxn', hx0', hxo'⟩
        · rw [hθ' y' hyB'] at hb'
          exact (hcross y' c0' b N' x c N hy0' hb' hxn hx0 hb).elim
        · rw [hθo x' hxo'] at hb'
          exact hr.inj x x' c c' b N N' hx0 hx0' hb hb'
    · intro x c b N hx hb
      rcases hnew x c hx with ⟨y, c0, hyB, rfl, hy0, -, -⟩ | ⟨hxn, hx0, hxo⟩
      · rw [hθ' y hyB] at hb
        exact hH'.own y c0 b N hy0 hb
      · rw [hθo x hxo] at hb
        have ho := hr.own x c b N hx0 hb
        refine ⟨fun hi => ?_, Nat.lt_of_lt_of_le ho.2 hE.size⟩
        rcases hE.imNew b hi with h1 | ⟨y, c1, N1, hy, hθy⟩ | h1
        · exact ho.1 h1
        · obtain ⟨x', c0', hx', hx0', -, -⟩ := hHsome y c1 hy
          rw [hθL y x' hx'] at hθy
          have := hr.inj x x' c c0' b N N1 hx0 hx0' hb hθy
          subst this
          exact hxn (List.mem_of_getElem? hx')
        · omega

  · intro x c b N hx hb
    rcases hnew x c hx with ⟨y, c0, hyB, rfl, hy0, -, -⟩ | ⟨-, hx0, hxo⟩
    · rw [hθ' y hyB] at hb
      exact .inl ⟨y, c0, hy0, hb⟩
    · rw [hθo x hxo] at hb
      exact .inr ⟨c, hx0, hb⟩
  · intro v' z' hn hz'
    exact hz'.ren back (fun x hx p hp => by rw [hθ' x (hBv x (hn x hx))]; exact hp)

theorem enter_good {κ : Nat → Option CSumm} (hκ : KOk P κ) {w : World} {Im : Nat → Prop} {θ : Th} {h : HpF} (hr : HRel P ω w Im θ h) {g : FuncId} {args : List SV} {us : List Value} (hl : LRel P ω w Im θ args us) {nx nx' : Nat} {r : SV}
    {ups : List (Nat × Option Chunk)} {rs : List Nat} (hm : mrun h (callM κ g args nx) = some (r, ups, nx', rs)) (hfr : ∀ x, nx ≤ x → x < nx' → θ x = none ∧ h x = none) :
    Calls P g us.toArray w fun e w' => ∃ u Im' θ', e = .returned u ∧ Ext (fun x => nx ≤ x ∧ x < nx') h w Im θ (updF ups h) w' Im' θ' ∧ VRel P ω w' Im' θ' r u ∧ HRel P ω w' Im' θ' (updF ups h) := by
  unfold callM at hm
  cases hk : κ g with
  | none => simp [hk, mrun] at hm
  | some s =>
    simp only [hk] at hm
    obtain ⟨args', H, v, u, back, h1, h2, -, -, hsem⟩ := enter_gen (P := P) hm
    obtain ⟨θL, h3, h4, h5, -, h6⟩ := hsem hr hl hfr
    refine (hκ.ok g s hk _ _ v u h1 h2 ω θL Im w us h3 h4 h5).mono ?_
    rintro e w' ⟨z, θL', Im', rfl, hE, hz, hH'⟩
    obtain ⟨θ', g1, g2, g3, -, -⟩ := h6 z w' θL' Im' hE hz hH'
    exact ⟨z, Im', θ', rfl, g1, g2, g3⟩

theorem findMeth_find (name : String) : ∀ l : List Method, findMeth name l = l.find? (·.name == name)
  | [] => rfl
  | m :: l => by
    simp only [findMeth, List.find?_cons]
    cases h : m.name == name
    · simpa using findMeth_find name l
    · rfl
theorem run_methodS {t : TypeId} {name : String} {g : Nat} (h : methodS P t name = some g) (k : Nat) (u : Value) (w : World) : (method (k + 1) t u name).run P w = .ok (g, u) w := by
  unfold methodS at h
  cases hi : P.info? t with
  | none => simp [hi] at h
  | some i =>
    simp only [hi] at h
    rw [findMeth_find] at h
    split at h
    case h_2 => cases h
    rename_i m hm
    split at h
    case h_2 => cases h
    rename_i f p hp hf
    have hm' : i.methods.find? (·.name == name) = some m := by rw [← Array.find?_toList]; exact hm
    have hpe : m.path = #[] := by apply Array.ext'; simpa using hp
    have hti : (typeInfo t).run P w = .ok i w := by simp [typeInfo, hi]
    split at h
    · rename_i e hu
      cases p with
      | false => cases h
      | true =>
        simp only [cond_true, Option.some.injEq] at h
        subst h
        simp [method, hti, hm', hpe, hf, follow, receiverAt, run_underlying hu, Place.get]
    · rename_i d hni hu
      cases p with
      | true => cases h
      | false =>
        simp only [cond_false, Option.some.injEq] at h
        subst h
        cases d <;> first | exact (hni _ rfl).elim | simp [method, hti, hm', hpe, hf, follow, receiverAt, run_underlying hu, Place.get]
    · cases h

theorem run_invoke {t : TypeId} {name : String} {g : Nat} (h : methodS P t name = some g) {fn : Func} (hfn : P.funcs[g]? = some fn) (hn1 : (fn.name == "runtime.NumGoroutine") = false) (hn2 : fn.body.isNone = false) (u : Value) (args : Array Value) (w : World) :
    (invoke (.fn (.method name) #[]) (#[.iface t u] ++ args)).run P w = .ok (.enter g (#[u] ++ args)) w := by
  have h0 : (#[Value.iface t u] ++ args)[0]? = some (.iface t u) := by simp [Array.getElem?_append]
  have hex : (#[Value.iface t u] ++ args).extract 1 (#[Value.iface t u] ++ args).size = args := by
    apply Array.ext'
    simp [List.take_of_length_le]
  have hmr : (method (P.types.size + 100) t u name).run P w = .ok (g, u) w := run_methodS h (P.types.size + 99) u w
  have hn1' : ¬ fn.name = "runtime.NumGoroutine" := by simpa using hn1
  have hn2' : ¬ fn.body = none := by intro hh; simp [hh] at hn2
  simp only [invoke, h0, hex]
  simp [callMethod, Made.depth, hmr, callFunc, hfn, hn1', hn2']

theorem op_good0 {κ : Nat → Option CSumm} (hκ : KOk P κ) {o : Oper} {a : Act} {w : World} {Im : Nat → Prop} {θ : Th} {h : HpF} {ev : Operand → SV} {nx nx' : Nat} {r : SV} {ups : List (Nat × Option Chunk)} {rs : List Nat}
    (hr : HRel P ω w Im θ h) (hev : ∀ x ∈ o.op.operands, VRel P ω w Im θ (ev x) (a.eval x)) (hfr : ∀ x, nx ≤ x → x < nx' → θ x = none ∧ h x = none)
    (hm : mrun h (opM0 P κ o ev nx) = some (r, ups, nx', rs)) : Good P ω o a w Im θ h r ups nx nx' := by
  by_cases hc : ∃ c, o.op = .call c
  · obtain ⟨c, hc⟩ := hc
    obtain ⟨dst, op, type, pos, after, guard⟩ := o
    simp only at hc
    subst hc
    obtain ⟨callee, cargs, argTypes⟩ := c
    simp only [opM0] at hm
    simp only [Op.operands, Call.operands] at hev
    cases callee with
    | invoke r m =>
      simp only [] at hm hev
      have hf := hev r (by simp)
      split at hm
      case h_2 => simp [mrun] at hm
      rename_i t v he
      split at hm
      case h_2 => simp [mrun] at hm
      rename_i g hmeth
      rw [he] at hf
      generalize hu : a.eval r = u at hf
      cases hf with
      | iface hv =>
        rename_i u'
        have hl : LRel P ω w Im θ (v :: cargs.toList.map ev) (u' :: (cargs.map a.eval).toList) := by
          refine ⟨by simp, fun i x y hx hy => ?_⟩
          cases i with
          | zero => cases hx; cases hy; exact hv
          | succ i =>
            simp only [List.getElem?_cons_succ, List.getElem?_map, Array.getElem?_toList, Option.map_eq_some_iff] at hx
            obtain ⟨c, hc, rfl⟩ := hx
            simp only [List.getElem?_cons_succ, Array.toList_map, List.getElem?_map, Array.getElem?_toList, hc, Option.map_some, Option.some.injEq] at hy
            subst hy
            exact hev c (by simp; exact .inr (Array.mem_of_getElem? hc))
        have hcalls := enter_good hκ hr hl hm hfr
        intro ρ K Q hK
        have hs : ∃ s, κ g = some s := by
          unfold callM at hm
          cases hk : κ g with
          | none => simp [hk, mrun] at hm
          | some s => exact ⟨s, rfl⟩
        obtain ⟨s, hs⟩ := hs
        obtain ⟨fn, hfn, hn1, hn2⟩ := hκ.fn g s hs
        have hrun : (execOp a.eval { dst := dst, op := .call { callee := .invoke r m, args := cargs, argTypes := argTypes }, type := type, pos := pos, after := after, guard := guard }).run P w = .ok (.enter g (u' :: (cargs.map a.eval).toList).toArray) w := by
          have e : (u' :: (cargs.map a.eval).toList).toArray = #[u'] ++ cargs.map a.eval := by
            apply Array.ext'
            simp
          rw [e]
          have hn1' : ¬ fn.name = "runtime.NumGoroutine" := by simpa using hn1
          have hn2' : ¬ fn.body = none := by intro hh; simp [hh] at hn2
          have hi := run_invoke hmeth hfn hn1 hn2 u' (cargs.map a.eval) w
          simp only [execOp, resolve, hu, pure_bind]
          exact hi
        refine ⟨fun f _ => FR_fn ρ f, ?_⟩
        rw [Oper.semAt_eq _ _ _ (fun c hc => by cases hc), hrun, Oper.uponIn_enter]
        refine ⟨FR_depth1 ρ, callsIn_FR (hcalls.mono ?_)⟩
        rintro e w' ⟨u, Im', θ', rfl, hE, hv, hH⟩
        exact hK u w' Im' θ' hE hv hH
    | builtin b =>
      simp only [] at hm
      have hargs : LRel P ω w Im θ (cargs.toList.map ev) (cargs.map a.eval).toList := by
        refine ⟨by simp, fun i v u hv hu => ?_⟩
        simp only [List.getElem?_map, Array.getElem?_toList, Option.map_eq_some_iff] at hv
        obtain ⟨c, hc, rfl⟩ := hv
        simp only [Array.toList_map, List.getElem?_map, Array.getElem?_toList, hc, Option.map_some, Option.some.injEq] at hu
        subst hu
        exact hev c (by simp; exact Array.mem_of_getElem? hc)
      unfold builtinS at hm
      split at hm
      · rename_i t ts x xs htys hxs
        have h1 : argTypes[0]? = some t := by
          have := congrArg (·[0]?) htys
          simpa using this
        rw [hxs] at hargs
        have hlen := hargs.len
        cases hus : (cargs.map a.eval).toList with
        | nil => rw [hus] at hlen; simp at hlen
        | cons u us =>
          rw [hus] at hargs
          have h2 : (cargs.map a.eval)[0]? = some u := by
            have := congrArg (·[0]?) hus
            simpa using this
          obtain ⟨v, hv1, hv2, rfl, rfl⟩ := run_len hm (tys := argTypes) (ty := type) h1 h2 (hargs.at_ 0 x u rfl rfl)
          refine good_value hr ?_ hv2
          simp [execOp, resolve, invoke, builtin, hv1]
      · simp [mrun] at hm
    | value f =>
      simp only [] at hm hev
      have hf := hev f (by simp)
      split at hm
      · rename_i g first caps he
        rw [he] at hf
        generalize hu : a.eval f = u at hf
        cases hf with
        | fn h1 h2 h3 h4 =>
          rename_i us vs
          have hl : LRel P ω w Im θ (first ++ (cargs.toList.map ev ++ caps)) (us.toList ++ ((cargs.map a.eval).toList ++ vs.toList)) := by
            refine LRel.append ⟨by simpa using h1, fun i v u hv hu => h3 i v u hv (by simpa using hu)⟩ (LRel.append ⟨by simp, fun i v u hv hu => ?_⟩ ⟨by simpa using h2, fun i v u hv hu => h4 i v u hv (by simpa using hu)⟩)
            simp only [List.getElem?_map, Array.getElem?_toList, Option.map_eq_some_iff] at hv
            obtain ⟨c, hc, rfl⟩ := hv
            simp only [Array.toList_map, List.getElem?_map, Array.getElem?_toList, hc, Option.map_some, Option.some.injEq] at hu
            subst hu
            exact hev c (by simp; exact .inr (Array.mem_of_getElem? hc))
          have hcalls := enter_good hκ hr hl hm hfr
          intro ρ K Q hK
          have hs : ∃ s, κ g = some s := by
            unfold callM at hm
            cases hk : κ g with
            | none => simp [hk, mrun] at hm
            | some s => exact ⟨s, rfl⟩
          obtain ⟨s, hs⟩ := hs
          obtain ⟨fn, hfn, hn1, hn2⟩ := hκ.fn g s hs
          have hrun : (execOp a.eval { dst := dst, op := .call { callee := .value f, args := cargs, argTypes := argTypes }, type := type, pos := pos, after := after, guard := guard }).run P w = .ok (.enter g (us.toList ++ ((cargs.map a.eval).toList ++ vs.toList)).toArray) w := by
            have e : (us.toList ++ ((cargs.map a.eval).toList ++ vs.toList)).toArray = us ++ cargs.map a.eval ++ vs := by
              apply Array.ext'
              simp
            rw [e]
            have hn1' : ¬ fn.name = "runtime.NumGoroutine" := by simpa using hn1
            have hn2' : ¬ fn.body = none := by intro hh; simp [hh] at hn2
            simp [execOp, resolve, hu, Deferred.ofValue, invoke, callFunc, hfn, hn1', hn2']
          refine ⟨fun f _ => FR_fn ρ f, ?_⟩
          rw [Oper.semAt_eq _ _ _ (fun c hc => by cases hc), hrun, Oper.uponIn_enter]
          refine ⟨FR_depth1 ρ, callsIn_FR (hcalls.mono ?_)⟩
          rintro e w' ⟨u, Im', θ', rfl, hE, hv, hH⟩
          exact hK u w' Im' θ' hE hv hH
      · simp [mrun] at hm
  · exact op_plain (fun c e => hc ⟨c, e⟩) hr hev (fun x h1 h2 => (hfr x h1 h2).1) hm


theorem opM_cases {κ : Nat → Option CSumm} {o : Oper} {ev : Operand → SV} {nx : Nat} : opM P κ o ev nx = chkM nx (opX P o.op (o.op.operands.toList.map ev) nx) [] ∨ opM P κ o ev nx = opM0 P κ o ev nx := by
  unfold opM
  split
  · exact .inl rfl
  · exact .inr rfl

theorem op_good {κ : Nat → Option CSumm} (hκ : KOk P κ) {o : Oper} {a : Act} {w : World} {Im : Nat → Prop} {θ : Th} {h : HpF} {ev : Operand → SV} {nx nx' : Nat} {r : SV} {ups : List (Nat × Option Chunk)} {rs : List Nat}
    (hr : HRel P ω w Im θ h) (hev : ∀ x ∈ o.op.operands, VRel P ω w Im θ (ev x) (a.eval x)) (hfr : ∀ x, nx ≤ x → x < nx' → θ x = none ∧ h x = none)
    (hm : mrun h (opM P κ o ev nx) = some (r, ups, nx', rs)) : Good P ω o a w Im θ h r ups nx nx' := by
  rcases opM_cases (P := P) (κ := κ) (o := o) (ev := ev) (nx := nx) with hc | hc <;> rw [hc] at hm
  · exact opX_good hr hev hfr (chkM_run hm).1
  · exact op_good0 hκ hr hev hfr hm
end Go.Am
