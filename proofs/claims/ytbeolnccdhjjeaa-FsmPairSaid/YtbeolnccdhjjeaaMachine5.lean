/- The abstract machine: a call, by what is known of the callee. -/
import Derived.Test.YtbeolnccdhjjeaaMachine4
import Derived.Orders
import Derived.OrdersIn
set_option linter.unusedVariables false
set_option linter.unusedSimpArgs false
namespace Go.Am
variable {P : Program} {ω : Nat → Value}
def Canon (H : HpL) : Prop := ∀ (i : Nat) p, H[i]? = some p → p.1 = i
def ValidC (P : Program) (f : FuncId) (s : CSumm) : Prop :=
 ∀ (args : List SV) (H : HpL) v ups, crun (s args H) = some (v, ups) → Canon H → ∀ (ω : Nat → Value) (θ : Th) (Im : Nat → Prop) (w : World) (us : List Value),
  LRel P ω w Im θ args us → HRel P ω w Im θ H.get → (∀ x, H.length ≤ x → θ x = none) →
  Calls P f us.toArray w fun e w' => ∃ u θ' Im', e = .returned u ∧ Ext (fun x => H.length ≤ x) H.get w Im θ (updF ups H.get) w' Im' θ' ∧ VRel P ω w' Im' θ' v u ∧ HRel P ω w' Im' θ' (updF ups H.get)
theorem namesS_mem {v : SV} {vs : List SV} (h : v ∈ vs) : ∀ x ∈ namesS v, x ∈ namesL vs := by
 induction vs with
 | nil => cases h
 | cons w vs ih =>
  intro x hx
  simp only [namesL, List.mem_append]
  rcases List.mem_cons.1 h with rfl | h
  · exact .inl hx
  · exact .inr (ih h x hx)
theorem renL_eq (f : Nat → Nat) (vs : List SV) : renL f vs = vs.map (renS f) := by
 induction vs with
 | nil => rfl
 | cons v vs ih => simp [renL, ih]
theorem VRel.ren {w : World} {Im : Nat → Prop} {θ : Th} {v : SV} {u : Value} (h : VRel P ω w Im θ v u) : ∀ {θ2 : Th} (f : Nat → Nat), (∀ x ∈ namesS v, ∀ p, θ x = some p → θ2 (f x) = some p) → VRel P ω w Im θ2 (renS f v) u := by
 have lst : ∀ {ω : Nat → Value} {θ θ2 : Th} (f : Nat → Nat) (cs : List SV) (us : Array Value),
   (∀ (i : Nat) (v : SV) (u : Value), cs[i]? = some v → us[i]? = some u → ∀ {θ2 : Th} (f : Nat → Nat), (∀ x ∈ namesS v, ∀ p, θ x = some p → θ2 (f x) = some p) → VRel P ω w Im θ2 (renS f v) u) →
   (∀ x ∈ namesL cs, ∀ p, θ x = some p → θ2 (f x) = some p) → ∀ (i : Nat) (v : SV) (u : Value), (renL f cs)[i]? = some v → us[i]? = some u → VRel P ω w Im θ2 v u := by
  intro ω θ θ2 f cs us ih hn i v u hv hu
  rw [renL_eq, List.getElem?_map, Option.map_eq_some_iff] at hv
  obtain ⟨c, hc, rfl⟩ := hv
  exact ih i c u hc hu f (fun x hx => hn x (namesS_mem (List.mem_of_getElem? hc) x hx))
 induction h with
 | junk => intro _ f _; exact .junk
 | opq => intro _ f _; exact .opq
 | pnn h _ => intro _ f _; exact .pnn (by cases h with | psl us h1 h0 h2 h3 h4 => exact .psl us h1 h0 h2 h3 h4)
 | emp => intro _ f _; exact .emp
 | qs h1 h2 h3 => intro _ f hn; exact .qs (hn _ (by simp [namesS]) _ h1) h2 h3
 | qsnil h => intro _ f _; exact .qsnil h
 | qp h => intro _ f hn; exact .qp (hn _ (by simp [namesS]) _ h)
 | qo h1 h2 => intro _ f hn; exact .qo (hn _ (by simp [namesS]) _ h1) h2
 | qonil h => intro _ f hn; exact .qonil h
 | qop h => intro _ f hn; exact .qop (hn _ (by simp [namesS]) _ h)
 | bool => intro _ f _; exact .bool
 | int => intro _ f _; exact .int
 | str h => intro _ f _; exact .str h
 | ptr h => intro _ f hn; exact .ptr (hn _ (by simp [namesS]) _ h)
 | nilp => intro _ f _; exact .nilp
 | pel h1 h2 h3 _ => intro _ f _; exact .pel h1 h2 h3
 | sl h1 h2 h3 => intro _ f hn; exact .sl (hn _ (by simp [namesS]) _ h1) h2 h3
 | slnil => intro _ f _; exact .slnil
 | nils => intro _ f _; exact .nils
 | psl us h1 h0 h2 h3 h4 _ => intro _ f _; exact .psl us h1 h0 h2 h3 h4
 | mp h => intro _ f hn; exact .mp (hn _ (by simp [namesS]) _ h)
 | nilm => intro _ f _; exact .nilm
 | yl h => intro _ f hn; exact .yl (hn _ (by simp [namesS]) _ h)
 | fn h1 h2 _ _ ih1 ih2 =>
  intro θ2 f hn
  simp only [namesS, List.mem_append] at hn
  simp only [renS]
  exact .fn (by rw [renL_eq]; simpa using h1) (by rw [renL_eq]; simpa using h2) (lst f _ _ ih1 (fun x hx => hn x (.inl hx))) (lst f _ _ ih2 (fun x hx => hn x (.inr hx)))
 | nilf => intro _ f _; exact .nilf
 | gp => intro _ f _; exact .gp
 | iface _ ih => intro _ f hn; simp only [renS]; exact .iface (ih f (by simpa [namesS] using hn))
 | nili => intro _ f _; exact .nili
 | agg h1 _ ih =>
  intro θ2 f hn
  simp only [renS]
  exact .agg (by rw [renL_eq]; simpa using h1) (lst f _ _ ih (by simpa [namesS] using hn))
 | tup h1 _ ih =>
  intro θ2 f hn
  simp only [renS]
  exact .tup (by rw [renL_eq]; simpa using h1) (lst f _ _ ih (by simpa [namesS] using hn))
theorem LRel.ren {w : World} {Im : Nat → Prop} {θ θ2 : Th} {cs : List SV} {us : List Value} (h : LRel P ω w Im θ cs us) (f : Nat → Nat) (hn : ∀ x ∈ namesL cs, ∀ p, θ x = some p → θ2 (f x) = some p) : LRel P ω w Im θ2 (renL f cs) us := by
 refine ⟨by rw [renL_eq]; simpa using h.len, fun i v u hv hu => ?_⟩
 rw [renL_eq, List.getElem?_map, Option.map_eq_some_iff] at hv
 obtain ⟨c, hc, rfl⟩ := hv
 exact (h.at_ i c u hc hu).ren f (fun x hx => hn x (namesS_mem (List.mem_of_getElem? hc) x hx))
theorem namesL_keysB (kd : IntKind) : ∀ kvs : List (Int × Bool), namesL (keysB kd kvs) = []
 | [] => rfl
 | _ :: l => namesL_keysB kd l
theorem namesL_valsB : ∀ kvs : List (Int × Bool), namesL (valsB kvs) = []
 | [] => rfl
 | _ :: l => namesL_valsB l
theorem renL_keysB (f : Nat → Nat) (kd : IntKind) : ∀ kvs : List (Int × Bool), renL f (keysB kd kvs) = keysB kd kvs
 | [] => rfl
 | p :: l => by show _ :: renL f (keysB kd l) = _ :: keysB kd l; rw [renL_keysB f kd l]; rfl
theorem renL_valsB (f : Nat → Nat) : ∀ kvs : List (Int × Bool), renL f (valsB kvs) = valsB kvs
 | [] => rfl
 | p :: l => by show _ :: renL f (valsB l) = _ :: valsB l; rw [renL_valsB f l]; rfl
theorem CRel.ren {w : World} {Im : Nat → Prop} {θ θ2 : Th} {x : Nat} {c : Chunk} (h : CRel P ω w Im θ x c) (f : Nat → Nat) (hn : ∀ x ∈ namesC c, ∀ p, θ x = some p → θ2 (f x) = some p) {y : Nat} (hy : θ2 y = θ x) : CRel P ω w Im θ2 y (renC f c) := by
 cases c with
 | cells T vs =>
  obtain ⟨b, cs, fr, h1, h2, h3, h4⟩ := h
  exact ⟨b, cs, fr, by rw [hy, h1, renL_eq]; simp, h2, h3, h4.ren f hn⟩
 | seq e es =>
  rcases h with ⟨h1, h2⟩ | ⟨b, N, cs, T, fr, us, h1, h2⟩
  · exact .inl ⟨h1, by rw [hy]; exact h2⟩
  · exact .inr ⟨b, N, cs, T, fr, us, by rw [hy]; exact h1, h2⟩
 | loopr st vs ps asg bdy =>
  obtain ⟨b, N, lp, h1, h2, h3, h4, h5, h6, h7⟩ := h
  exact ⟨b, N, lp, by rw [hy]; exact h1, h2, h3, h4, h5, h6, h7.ren f hn⟩
 | mpc ks vs =>
  obtain ⟨b, N, es, cl, h1, h2, h3, h4, h5⟩ := h
  exact ⟨b, N, es, cl, by rw [hy]; exact h1, h2, h3.ren f (fun x hx => hn x (List.mem_append.2 (.inl hx))), h4.ren f (fun x hx => hn x (List.mem_append.2 (.inr hx))), h5⟩
 | mpn bs cl ks vs =>
  obtain ⟨b, N, es, h1, h2, h3, h4, h5⟩ := h
  exact ⟨b, N, es, by rw [hy]; exact h1, h2, h3.ren f (fun x hx => hn x (List.mem_append.2 (.inl hx))), h4.ren f (fun x hx => hn x (List.mem_append.2 (.inr hx))), h5⟩
 | sqo e es =>
  obtain ⟨b, off, cap, cs, fr, us, h1, h2⟩ := h
  exact ⟨b, off, cap, cs, fr, us, by rw [hy]; exact h1, h2⟩
 | mit z since seen last =>
  obtain ⟨b, N, zb, zN, h1, h2, h3⟩ := h
  exact ⟨b, N, zb, zN, by rw [hy]; exact h1, hn z (by simp [namesC]) _ h2, h3⟩
 | mpb kd kvs =>
  obtain ⟨b, N, es, cl, h1, h2, h3, h4, h5⟩ := h
  have e1 : ∀ x ∈ namesL (keysB kd kvs), ∀ p, θ x = some p → θ2 (f x) = some p := fun x hx => by rw [namesL_keysB] at hx; cases hx
  have e2 : ∀ x ∈ namesL (valsB kvs), ∀ p, θ x = some p → θ2 (f x) = some p := fun x hx => by rw [namesL_valsB] at hx; cases hx
  have g3 := h3.ren f e1
  have g4 := h4.ren f e2
  rw [renL_keysB] at g3
  rw [renL_valsB] at g4
  exact ⟨b, N, es, cl, by rw [hy]; exact h1, h2, g3, g4, h5⟩
mutual
theorem renS_id (f g : Nat → Nat) : ∀ (v : SV), (∀ x ∈ namesS v, g (f x) = x) → renS g (renS f v) = v
 | .ptr x o, h => by simp only [renS]; rw [h x (by simp [namesS])]
 | .sl x sz o l, h => by simp only [renS]; rw [h x (by simp [namesS])]
 | .qs x sz o l, h => by simp only [renS]; rw [h x (by simp [namesS])]
 | .qp x sz o l, h => by simp only [renS]; rw [h x (by simp [namesS])]
 | .qo x sz o, h => by simp only [renS]; rw [h x (by simp [namesS])]
 | .qop x sz o l, h => by simp only [renS]; rw [h x (by simp [namesS])]
 | .mp x, h => by simp only [renS]; rw [h x (by simp [namesS])]
 | .yl x, h => by simp only [renS]; rw [h x (by simp [namesS])]
 | .fn k a b, h => by
  simp only [namesS, List.mem_append] at h
  simp only [renS]
  rw [renL_id f g a (fun x hx => h x (.inl hx)), renL_id f g b (fun x hx => h x (.inr hx))]
 | .iface t v, h => by simp only [renS]; rw [renS_id f g v (by simpa [namesS] using h)]
 | .agg cs, h => by simp only [renS]; rw [renL_id f g cs (by simpa [namesS] using h)]
 | .tup cs, h => by simp only [renS]; rw [renL_id f g cs (by simpa [namesS] using h)]
 | .junk, _ | .pnn _ _, _ | .opq _, _ | .emp, _ | .bool _, _ | .int _ _, _ | .str _, _ | .nilp, _ | .pel _ _, _ | .nils, _ | .psl _ _, _ | .nilm, _ | .nilf, _ | .nili, _ | .gp _ _, _ => rfl
theorem renL_id (f g : Nat → Nat) : ∀ (vs : List SV), (∀ x ∈ namesL vs, g (f x) = x) → renL g (renL f vs) = vs
 | [], _ => rfl
 | v :: vs, h => by
  simp only [namesL, List.mem_append] at h
  simp only [renL]
  rw [renS_id f g v (fun x hx => h x (.inl hx)), renL_id f g vs (fun x hx => h x (.inr hx))]
end
mutual
theorem namesS_ren (f : Nat → Nat) (z : Nat) : ∀ (v : SV), z ∈ namesS (renS f v) → ∃ y ∈ namesS v, z = f y
 | .ptr x o, h => ⟨x, by simp [namesS], by simpa [renS, namesS] using h⟩
 | .sl x sz o l, h => ⟨x, by simp [namesS], by simpa [renS, namesS] using h⟩
 | .qs x sz o l, h => ⟨x, by simp [namesS], by simpa [renS, namesS] using h⟩
 | .qp x sz o l, h => ⟨x, by simp [namesS], by simpa [renS, namesS] using h⟩
 | .qo x sz o, h => ⟨x, by simp [namesS], by simpa [renS, namesS] using h⟩
 | .qop x sz o l, h => ⟨x, by simp [namesS], by simpa [renS, namesS] using h⟩
 | .mp x, h => ⟨x, by simp [namesS], by simpa [renS, namesS] using h⟩
 | .yl x, h => ⟨x, by simp [namesS], by simpa [renS, namesS] using h⟩
 | .fn k a b, h => by
  simp only [renS, namesS, List.mem_append] at h
  rcases h with h | h
  · obtain ⟨y, hy, e⟩ := namesL_ren f z a h
    exact ⟨y, by simp only [namesS, List.mem_append]; exact .inl hy, e⟩
  · obtain ⟨y, hy, e⟩ := namesL_ren f z b h
    exact ⟨y, by simp only [namesS, List.mem_append]; exact .inr hy, e⟩
 | .iface t v, h => by
  obtain ⟨y, hy, e⟩ := namesS_ren f z v (by simpa [renS, namesS] using h)
  exact ⟨y, by simpa [namesS] using hy, e⟩
 | .agg cs, h => by
  obtain ⟨y, hy, e⟩ := namesL_ren f z cs (by simpa [renS, namesS] using h)
  exact ⟨y, by simpa [namesS] using hy, e⟩
 | .tup cs, h => by
  obtain ⟨y, hy, e⟩ := namesL_ren f z cs (by simpa [renS, namesS] using h)
  exact ⟨y, by simpa [namesS] using hy, e⟩
 | .junk, h | .pnn _ _, h | .opq _, h | .emp, h | .bool _, h | .int _ _, h | .str _, h | .nilp, h | .pel _ _, h | .nils, h | .psl _ _, h | .nilm, h | .nilf, h | .nili, h => by simp [renS, namesS] at h
theorem namesL_ren (f : Nat → Nat) (z : Nat) : ∀ (vs : List SV), z ∈ namesL (renL f vs) → ∃ y ∈ namesL vs, z = f y
 | [], h => by simp [renL, namesL] at h
 | v :: vs, h => by
  simp only [renL, namesL, List.mem_append] at h
  rcases h with h | h
  · obtain ⟨y, hy, e⟩ := namesS_ren f z v h
    exact ⟨y, by simp only [namesL, List.mem_append]; exact .inl hy, e⟩
  · obtain ⟨y, hy, e⟩ := namesL_ren f z vs h
    exact ⟨y, by simp only [namesL, List.mem_append]; exact .inr hy, e⟩
end
theorem renC_id (f g : Nat → Nat) (c : Chunk) (h : ∀ x ∈ namesC c, g (f x) = x) : renC g (renC f c) = c := by
 cases c with
 | cells T vs => simp only [renC]; rw [renL_id f g vs h]
 | seq e es => rfl
 | loopr st vs ps asg bdy => simp only [renC]; rw [renL_id f g vs h]
 | mpc ks vs => simp only [renC]; rw [renL_id f g ks (fun x hx => h x (List.mem_append.2 (.inl hx))), renL_id f g vs (fun x hx => h x (List.mem_append.2 (.inr hx)))]
 | mpb kd kvs => rfl
 | mpn bs cl ks vs => simp only [renC]; rw [renL_id f g ks (fun x hx => h x (List.mem_append.2 (.inl hx))), renL_id f g vs (fun x hx => h x (List.mem_append.2 (.inr hx)))]
 | mit z since seen last => simp only [renC]; rw [h z (by simp [namesC])]
 | sqo e es => rfl
theorem memN_iff : ∀ (x : Nat) (l : List Nat), memN x l = true ↔ x ∈ l
 | x, [] => by simp [memN]
 | x, y :: l => by
  have ih := memN_iff x l
  simp only [memN, Bool.or_eq_true, List.mem_cons, ih]
  constructor
  · rintro (h | h)
    · exact .inl (Nat.eq_of_beq_eq_true h)
    · exact .inr h
  · rintro (h | h)
    · exact .inl (nb_t h)
    · exact .inr h
theorem idxN_spec : ∀ (l : List Nat) (x : Nat), x ∈ l → idxN l x < l.length ∧ l[idxN l x]? = some x
 | [], _, h => by cases h
 | y :: l, x, h => by
  simp only [idxN]
  by_cases e : y = x
  · subst e; rw [nb_t rfl]; simp
  · rw [nb_f e]
    have hx : x ∈ l := by rcases List.mem_cons.1 h with h | h; exact absurd h.symm e; exact h
    have := idxN_spec l x hx
    simp only [cond_false, List.length_cons, List.getElem?_cons_succ]
    exact ⟨by omega, this.2⟩
theorem idxN_at {l : List Nat} (hd : l.Nodup) {i : Nat} {x : Nat} (h : l[i]? = some x) : idxN l x = i := by
 have hm := List.mem_of_getElem? h
 have := idxN_spec l x hm
 have hi : i < l.length := by
  rcases Nat.lt_or_ge i l.length with h1 | h1
  · exact h1
  · simp [List.getElem?_eq_none h1] at h
 have e1 : l[idxN l x]'this.1 = x := (List.getElem?_eq_some_iff.1 this.2).2
 have e2 : l[i] = x := (List.getElem?_eq_some_iff.1 h).2
 exact (List.getElem_inj hd).1 (e1.trans e2.symm)
/- The blocks that a call is handed. -/
structure Closed (h : HpF) (acc : HpL) : Prop where
 at_ : ∀ p ∈ acc, h p.1 = some p.2
 nodup : (acc.map (·.1)).Nodup
theorem closeM_spec {h : HpF} {k : HpL → OpM} {r : SV} {ups : List (Nat × Option Chunk)} {nx' : Nat} : ∀ (d : Nat) (todo : List Nat) (acc : HpL) (rs : List Nat), mrun h (closeM k d todo acc) = some (r, ups, nx', rs) → Closed h acc →
  (∀ p ∈ acc, ∀ x ∈ namesC p.2, x ∈ acc.map (·.1) ∨ x ∈ todo) →
  ∃ acc' rs1 rs2, Closed h acc' ∧ (∀ p ∈ acc', ∀ x ∈ namesC p.2, x ∈ acc'.map (·.1)) ∧ (∀ x ∈ todo, x ∈ acc'.map (·.1)) ∧ (∀ x ∈ acc.map (·.1), x ∈ acc'.map (·.1)) ∧
   (∀ x, x ∈ acc'.map (·.1) → x ∈ acc.map (·.1) ∨ x ∈ rs1) ∧ mrun h (k acc') = some (r, ups, nx', rs2) ∧ rs = rs1 ++ rs2
 | 0, _, _, rs, hm, _, _ => by simp [closeM, mrun] at hm
 | d + 1, [], acc, rs, hm, hc, hn => by
  simp only [closeM] at hm
  refine ⟨acc, [], rs, hc, ?_, ?_, fun _ h => h, fun x hx => .inl hx, hm, rfl⟩
  · intro p hp x hx
    rcases hn p hp x hx with h1 | h1
    · exact h1
    · cases h1
  · intro x hx; cases hx
 | d + 1, x :: todo, acc, rs, hm, hc, hn => by
  simp only [closeM] at hm
  cases hmem : memN x (acc.map (·.1)) with
  | true =>
   rw [hmem] at hm
   simp only [cond_true] at hm
   have hxa := (memN_iff _ _).1 hmem
   obtain ⟨acc', rs1, rs2, g1, g2, g3, g0, g4, g5, g6⟩ := closeM_spec d todo acc rs hm hc (by
    intro p hp y hy
    rcases hn p hp y hy with h1 | h1
    · exact .inl h1
    · rcases List.mem_cons.1 h1 with rfl | h1
      · exact .inl hxa
      · exact .inr h1)
   refine ⟨acc', rs1, rs2, g1, g2, ?_, g0, g4, g5, g6⟩
   intro y hy
   rcases List.mem_cons.1 hy with rfl | hy
   · exact g0 _ hxa
   · exact g3 y hy
  | false =>
   rw [hmem] at hm
   simp only [cond_false, mrun] at hm
   have hxa : x ∉ acc.map (·.1) := fun hh => by rw [(memN_iff _ _).2 hh] at hmem; cases hmem
   cases hx : h x with
   | none => simp [hx] at hm
   | some c =>
    simp only [hx] at hm
    cases hr : mrun h (closeM k d (namesC c ++ todo) ((x, c) :: acc)) with
    | none => simp [hr] at hm
    | some q =>
     obtain ⟨r0, ups0, nx0, rs0⟩ := q
     simp only [hr, Option.some.injEq, Prod.mk.injEq] at hm
     obtain ⟨rfl, rfl, rfl, rfl⟩ := hm
     have hc' : Closed h ((x, c) :: acc) := by
      refine ⟨?_, ?_⟩
      · intro p hp
        rcases List.mem_cons.1 hp with rfl | hp
        · exact hx
        · exact hc.at_ p hp
      · simp only [List.map_cons, List.nodup_cons]; exact ⟨hxa, hc.nodup⟩
     obtain ⟨acc', rs1, rs2, g1, g2, g3, g0, g4, g5, g6⟩ := closeM_spec d (namesC c ++ todo) ((x, c) :: acc) rs0 hr hc' (by
       intro p hp y hy
       rcases List.mem_cons.1 hp with rfl | hp
       · exact .inr (List.mem_append.2 (.inl hy))
       · rcases hn p hp y hy with h1 | h1
         · exact .inl (by simp only [List.map_cons, List.mem_cons]; exact .inr h1)
         · rcases List.mem_cons.1 h1 with rfl | h1
           · exact .inl (by simp)
           · exact .inr (List.mem_append.2 (.inr h1)))
     refine ⟨acc', x :: rs1, rs2, g1, g2, ?_, ?_, ?_, g5, by rw [g6]; rfl⟩
     · intro y hy
       rcases List.mem_cons.1 hy with rfl | hy
       · exact g0 _ (by simp)
       · exact g3 y (List.mem_append.2 (.inr hy))
     · intro y hy
       exact g0 y (by simp only [List.map_cons, List.mem_cons]; exact .inr hy)
     · intro y hy
       rcases g4 y hy with h1 | h1
       · simp only [List.map_cons, List.mem_cons] at h1
         rcases h1 with rfl | h1
         · exact .inr (by simp)
         · exact .inl h1
       · exact .inr (List.mem_cons.2 (.inr h1))
theorem locHeap_len (f : Nat → Nat) : ∀ (l : HpL) (i : Nat), (locHeap f l i).length = l.length
 | [], _ => rfl
 | _ :: l, i => by simp [locHeap, locHeap_len f l (i + 1)]
theorem locHeap_at (f : Nat → Nat) : ∀ (l : HpL) (i j : Nat), (locHeap f l i)[j]? = (l[j]?).map fun p => (i + j, renC f p.2)
 | [], _, _ => by simp [locHeap]
 | (x, c) :: l, i, 0 => by simp [locHeap]
 | (x, c) :: l, i, j + 1 => by
  simp only [locHeap, List.getElem?_cons_succ]
  rw [locHeap_at f l (i + 1) j]
  congr 1
  funext p
  simp; omega
theorem locHeap_get (f : Nat → Nat) : ∀ (l : HpL) (i y : Nat), HpL.get (locHeap f l i) (i + y) = (l[y]?).map fun p => renC f p.2
 | [], _, _ => by simp [locHeap, HpL.get]
 | (x, c) :: l, i, 0 => by simp [locHeap, HpL.get]
 | (x, c) :: l, i, y + 1 => by
  have h : ¬ i = i + (y + 1) := by omega
  simp only [locHeap, HpL.get, nb_f h, cond_false, List.getElem?_cons_succ]
  have := locHeap_get f l (i + 1) y
  rw [show i + 1 + y = i + (y + 1) by omega] at this
  exact this
theorem updF_not {x : Nat} : ∀ {l : List (Nat × Option Chunk)} {h : HpF}, x ∉ l.map (·.1) → updF l h x = h x
 | [], _, _ => rfl
 | (y, c) :: l, h, hx => by
  simp only [List.map_cons, List.mem_cons, not_or] at hx
  simp only [updF]
  rw [updF_not hx.2]
  simp [hx.1]
theorem backUps_keys (f : Nat → Nat) : ∀ (l : List (Nat × Option Chunk)), (backUps f l).map (·.1) = l.map (fun p => f p.1)
 | [] => rfl
 | (y, some c) :: l => by simp [backUps, backUps_keys f l]
 | (y, none) :: l => by simp [backUps, backUps_keys f l]
theorem updF_back {f : Nat → Nat} {B : Nat} (hinj : ∀ x y, x < B → y < B → f x = f y → x = y) : ∀ (l : List (Nat × Option Chunk)) (h h' : HpF) (y : Nat), (∀ p ∈ l, p.1 < B) → y ∈ l.map (·.1) →
  updF (backUps f l) h' (f y) = (updF l h y).map (renC f)
 | [], _, _, _, _, hy => by cases hy
 | (x, c) :: l, h, h', y, hB, hy => by
  have hxB := hB (x, c) (by simp)
  have hlB : ∀ p ∈ l, p.1 < B := fun p hp => hB p (by simp [hp])
  have hb : ∀ (h' : HpF), updF (backUps f ((x, c) :: l)) h' = updF (backUps f l) (fun z => if z = f x then c.map (renC f) else h' z) := by
   intro h'; cases c <;> rfl
  rw [hb]
  simp only [updF]
  by_cases hyl : y ∈ l.map (·.1)
  · exact updF_back hinj l _ _ y hlB hyl
  · have hyx : y = x := by
      simp only [List.map_cons, List.mem_cons] at hy
      rcases hy with h1 | h1
      · exact h1
      · exact absurd h1 hyl
    subst hyx
    rw [updF_not hyl]
    have : f y ∉ (backUps f l).map (·.1) := by
     rw [backUps_keys]
     intro hh
     obtain ⟨p, hp, he⟩ := List.mem_map.1 hh
     have := hinj _ _ (hlB p hp) hxB he
     exact hyl (List.mem_map.2 ⟨p, hp, this⟩)
    rw [updF_not this]
    simp
theorem boundN_ge : ∀ (l : List Nat) (n : Nat), n ≤ boundN l n
 | [], _ => Nat.le_refl _
 | y :: l, n => by
  simp only [boundN]
  have := boundN_ge l (bif Nat.blt n (y + 1) then y + 1 else n)
  cases h : Nat.blt n (y + 1) with
  | true =>
   have h1 : n < y + 1 := by rw [Nat.blt_eq] at h; exact h
   rw [h] at this
   simp only [cond_true] at this ⊢
   omega
  | false => rw [h] at this; simpa using this
theorem boundN_mem : ∀ (l : List Nat) (n : Nat), ∀ y ∈ l, y < boundN l n
 | [], _, _, h => by cases h
 | z :: l, n, y, h => by
  simp only [boundN]
  rcases List.mem_cons.1 h with rfl | h
  · have := boundN_ge l (bif Nat.blt n (y + 1) then y + 1 else n)
    cases hb : Nat.blt n (y + 1) with
    | true => rw [hb] at this; simp only [cond_true] at this ⊢; omega
    | false =>
     have h1 : ¬ n < y + 1 := by intro hh; rw [← Nat.blt_eq] at hh; rw [hh] at hb; cases hb
     rw [hb] at this; simp only [cond_false] at this ⊢; omega
  · exact boundN_mem l _ y h
theorem namesU_key : ∀ {l : List (Nat × Option Chunk)} {p}, p ∈ l → p.1 ∈ namesU l
 | (y, some c) :: l, p, h => by
  simp only [namesU, List.mem_cons, List.mem_append]
  rcases List.mem_cons.1 h with rfl | h
  · exact .inl rfl
  · exact .inr (.inr (namesU_key h))
 | (y, none) :: l, p, h => by
  simp only [namesU, List.mem_cons]
  rcases List.mem_cons.1 h with rfl | h
  · exact .inl rfl
  · exact .inr (namesU_key h)
theorem namesU_chunk : ∀ {l : List (Nat × Option Chunk)} {y c}, (y, some c) ∈ l → ∀ x ∈ namesC c, x ∈ namesU l
 | (z, some d) :: l, y, c, h, x, hx => by
  simp only [namesU, List.mem_cons, List.mem_append]
  rcases List.mem_cons.1 h with e | h
  · cases e; exact .inr (.inl hx)
  · exact .inr (.inr (namesU_chunk h x hx))
 | (z, none) :: l, y, c, h, x, hx => by
  simp only [namesU, List.mem_cons]
  rcases List.mem_cons.1 h with e | h
  · cases e
  · exact .inr (namesU_chunk h x hx)
theorem updF_mem : ∀ {l : List (Nat × Option Chunk)} {h : HpF} {y : Nat} {c : Chunk}, updF l h y = some c → (y, some c) ∈ l ∨ (y ∉ l.map (·.1) ∧ h y = some c)
 | [], _, _, _, e => .inr ⟨by simp, e⟩
 | (x, d) :: l, h, y, c, e => by
  simp only [updF] at e
  rcases updF_mem e with h1 | ⟨h1, h2⟩
  · exact .inl (by simp [h1])
  · by_cases hyx : y = x
    · subst hyx
      simp at h2
      subst h2
      exact .inl (by simp)
    · simp [hyx] at h2
      refine .inr ⟨?_, h2⟩
      simp only [List.map_cons, List.mem_cons, not_or]
      exact ⟨hyx, h1⟩
theorem updF_key {l : List (Nat × Option Chunk)} {h h' : HpF} {y : Nat} (hy : y ∈ l.map (·.1)) : updF l h y = updF l h' y := by
 induction l generalizing h h' with
 | nil => cases hy
 | cons p l ih =>
  obtain ⟨x, c⟩ := p
  simp only [updF]
  by_cases hyl : y ∈ l.map (·.1)
  · exact ih hyl
  · rw [updF_not hyl, updF_not hyl]
    simp only [List.map_cons, List.mem_cons] at hy
    rcases hy with rfl | hy
    · simp
    · exact absurd hy hyl
theorem ofCTree_run {h : HpF} {ns : List Nat} {m nx nx' : Nat} {r : SV} {ups : List (Nat × Option Chunk)} {rs : List Nat} : ∀ (t : CTree), mrun h (ofCTree ns m nx t) = some (r, ups, nx', rs) →
  ∃ v u, crun t = some (v, u) ∧ r = renS (backName ns m nx) v ∧ ups = backUps (backName ns m nx) u ∧ nx' = nx + (boundN (namesS v ++ namesU u) m - m)
 | .ret v u, hm => by
  simp only [ofCTree, mrun, Option.some.injEq, Prod.mk.injEq] at hm
  exact ⟨v, u, rfl, hm.1.symm, hm.2.1.symm, hm.2.2.1.symm⟩
 | .ite b t e, hm => by
  simp only [ofCTree, mrun] at hm
  cases b
  · simp only [Bool.false_eq_true, if_false] at hm
    obtain ⟨v, u, h1, h2⟩ := ofCTree_run e hm
    exact ⟨v, u, by simpa [crun] using h1, h2⟩
  · simp only [if_true] at hm
    obtain ⟨v, u, h1, h2⟩ := ofCTree_run t hm
    exact ⟨v, u, by simpa [crun] using h1, h2⟩
 | .fail, hm => by simp [ofCTree, mrun] at hm
structure KOk (P : Program) (κ : Nat → Option CSumm) : Prop where
 fn : ∀ f s, κ f = some s → ∃ fn, P.funcs[f]? = some fn ∧ (fn.name == "runtime.NumGoroutine") = false ∧ fn.body.isNone = false
 ok : ∀ f s, κ f = some s → ValidC P f s
theorem enter_gen {s : CSumm} {h : HpF} {args : List SV} {nx nx' : Nat} {r : SV}
  {ups : List (Nat × Option Chunk)} {rs : List Nat} (hm : mrun h (callS s args nx) = some (r, ups, nx', rs)) :
  ∃ (args' : List SV) (H : HpL) (v : SV) (u : List (Nat × Option Chunk)) (back : Nat → Nat), crun (s args' H) = some (v, u) ∧ Canon H ∧ args'.length = args.length ∧ r = renS back v ∧
   ∀ {ω : Nat → Value} {w : World} {Im : Nat → Prop} {θ : Th} (_ : HRel P ω w Im θ h) {us : List Value} (_ : LRel P ω w Im θ args us) (_ : ∀ x, nx ≤ x → x < nx' → θ x = none ∧ h x = none),
   ∃ θL : Th, LRel P ω w Im θL args' us ∧ HRel P ω w Im θL H.get ∧ (∀ x, H.length ≤ x → θL x = none) ∧
   (∀ y c b N, H.get y = some c → θL y = some (b, N) → ∃ x c0, h x = some c0 ∧ θ x = some (b, N)) ∧
   ∀ (z : Value) (w' : World) (θL' : Th) (Im' : Nat → Prop), Ext (fun x => H.length ≤ x) H.get w Im θL (updF u H.get) w' Im' θL' → VRel P ω w' Im' θL' v z → HRel P ω w' Im' θL' (updF u H.get) →
    ∃ θ', Ext (fun x => nx ≤ x ∧ x < nx') h w Im θ (updF ups h) w' Im' θ' ∧ VRel P ω w' Im' θ' r z ∧ HRel P ω w' Im' θ' (updF ups h) ∧
     (∀ x c b N, updF ups h x = some c → θ' x = some (b, N) → (∃ y c0, updF u H.get y = some c0 ∧ θL' y = some (b, N)) ∨ ∃ c0, h x = some c0 ∧ θ x = some (b, N)) ∧
     ∀ (v' : SV) (z' : Value), (∀ x ∈ namesS v', x ∈ namesS v) → VRel P ω w' Im' θL' v' z' → VRel P ω w' Im' θ' (renS back v') z' := by
 unfold callS at hm
 dsimp only at hm
 obtain ⟨acc, rs1, rs2, hcl, hclosed, hargs, -, -, hm2, -⟩ := closeM_spec _ _ _ _ hm ⟨(fun p hp => by cases hp), List.nodup_nil⟩ (fun p hp => by cases hp)
 generalize hL : acc.reverse = L at hm2
 have hLmem : ∀ p, p ∈ L ↔ p ∈ acc := fun p => by rw [← hL]; simp
 have hat : ∀ p ∈ L, h p.1 = some p.2 := fun p hp => hcl.at_ p ((hLmem p).1 hp)
 have hnd : (L.map (·.1)).Nodup := by rw [← hL, List.map_reverse]; exact (List.reverse_perm _).nodup_iff.2 hcl.nodup
 have hns : ∀ x, x ∈ L.map (·.1) ↔ x ∈ acc.map (·.1) := fun x => by rw [← hL]; simp
 generalize hnsd : L.map (·.1) = ns at hm2 hnd hns
 have hlen : ns.length = L.length := by rw [← hnsd]; simp
 obtain ⟨v, u, hrun, rfl, rfl, rfl⟩ := ofCTree_run _ hm2
 -- the callee's names
 have hnsat : ∀ (i x : Nat), ns[i]? = some x → ∃ c : Chunk, L[i]? = some (x, c) ∧ h x = some c := by
  intro i x hx
  rw [← hnsd, List.getElem?_map, Option.map_eq_some_iff] at hx
  obtain ⟨p, hp, rfl⟩ := hx
  exact ⟨p.2, hp, hat p (List.mem_of_getElem? hp)⟩
 have hchn : ∀ p ∈ L, ∀ x ∈ namesC p.2, x ∈ ns := fun p hp x hx => (hns x).2 (hclosed p ((hLmem p).1 hp) x hx)
 generalize hH : locHeap (idxN ns) L 0 = H at hrun
 have hHget : ∀ y, HpL.get H y = (L[y]?).map fun p => renC (idxN ns) p.2 := by
  intro y
  have := locHeap_get (idxN ns) L 0 y
  rw [Nat.zero_add, hH] at this
  exact this
 have hHlen : H.length = ns.length := by rw [← hH, locHeap_len, hlen]
 have hCanon : Canon H := by
  intro i p hp
  rw [← hH, locHeap_at] at hp
  obtain ⟨q, _, rfl⟩ := Option.map_eq_some_iff.1 hp
  simp
 have hHsome : ∀ (y : Nat) (c : Chunk), HpL.get H y = some c → ∃ (x : Nat) (c0 : Chunk), ns[y]? = some x ∧ h x = some c0 ∧ c = renC (idxN ns) c0 ∧ (∀ z ∈ namesC c0, z ∈ ns) := by
  intro y c hc
  rw [hHget, Option.map_eq_some_iff] at hc
  obtain ⟨p, hp, rfl⟩ := hc
  refine ⟨p.1, p.2, ?_, hat p (List.mem_of_getElem? hp), rfl, hchn p (List.mem_of_getElem? hp)⟩
  rw [← hnsd, List.getElem?_map, hp]; rfl
 refine ⟨_, H, v, u, backName ns ns.length nx, hrun, hCanon, by rw [renL_eq]; simp, rfl, ?_⟩
 intro ω w Im θ hr us hl hfr
 let θL : Th := fun i => match ns[i]? with
  | some x => θ x
  | none => none
 have hθL : ∀ (i x : Nat), ns[i]? = some x → θL i = θ x := fun i x hx => by simp [θL, hx]
 have hθL' : ∀ i : Nat, ns.length ≤ i → θL i = none := fun i hi => by simp [θL, List.getElem?_eq_none hi]
 have hto : ∀ x ∈ ns, ∀ p, θ x = some p → θL (idxN ns x) = some p := by
  intro x hx p hp
  rw [hθL _ x (idxN_spec ns x hx).2, hp]
 have hArgs : LRel P ω w Im θL (renL (idxN ns) args) us := hl.ren _ (fun x hx p hp => hto x ((hns x).2 (hargs x hx)) p hp)
 have hHr : HRel P ω w Im θL H.get := by
  refine ⟨?_, ?_, ?_, hr.im, hr.gl⟩
  · intro y c hc
    obtain ⟨x, c0, hx, hx0, rfl, hn⟩ := hHsome y c hc
    exact (hr.at_ x c0 hx0).ren _ (fun z hz p hp => hto z (hn z hz) p hp) (hθL y x hx)
  · intro y z c c' b N N' hy hz hb hb'
    obtain ⟨x, c0, hx, hx0, -, -⟩ := hHsome y c hy
    obtain ⟨x', c0', hx', hx0', -, -⟩ := hHsome z c' hz
    rw [hθL y x hx] at hb
    rw [hθL z x' hx'] at hb'
    have := hr.inj x x' c0 c0' b N N' hx0 hx0' hb hb'
    subst this
    rw [← idxN_at hnd hx, ← idxN_at hnd hx']
  · intro y c b N hy hb
    obtain ⟨x, c0, hx, hx0, -, -⟩ := hHsome y c hy
    rw [hθL y x hx] at hb
    exact hr.own x c0 b N hx0 hb
 refine ⟨θL, hArgs, hHr, fun x hx => hθL' x (by omega), fun y c b N hy hb => ?_, fun z w' θL' Im' hE hz hH' => ?_⟩
 · obtain ⟨x, c0, hx, hx0, -, -⟩ := hHsome y c hy
   rw [hθL y x hx] at hb
   exact ⟨x, c0, hx0, hb⟩
 rw [hHlen] at hE
 -- back to the caller's names
 generalize hB : boundN (namesS v ++ namesU u) ns.length = B at hfr ⊢
 have hBge : ns.length ≤ B := by rw [← hB]; exact boundN_ge _ _
 have hBv : ∀ x ∈ namesS v, x < B := fun x hx => by rw [← hB]; exact boundN_mem _ _ x (List.mem_append.2 (.inl hx))
 have hBu : ∀ x ∈ namesU u, x < B := fun x hx => by rw [← hB]; exact boundN_mem _ _ x (List.mem_append.2 (.inr hx))
 generalize hback : backName ns ns.length nx = back
 have hbk1 : ∀ (y x : Nat), ns[y]? = some x → back y = x := by
  intro y x hx
  have hlt : y < ns.length := (List.getElem?_eq_some_iff.1 hx).1
  have : Nat.blt y ns.length = true := by rw [Nat.blt_eq]; exact hlt
  rw [← hback]
  simp [backName, this, List.getD, hx]
 have hbk2 : ∀ y, ns.length ≤ y → back y = nx + (y - ns.length) := by
  intro y hy
  have : Nat.blt y ns.length = false := by
   cases hh : Nat.blt y ns.length with
   | false => rfl
   | true => rw [Nat.blt_eq] at hh; omega
  rw [← hback]
  simp [backName, this]
 have hnslt : ∀ y : Nat, y < ns.length → ∃ x, ns[y]? = some x := fun y hy => ⟨ns[y], by simp [hy]⟩
 have hold : ∀ (y x : Nat), ns[y]? = some x → ¬ (nx ≤ x ∧ x < nx + (B - ns.length)) := by
  intro y x hx hh
  obtain ⟨c, -, hc⟩ := hnsat y x hx
  rw [(hfr x hh.1 hh.2).2] at hc
  cases hc
 have hinj : ∀ x y, x < B → y < B → back x = back y → x = y := by
  intro x y hx hy e
  rcases Nat.lt_or_ge x ns.length with h1 | h1
  · obtain ⟨a, ha⟩ := hnslt x h1
    rcases Nat.lt_or_ge y ns.length with h2 | h2
    · obtain ⟨b, hb⟩ := hnslt y h2
      rw [hbk1 x a ha, hbk1 y b hb] at e
      subst e
      rw [← idxN_at hnd ha, ← idxN_at hnd hb]
    · rw [hbk1 x a ha, hbk2 y h2] at e
      exact absurd ⟨by omega, by omega⟩ (hold x a ha)
  · rcases Nat.lt_or_ge y ns.length with h2 | h2
    · obtain ⟨b, hb⟩ := hnslt y h2
      rw [hbk2 x h1, hbk1 y b hb] at e
      exact absurd ⟨by omega, by omega⟩ (hold y b hb)
    · rw [hbk2 x h1, hbk2 y h2] at e
      omega
 let θ' : Th := fun x => if nx ≤ x ∧ x < nx + (B - ns.length) then θL' (x - nx + ns.length) else θ x
 have hθ' : ∀ y, y < B → θ' (back y) = θL' y := by
  intro y hy
  rcases Nat.lt_or_ge y ns.length with h1 | h1
  · obtain ⟨x, hx⟩ := hnslt y h1
    rw [hbk1 y x hx]
    simp only [θ', if_neg (hold y x hx)]
    rw [hE.thOld y (by omega), hθL y x hx]
  · rw [hbk2 y h1]
    have : nx ≤ nx + (y - ns.length) ∧ nx + (y - ns.length) < nx + (B - ns.length) := by omega
    simp only [θ', if_pos this]
    congr 1
    omega
 have hθo : ∀ x, ¬ (nx ≤ x ∧ x < nx + (B - ns.length)) → θ' x = θ x := fun x hx => by simp only [θ', if_neg hx]
 have hup : ∀ x p, θ x = some p → θ' x = some p := by
  intro x p hp
  by_cases hx : nx ≤ x ∧ x < nx + (B - ns.length)
  · rw [(hfr x hx.1 hx.2).1] at hp; cases hp
  · rw [hθo x hx]; exact hp
 have hkeysB : ∀ p ∈ u, p.1 < B := fun p hp => hBu _ (namesU_key hp)
 -- what the caller's heap holds behind the call
 have hnew : ∀ x c, updF (backUps back u) h x = some c →
   (∃ y c0, y < B ∧ back y = x ∧ updF u (HpL.get H) y = some c0 ∧ c = renC back c0 ∧ (∀ z ∈ namesC c0, z < B)) ∨ (x ∉ ns ∧ h x = some c ∧ ¬ (nx ≤ x ∧ x < nx + (B - ns.length))) := by
  intro x c hx
  by_cases hkey : x ∈ (backUps back u).map (·.1)
  · rw [backUps_keys] at hkey
    obtain ⟨p, hp, rfl⟩ := List.mem_map.1 hkey
    have hyk : p.1 ∈ u.map (·.1) := List.mem_map.2 ⟨p, hp, rfl⟩
    rw [updF_back hinj u (HpL.get H) h p.1 hkeysB hyk, Option.map_eq_some_iff] at hx
    obtain ⟨c0, hc0, rfl⟩ := hx
    refine .inl ⟨p.1, c0, hkeysB p hp, rfl, hc0, rfl, ?_⟩
    rcases updF_mem hc0 with h1 | ⟨h1, _⟩
    · exact fun z hz => hBu z (namesU_chunk h1 z hz)
    · exact absurd hyk h1
  · rw [updF_not hkey] at hx
    by_cases hxn : x ∈ ns
    · obtain ⟨hi1, hi2⟩ := idxN_spec ns x hxn
      obtain ⟨c1, hL1, hc1⟩ := hnsat _ x hi2
      rw [hx] at hc1
      simp only [Option.some.injEq] at hc1
      subst hc1
      have hny : idxN ns x ∉ u.map (·.1) := by
       intro hh
       obtain ⟨p, hp, he⟩ := List.mem_map.1 hh
       apply hkey
       rw [backUps_keys]
       exact List.mem_map.2 ⟨p, hp, by simp only [he]; exact hbk1 _ x hi2⟩
      have hcn := hchn (x, c) (List.mem_of_getElem? hL1)
      refine .inl ⟨idxN ns x, renC (idxN ns) c, by omega, hbk1 _ x hi2, ?_, ?_, ?_⟩
      · rw [updF_not hny, hHget, hL1]; rfl
      · rw [renC_id]
        intro z hz
        exact hbk1 _ z (idxN_spec ns z (hcn z hz)).2
      · intro z hz
        cases c with
        | mpb kd kvs => cases hz
        | seq e es => cases hz
        | sqo e es => cases hz
        | mpc ks vs =>
         simp only [renC, namesC, List.mem_append] at hz
         rcases hz with hz | hz
         · obtain ⟨y, hy, rfl⟩ := namesL_ren (idxN ns) z ks hz
           have := (idxN_spec ns y (hcn y (List.mem_append.2 (.inl hy)))).1
           omega
         · obtain ⟨y, hy, rfl⟩ := namesL_ren (idxN ns) z vs hz
           have := (idxN_spec ns y (hcn y (List.mem_append.2 (.inr hy)))).1
           omega
        | mpn bs cl ks vs =>
         simp only [renC, namesC, List.mem_append] at hz
         rcases hz with hz | hz
         · obtain ⟨y, hy, rfl⟩ := namesL_ren (idxN ns) z ks hz
           have := (idxN_spec ns y (hcn y (List.mem_append.2 (.inl hy)))).1
           omega
         · obtain ⟨y, hy, rfl⟩ := namesL_ren (idxN ns) z vs hz
           have := (idxN_spec ns y (hcn y (List.mem_append.2 (.inr hy)))).1
           omega
        | mit zz since seen last =>
         simp only [renC, namesC, List.mem_singleton] at hz
         have := (idxN_spec ns zz (hcn zz (by simp [namesC]))).1
         omega
        | loopr st vs ps asg bdy =>
         simp only [renC, namesC] at hz
         have := namesL_ren (idxN ns) z vs hz
         obtain ⟨y, hy, rfl⟩ := this
         have := (idxN_spec ns y (hcn y hy)).1
         omega
        | cells T vs =>
         simp only [renC, namesC] at hz
         have := namesL_ren (idxN ns) z vs hz
         obtain ⟨y, hy, rfl⟩ := this
         have := (idxN_spec ns y (hcn y hy)).1
         omega
    · refine .inr ⟨hxn, hx, fun hh => ?_⟩
      rw [(hfr x hh.1 hh.2).2] at hx
      cases hx
 refine ⟨θ', ?_, ?_, ?_, ?_, ?_⟩
 · refine ⟨hθo, hup, hE.imUp, hE.size, ?_, ?_, ?_, hE.os, hE.output, hE.tape⟩
   · intro b hb hno
     refine hE.keep b hb (fun y c N hy => ?_)
     obtain ⟨x, c0, hx, hx0, -, -⟩ := hHsome y c hy
     rw [hθL y x hx]
     exact hno x c0 N hx0
   · intro b hb
     rcases hE.imNew b hb with h1 | ⟨y, c, N, hy, hθy⟩ | h1
     · exact .inl h1
     · obtain ⟨x, c0, hx, hx0, -, -⟩ := hHsome y c hy
       rw [hθL y x hx] at hθy
       exact .inr (.inl ⟨x, c0, N, hx0, hθy⟩)
     · exact .inr (.inr h1)
   · intro x c b N hx hb
     rcases hnew x c hx with ⟨y, c0, hyB, rfl, hy0, -, -⟩ | ⟨-, hx0, hxo⟩
     · rw [hθ' y hyB] at hb
       rcases hE.ownNew y c0 b N hy0 hb with ⟨y', c', N', hy', hθy'⟩ | h1
       · obtain ⟨x', c0', hx', hx0', -, -⟩ := hHsome y' c' hy'
         rw [hθL y' x' hx'] at hθy'
         exact .inl ⟨x', c0', N', hx0', hθy'⟩
       · exact .inr h1
     · rw [hθo x hxo] at hb
       exact .inl ⟨x, c, N, hx0, hb⟩
 · exact hz.ren back (fun x hx p hp => by rw [hθ' x (hBv x hx)]; exact hp)
 · have hkeepO : ∀ x c, x ∉ ns → h x = some c → ∀ b N, θ x = some (b, N) → w'.heap[b]? = w.heap[b]? := by
     intro x c hxn hx b N hb
     refine hE.keep b (hr.own x c b N hx hb).2 (fun y c' N' hy hθy => ?_)
     obtain ⟨x', c0', hx', hx0', -, -⟩ := hHsome y c' hy
     rw [hθL y x' hx'] at hθy
     have := hr.inj x x' c c0' b N N' hx hx0' hb hθy
     subst this
     exact hxn (List.mem_of_getElem? hx')
   have hI : ∀ b, Im b → Im' b ∧ w'.heap[b]? = w.heap[b]? := fun b hb => ⟨hE.imUp b hb, hE.keep b (hr.im b hb) (fun y c N hy hθy => by
    obtain ⟨x, c0, hx, hx0, -, -⟩ := hHsome y c hy
    rw [hθL y x hx] at hθy
    exact (hr.own x c0 b N hx0 hθy).1 hb)⟩
   have hownL : ∀ y c0 b N, updF u (HpL.get H) y = some c0 → θL' y = some (b, N) → (∃ x c1 N1, x ∈ ns ∧ h x = some c1 ∧ θ x = some (b, N1)) ∨ w.heap.size ≤ b := by
    intro y c0 b N hy hb
    rcases hE.ownNew y c0 b N hy hb with ⟨y', c', N', hy', hθy'⟩ | h1
    · obtain ⟨x', c0', hx', hx0', -, -⟩ := hHsome y' c' hy'
      rw [hθL y' x' hx'] at hθy'
      exact .inl ⟨x', c0', N', List.mem_of_getElem? hx', hx0', hθy'⟩
    · exact .inr h1
   have hcross : ∀ y c0 b N x c N', updF u (HpL.get H) y = some c0 → θL' y = some (b, N) → x ∉ ns → h x = some c → θ x = some (b, N') → False := by
    intro y c0 b N x c N' hy hb hxn hx hbx
    rcases hownL y c0 b N hy hb with ⟨x1, c1, N1, hx1, hx1h, hb1⟩ | h1
    · have := hr.inj x x1 c c1 b N' N1 hx hx1h hbx hb1
      subst this
      exact hxn hx1
    · have := (hr.own x c b N' hx hbx).2
      omega
   refine ⟨?_, ?_, ?_, hH'.im, hH'.gl⟩
   · intro x c hx
     rcases hnew x c hx with ⟨y, c0, hyB, rfl, hy0, rfl, hzB⟩ | ⟨hxn, hx0, hxo⟩
     · exact (hH'.at_ y c0 hy0).ren back (fun z hz p hp => by rw [hθ' z (hzB z hz)]; exact hp) (hθ' y hyB)
     · exact (hr.at_ x c hx0).mono hI hup (hθo x hxo) (hkeepO x c hxn hx0)
   · intro x x' c c' b N N' hx hx' hb hb'
     rcases hnew x c hx with ⟨y, c0, hyB, rfl, hy0, -, -⟩ | ⟨hxn, hx0, hxo⟩
     · rw [hθ' y hyB] at hb
       rcases hnew x' c' hx' with ⟨y', c0', hyB', rfl, hy0', -, -⟩ | ⟨hxn', hx0', hxo'⟩
       · rw [hθ' y' hyB'] at hb'
         rw [hH'.inj y y' c0 c0' b N N' hy0 hy0' hb hb']
       · rw [hθo x' hxo'] at hb'
         exact (hcross y c0 b N x' c' N' hy0 hb hxn' hx0' hb').elim
     · rw [hθo x hxo] at hb
       rcases hnew x' c' hx' with ⟨y', c0', hyB', rfl, hy0', -, -⟩ | ⟨hxn', hx0', hxo'⟩
       · rw [hθ' y' hyB'] at hb'
         exact (hcross y' c0' b N' x c N hy0' hb' hxn hx0 hb).elim
       · rw [hθo x' hxo'] at hb'
         exact hr.inj x x' c c' b N N' hx0 hx0' hb hb'
   · intro x c b N hx hb
     rcases hnew x c hx with ⟨y, c0, hyB, rfl, hy0, -, -⟩ | ⟨hxn, hx0, hxo⟩
     · rw [hθ' y hyB] at hb
       exact hH'.own y c0 b N hy0 hb
     · rw [hθo x hxo] at hb
       have ho := hr.own x c b N hx0 hb
       refine ⟨fun hi => ?_, Nat.lt_of_lt_of_le ho.2 hE.size⟩
       rcases hE.imNew b hi with h1 | ⟨y, c1, N1, hy, hθy⟩ | h1
       · exact ho.1 h1
       · obtain ⟨x', c0', hx', hx0', -, -⟩ := hHsome y c1 hy
         rw [hθL y x' hx'] at hθy
         have := hr.inj x x' c c0' b N N1 hx0 hx0' hb hθy
         subst this
         exact hxn (List.mem_of_getElem? hx')
       · omega
 · intro x c b N hx hb
   rcases hnew x c hx with ⟨y, c0, hyB, rfl, hy0, -, -⟩ | ⟨-, hx0, hxo⟩
   · rw [hθ' y hyB] at hb
     exact .inl ⟨y, c0, hy0, hb⟩
   · rw [hθo x hxo] at hb
     exact .inr ⟨c, hx0, hb⟩
 · intro v' z' hn hz'
   exact hz'.ren back (fun x hx p hp => by rw [hθ' x (hBv x (hn x hx))]; exact hp)
theorem enter_good {κ : Nat → Option CSumm} (hκ : KOk P κ) {w : World} {Im : Nat → Prop} {θ : Th} {h : HpF} (hr : HRel P ω w Im θ h) {g : FuncId} {args : List SV} {us : List Value} (hl : LRel P ω w Im θ args us) {nx nx' : Nat} {r : SV}
  {ups : List (Nat × Option Chunk)} {rs : List Nat} (hm : mrun h (callM κ g args nx) = some (r, ups, nx', rs)) (hfr : ∀ x, nx ≤ x → x < nx' → θ x = none ∧ h x = none) :
  Calls P g us.toArray w fun e w' => ∃ u Im' θ', e = .returned u ∧ Ext (fun x => nx ≤ x ∧ x < nx') h w Im θ (updF ups h) w' Im' θ' ∧ VRel P ω w' Im' θ' r u ∧ HRel P ω w' Im' θ' (updF ups h) := by
 unfold callM at hm
 cases hk : κ g with
 | none => simp [hk, mrun] at hm
 | some s =>
  simp only [hk] at hm
  obtain ⟨args', H, v, u, back, h1, h2, -, -, hsem⟩ := enter_gen (P := P) hm
  obtain ⟨θL, h3, h4, h5, -, h6⟩ := hsem hr hl hfr
  refine (hκ.ok g s hk _ _ v u h1 h2 ω θL Im w us h3 h4 h5).mono ?_
  rintro e w' ⟨z, θL', Im', rfl, hE, hz, hH'⟩
  obtain ⟨θ', g1, g2, g3, -, -⟩ := h6 z w' θL' Im' hE hz hH'
  exact ⟨z, Im', θ', rfl, g1, g2, g3⟩
theorem findMeth_find (name : String) : ∀ l : List Method, findMeth name l = l.find? (·.name == name)
 | [] => rfl
 | m :: l => by
  simp only [findMeth, List.find?_cons]
  cases h : m.name == name
  · simpa using findMeth_find name l
  · rfl
theorem run_methodS {t : TypeId} {name : String} {g : Nat} (h : methodS P t name = some g) (k : Nat) (u : Value) (w : World) : (method (k + 1) t u name).run P w = .ok (g, u) w := by
 unfold methodS at h
 cases hi : P.info? t with
 | none => simp [hi] at h
 | some i =>
  simp only [hi] at h
  rw [findMeth_find] at h
  split at h
  case h_2 => cases h
  rename_i m hm
  split at h
  case h_2 => cases h
  rename_i f p hp hf
  have hm' : i.methods.find? (·.name == name) = some m := by rw [← Array.find?_toList]; exact hm
  have hpe : m.path = #[] := by apply Array.ext'; simpa using hp
  have hti : (typeInfo t).run P w = .ok i w := by simp [typeInfo, hi]
  split at h
  · rename_i e hu
    cases p with
    | false => cases h
    | true =>
     simp only [cond_true, Option.some.injEq] at h
     subst h
     simp [method, hti, hm', hpe, hf, follow, receiverAt, run_underlying hu, Place.get]
  · rename_i d hni hu
    cases p with
    | true => cases h
    | false =>
     simp only [cond_false, Option.some.injEq] at h
     subst h
     cases d <;> first | exact (hni _ rfl).elim | simp [method, hti, hm', hpe, hf, follow, receiverAt, run_underlying hu, Place.get]
  · cases h
theorem run_invoke {t : TypeId} {name : String} {g : Nat} (h : methodS P t name = some g) {fn : Func} (hfn : P.funcs[g]? = some fn) (hn1 : (fn.name == "runtime.NumGoroutine") = false) (hn2 : fn.body.isNone = false) (u : Value) (args : Array Value) (w : World) :
  (invoke (.fn (.method name) #[]) (#[.iface t u] ++ args)).run P w = .ok (.enter g (#[u] ++ args)) w := by
 have h0 : (#[Value.iface t u] ++ args)[0]? = some (.iface t u) := by simp [Array.getElem?_append]
 have hex : (#[Value.iface t u] ++ args).extract 1 (#[Value.iface t u] ++ args).size = args := by
  apply Array.ext'
  simp [List.take_of_length_le]
 have hmr : (method (P.types.size + 100) t u name).run P w = .ok (g, u) w := run_methodS h (P.types.size + 99) u w
 have hn1' : ¬ fn.name = "runtime.NumGoroutine" := by simpa using hn1
 have hn2' : ¬ fn.body = none := by intro hh; simp [hh] at hn2
 simp only [invoke, h0, hex]
 simp [callMethod, Made.depth, hmr, callFunc, hfn, hn1', hn2']
theorem op_good0 {κ : Nat → Option CSumm} (hκ : KOk P κ) {o : Oper} {a : Act} {w : World} {Im : Nat → Prop} {θ : Th} {h : HpF} {ev : Operand → SV} {nx nx' : Nat} {r : SV} {ups : List (Nat × Option Chunk)} {rs : List Nat}
  (hr : HRel P ω w Im θ h) (hev : ∀ x ∈ o.op.operands, VRel P ω w Im θ (ev x) (a.eval x)) (hfr : ∀ x, nx ≤ x → x < nx' → θ x = none ∧ h x = none)
  (hm : mrun h (opM0 P κ o ev nx) = some (r, ups, nx', rs)) : Good P ω o a w Im θ h r ups nx nx' := by
 by_cases hc : ∃ c, o.op = .call c
 · obtain ⟨c, hc⟩ := hc
   obtain ⟨dst, op, type, pos, after, guard⟩ := o
   simp only at hc
   subst hc
   obtain ⟨callee, cargs, argTypes⟩ := c
   simp only [opM0] at hm
   simp only [Op.operands, Call.operands] at hev
   cases callee with
   | invoke r m =>
    simp only [] at hm hev
    have hf := hev r (by simp)
    split at hm
    case h_2 => simp [mrun] at hm
    rename_i t v he
    split at hm
    case h_2 => simp [mrun] at hm
    rename_i g hmeth
    rw [he] at hf
    generalize hu : a.eval r = u at hf
    cases hf with
    | iface hv =>
     rename_i u'
     have hl : LRel P ω w Im θ (v :: cargs.toList.map ev) (u' :: (cargs.map a.eval).toList) := by
      refine ⟨by simp, fun i x y hx hy => ?_⟩
      cases i with
      | zero => cases hx; cases hy; exact hv
      | succ i =>
       simp only [List.getElem?_cons_succ, List.getElem?_map, Array.getElem?_toList, Option.map_eq_some_iff] at hx
       obtain ⟨c, hc, rfl⟩ := hx
       simp only [List.getElem?_cons_succ, Array.toList_map, List.getElem?_map, Array.getElem?_toList, hc, Option.map_some, Option.some.injEq] at hy
       subst hy
       exact hev c (by simp; exact .inr (Array.mem_of_getElem? hc))
     have hcalls := enter_good hκ hr hl hm hfr
     intro ρ K Q hK
     have hs : ∃ s, κ g = some s := by
      unfold callM at hm
      cases hk : κ g with
      | none => simp [hk, mrun] at hm
      | some s => exact ⟨s, rfl⟩
     obtain ⟨s, hs⟩ := hs
     obtain ⟨fn, hfn, hn1, hn2⟩ := hκ.fn g s hs
     have hrun : (execOp a.eval { dst := dst, op := .call { callee := .invoke r m, args := cargs, argTypes := argTypes }, type := type, pos := pos, after := after, guard := guard }).run P w = .ok (.enter g (u' :: (cargs.map a.eval).toList).toArray) w := by
      have e : (u' :: (cargs.map a.eval).toList).toArray = #[u'] ++ cargs.map a.eval := by
       apply Array.ext'
       simp
      rw [e]
      have hn1' : ¬ fn.name = "runtime.NumGoroutine" := by simpa using hn1
      have hn2' : ¬ fn.body = none := by intro hh; simp [hh] at hn2
      have hi := run_invoke hmeth hfn hn1 hn2 u' (cargs.map a.eval) w
      simp only [execOp, resolve, hu, pure_bind]
      exact hi
     refine ⟨fun f _ => FR_fn ρ f, ?_⟩
     rw [Oper.semAt_eq _ _ _ (fun c hc => by cases hc), hrun, Oper.uponIn_enter]
     refine ⟨FR_depth1 ρ, callsIn_FR (hcalls.mono ?_)⟩
     rintro e w' ⟨u, Im', θ', rfl, hE, hv, hH⟩
     exact hK u w' Im' θ' hE hv hH
   | builtin b =>
    simp only [] at hm
    have hargs : LRel P ω w Im θ (cargs.toList.map ev) (cargs.map a.eval).toList := by
     refine ⟨by simp, fun i v u hv hu => ?_⟩
     simp only [List.getElem?_map, Array.getElem?_toList, Option.map_eq_some_iff] at hv
     obtain ⟨c, hc, rfl⟩ := hv
     simp only [Array.toList_map, List.getElem?_map, Array.getElem?_toList, hc, Option.map_some, Option.some.injEq] at hu
     subst hu
     exact hev c (by simp; exact Array.mem_of_getElem? hc)
    unfold builtinS at hm
    split at hm
    · rename_i t ts x xs htys hxs
      have h1 : argTypes[0]? = some t := by
       have := congrArg (·[0]?) htys
       simpa using this
      rw [hxs] at hargs
      have hlen := hargs.len
      cases hus : (cargs.map a.eval).toList with
      | nil => rw [hus] at hlen; simp at hlen
      | cons u us =>
       rw [hus] at hargs
       have h2 : (cargs.map a.eval)[0]? = some u := by
        have := congrArg (·[0]?) hus
        simpa using this
       obtain ⟨v, hv1, hv2, rfl, rfl⟩ := run_len hm (tys := argTypes) (ty := type) h1 h2 (hargs.at_ 0 x u rfl rfl)
       refine good_value hr ?_ hv2
       simp [execOp, resolve, invoke, builtin, hv1]
    · simp [mrun] at hm
   | value f =>
    simp only [] at hm hev
    have hf := hev f (by simp)
    split at hm
    · rename_i g first caps he
      rw [he] at hf
      generalize hu : a.eval f = u at hf
      cases hf with
      | fn h1 h2 h3 h4 =>
       rename_i us vs
       have hl : LRel P ω w Im θ (first ++ (cargs.toList.map ev ++ caps)) (us.toList ++ ((cargs.map a.eval).toList ++ vs.toList)) := by
        refine LRel.append ⟨by simpa using h1, fun i v u hv hu => h3 i v u hv (by simpa using hu)⟩ (LRel.append ⟨by simp, fun i v u hv hu => ?_⟩ ⟨by simpa using h2, fun i v u hv hu => h4 i v u hv (by simpa using hu)⟩)
        simp only [List.getElem?_map, Array.getElem?_toList, Option.map_eq_some_iff] at hv
        obtain ⟨c, hc, rfl⟩ := hv
        simp only [Array.toList_map, List.getElem?_map, Array.getElem?_toList, hc, Option.map_some, Option.some.injEq] at hu
        subst hu
        exact hev c (by simp; exact .inr (Array.mem_of_getElem? hc))
       have hcalls := enter_good hκ hr hl hm hfr
       intro ρ K Q hK
       have hs : ∃ s, κ g = some s := by
        unfold callM at hm
        cases hk : κ g with
        | none => simp [hk, mrun] at hm
        | some s => exact ⟨s, rfl⟩
       obtain ⟨s, hs⟩ := hs
       obtain ⟨fn, hfn, hn1, hn2⟩ := hκ.fn g s hs
       have hrun : (execOp a.eval { dst := dst, op := .call { callee := .value f, args := cargs, argTypes := argTypes }, type := type, pos := pos, after := after, guard := guard }).run P w = .ok (.enter g (us.toList ++ ((cargs.map a.eval).toList ++ vs.toList)).toArray) w := by
        have e : (us.toList ++ ((cargs.map a.eval).toList ++ vs.toList)).toArray = us ++ cargs.map a.eval ++ vs := by
         apply Array.ext'
         simp
        rw [e]
        have hn1' : ¬ fn.name = "runtime.NumGoroutine" := by simpa using hn1
        have hn2' : ¬ fn.body = none := by intro hh; simp [hh] at hn2
        simp [execOp, resolve, hu, Deferred.ofValue, invoke, callFunc, hfn, hn1', hn2']
       refine ⟨fun f _ => FR_fn ρ f, ?_⟩
       rw [Oper.semAt_eq _ _ _ (fun c hc => by cases hc), hrun, Oper.uponIn_enter]
       refine ⟨FR_depth1 ρ, callsIn_FR (hcalls.mono ?_)⟩
       rintro e w' ⟨u, Im', θ', rfl, hE, hv, hH⟩
       exact hK u w' Im' θ' hE hv hH
    · simp [mrun] at hm
 · exact op_plain (fun c e => hc ⟨c, e⟩) hr hev (fun x h1 h2 => (hfr x h1 h2).1) hm
theorem opM_cases {κ : Nat → Option CSumm} {o : Oper} {ev : Operand → SV} {nx : Nat} : opM P κ o ev nx = chkM nx (opX P o.op (o.op.operands.toList.map ev) nx) [] ∨ opM P κ o ev nx = opM0 P κ o ev nx := by
 unfold opM
 split
 · exact .inl rfl
 · exact .inr rfl
theorem op_good {κ : Nat → Option CSumm} (hκ : KOk P κ) {o : Oper} {a : Act} {w : World} {Im : Nat → Prop} {θ : Th} {h : HpF} {ev : Operand → SV} {nx nx' : Nat} {r : SV} {ups : List (Nat × Option Chunk)} {rs : List Nat}
  (hr : HRel P ω w Im θ h) (hev : ∀ x ∈ o.op.operands, VRel P ω w Im θ (ev x) (a.eval x)) (hfr : ∀ x, nx ≤ x → x < nx' → θ x = none ∧ h x = none)
  (hm : mrun h (opM P κ o ev nx) = some (r, ups, nx', rs)) : Good P ω o a w Im θ h r ups nx nx' := by
 rcases opM_cases (P := P) (κ := κ) (o := o) (ev := ev) (nx := nx) with hc | hc <;> rw [hc] at hm
 · exact opX_good hr hev hfr (chkM_run hm).1
 · exact op_good0 hκ hr hev hfr hm
end Go.Am
/- The abstract machine: a region, in whichever order. -/
namespace Go.Am
variable {P : Program} {ω : Nat → Value}
def evT (T : Nat → SV) : Operand → SV
 | .tmp t => T t
 | .const v => ofValue v
 | .func f => .fn (.func f) [] []
 | .global g => .gp g 0
def updT (T : Nat → SV) (dst : Option Nat) (v : SV) : Nat → SV :=
 match dst with
 | none => T
 | some d => fun t => if t = d then v else T t
def Mk (w : World) (Im : Nat → Prop) (θ : Th) (h : HpF) (ds : List Deferred) : Prop :=
 ∃ (rs : List Nat) (base : List Deferred), ds = rs.map (fun r => { target := .collected r, args := #[] }) ++ base ∧ (∀ d ∈ base, ∀ r, d ≠ { target := .collected r, args := #[] }) ∧ rs.Nodup ∧
  ∀ r ∈ rs, w.heap[r]? = some (.deferred (some [])) ∧ ¬ Im r ∧ ∀ x c N, h x = some c → θ x ≠ some (r, N)
theorem Mk.nil {w : World} {Im : Nat → Prop} {θ : Th} {h : HpF} : Mk w Im θ h [] := ⟨[], [], rfl, fun d hd => (by cases hd), List.nodup_nil, fun r hr => by cases hr⟩
theorem Mk.step {new : Nat → Prop} {h h' : HpF} {w w' : World} {Im Im' : Nat → Prop} {θ θ' : Th} {ds : List Deferred} (m : Mk w Im θ h ds) (he : Ext new h w Im θ h' w' Im' θ') : Mk w' Im' θ' h' ds := by
 obtain ⟨rs, base, h1, hb, h2, h3⟩ := m
 refine ⟨rs, base, h1, hb, h2, fun r hr => ?_⟩
 obtain ⟨a1, a2, a3⟩ := h3 r hr
 have hlt := heap_lt a1
 refine ⟨by rw [he.keep r hlt a3]; exact a1, fun hi => ?_, fun x c N hx hθ => ?_⟩
 · rcases he.imNew r hi with h4 | ⟨x, c, N, h4, h5⟩ | h4
   · exact a2 h4
   · exact a3 x c N h4 h5
   · omega
 · rcases he.ownNew x c r N hx hθ with ⟨y, c', N', h4, h5⟩ | h4
   · exact a3 y c' N' h4 h5
   · omega
structure SimF (P : Program) (ω : Nat → Value) (n : Nat) (T : Nat → SV) (h : HpF) (a : Act) (w : World) (Im : Nat → Prop) (θ : Th) : Prop where
 size : a.tmps.size = n
 tm : ∀ t, t < n → VRel P ω w Im θ (T t) (a.tmps.getD t undef)
 out : ∀ t, n ≤ t → T t = .junk
 df : Mk w Im θ h a.defers
 hp : HRel P ω w Im θ h
theorem SimF.eval {n : Nat} {T : Nat → SV} {h : HpF} {a : Act} {w : World} {Im : Nat → Prop} {θ : Th} (s : SimF P ω n T h a w Im θ) (x : Operand) : VRel P ω w Im θ (evT T x) (a.eval x) := by
 cases x with
 | tmp t =>
  simp only [evT, Act.eval]
  rcases Nat.lt_or_ge t n with h | h
  · exact s.tm t h
  · rw [s.out t h]; exact .junk
 | const v => exact ofValue_rel w Im θ v
 | global g => exact .gp
 | func f => exact .fn rfl rfl (fun i v u hv _ => by simp at hv) (fun i v u hv _ => by simp at hv)
def dstN (n : Nat) : Option Nat → Prop
 | none => True
 | some d => d < n
theorem put_size (a : Act) (dst : Option Nat) (v : Value) : (a.put dst v).tmps.size = a.tmps.size := by cases dst <;> simp [Act.put]
theorem put_defers (a : Act) (dst : Option Nat) (v : Value) : (a.put dst v).defers = a.defers := by cases dst <;> rfl
theorem SimF.step {n : Nat} {T : Nat → SV} {h h' : HpF} {a : Act} {w w' : World} {Im Im' : Nat → Prop} {θ θ' : Th} {new : Nat → Prop} (s : SimF P ω n T h a w Im θ) {dst : Option Nat} (hd : dstN n dst) {r : SV} {v : Value}
  (he : Ext new h w Im θ h' w' Im' θ') (hv : VRel P ω w' Im' θ' r v) (hr : HRel P ω w' Im' θ' h') : SimF P ω n (updT T dst r) h' (a.put dst v) w' Im' θ' := by
 refine ⟨by rw [put_size, s.size], fun t ht => ?_, fun t ht => ?_, by rw [put_defers]; exact s.df.step he, hr⟩
 · cases dst with
   | none => exact he.val s.hp (s.tm t ht)
   | some d =>
    have hd' : d < a.tmps.size := by rw [s.size]; exact hd
    by_cases htd : t = d
    · subst htd
      simp [updT, Act.put, Array.getD, hd', hv]
    · have := he.val s.hp (s.tm t ht)
      have ht' : t < a.tmps.size := by rw [s.size]; exact ht
      simp only [updT, if_neg htd, Act.put]
      have e : (a.tmps.setIfInBounds d v).getD t undef = a.tmps.getD t undef := by
       simp [Array.getD, ht', Ne.symm htd]
      rw [e]; exact this
 · cases dst with
   | none => exact s.out t ht
   | some d =>
    have : t ≠ d := by intro e; subst e; simp only [dstN] at hd; omega
    simp only [updT, if_neg this]
    exact s.out t ht
theorem SimF.skip {n : Nat} {T : Nat → SV} {h : HpF} {a : Act} {w : World} {Im : Nat → Prop} {θ : Th} (s : SimF P ω n T h a w Im θ) {dst : Option Nat} (hd : dstN n dst) : SimF P ω n (updT T dst (.tup [])) h (a.put dst undef) w Im θ :=
 s.step hd (Ext.refl (fun _ => False)) (.tup rfl (fun i v u hv _ => by simp at hv)) s.hp
def wantedT (all : List Oper) (n : Nat) (T : Nat → SV) (o : Oper) : Option Bool :=
 match o.guard with
 | none => some true
 | some (j, want) =>
  match all[j]? with
  | some oj => match oj.dst with
   | some d => if d < n then match T d with
    | .bool b => some (b == want)
    | .tup [] => some false
    | _ => none
    else none
   | none => none
  | none => none
theorem wanted_eq {all : List Oper} {n : Nat} {T : Nat → SV} {h : HpF} {a : Act} {w : World} {Im : Nat → Prop} {θ : Th} (s : SimF P ω n T h a w Im θ) {o : Oper} {b : Bool} (hw : wantedT all n T o = some b) :
  Region.wanted o (yielded all.toArray a.tmps) = b := by
 unfold wantedT at hw
 unfold Region.wanted
 cases hg : o.guard with
 | none => simp [hg] at hw; simp [hw]
 | some p =>
  obtain ⟨j, want⟩ := p
  simp only [hg] at hw
  cases hj : all[j]? with
  | none => simp [hj] at hw
  | some oj =>
   simp only [hj] at hw
   cases hd : oj.dst with
   | none => simp [hd] at hw
   | some d =>
    simp only [hd] at hw
    split at hw
    · rename_i hdn
      have hv := s.tm d hdn
      split at hw
      · rename_i c hc
        rw [hc] at hv
        have hlt : d < a.tmps.size := by rw [s.size]; exact hdn
        generalize hu : a.tmps.getD d undef = u at hv
        cases hv
        have hu' : a.tmps[d]? = some (.bool c) := by
         simp [Array.getD, hlt] at hu
         simp [hlt, hu]
        simp only [yielded, List.getElem?_toArray, hj, Option.bind_some, hd, hu']
        simp only [Option.some.injEq] at hw
        rw [← hw]
        cases c <;> cases want <;> rfl
      · rename_i hc
        rw [hc] at hv
        have hlt : d < a.tmps.size := by rw [s.size]; exact hdn
        generalize hu : a.tmps.getD d undef = u at hv
        cases hv with
        | tup h1 h2 =>
         rename_i us
         have hu' : a.tmps[d]? = some (.tuple us) := by
          simp [Array.getD, hlt] at hu
          simp [hlt, hu]
         simp only [yielded, List.getElem?_toArray, hj, Option.bind_some, hd, hu']
         simp only [Option.some.injEq] at hw
         rw [← hw]
         rfl
      · cases hw
    · cases hw
structure Rec where
 ex : Bool
 r : SV
 ups : List (Nat × Option Chunk)
 nx0 : Nat
 nx1 : Nat
 rs : List Nat
inductive Txt (P : Program) (κ : Nat → Option CSumm) (all : List Oper) (n : Nat) : List Oper → (Nat → SV) → HpF → Nat → List Rec → (Nat → SV) → HpF → Nat → Prop
 | nil {T : Nat → SV} {h : HpF} {nx : Nat} : Txt P κ all n [] T h nx [] T h nx
 | run {o : Oper} {os : List Oper} {T T' : Nat → SV} {h h' : HpF} {nx nx1 nx' : Nat} {r : SV} {ups : List (Nat × Option Chunk)} {rs : List Nat} {recs : List Rec} :
   dstN n o.dst → wantedT all n T o = some true → mrun h (opM P κ o (evT T) nx) = some (r, ups, nx1, rs) → Txt P κ all n os (updT T o.dst r) (updF ups h) nx1 recs T' h' nx' →
   Txt P κ all n (o :: os) T h nx (⟨true, r, ups, nx, nx1, rs⟩ :: recs) T' h' nx'
 | skip {o : Oper} {os : List Oper} {T T' : Nat → SV} {h h' : HpF} {nx nx' : Nat} {recs : List Rec} :
   dstN n o.dst → wantedT all n T o = some false → Txt P κ all n os (updT T o.dst (.tup [])) h nx recs T' h' nx' →
   Txt P κ all n (o :: os) T h nx (⟨false, .tup [], [], nx, nx, []⟩ :: recs) T' h' nx'
theorem opM0_congr {κ : Nat → Option CSumm} {o : Oper} {ev ev' : Operand → SV} (h : ∀ x ∈ o.op.operands, ev x = ev' x) (nx : Nat) : opM0 P κ o ev nx = opM0 P κ o ev' nx := by
 obtain ⟨dst, op, type, pos, after, guard⟩ := o
 have lst : ∀ (l : Array Operand), (∀ x ∈ l, ev x = ev' x) → l.toList.map ev = l.toList.map ev' := fun l hl => List.map_congr_left fun x hx => hl x (by simpa using hx)
 cases op <;> simp only [Op.operands] at h <;> simp only [opM0]
 case move x => rw [h x (by simp)]
 case assign x => rw [h x (by simp)]
 case pick c x y => rw [h c (by simp), h x (by simp), h y (by simp)]
 case box t x => rw [h x (by simp)]
 case build t ps =>
  have : (ps.toList.map fun p => (p.1, ev p.2)) = ps.toList.map fun p => (p.1, ev' p.2) := List.map_congr_left fun p hp => by
   rw [h p.2 (by simp; exact ⟨p.1, by simpa using hp⟩)]
  rw [this]
 case load t x => rw [h x (by simp)]
 case store t x v => rw [h x (by simp), h v (by simp)]
 case nilCheck x => rw [h x (by simp)]
 case binOp op t x y yt => rw [h x (by simp), h y (by simp)]
 case unOp op t x => rw [h x (by simp)]
 case convert s d x => rw [h x (by simp)]
 case makeFunc f as bs =>
  rw [lst as (fun x hx => h x (by simp [hx])), lst bs (fun x hx => h x (by simp [hx]))]
 case fieldAddr t x f => rw [h x (by simp)]
 case field t x f => rw [h x (by simp)]
 case extract x i => rw [h x (by simp)]
 case buildSlice t n ps =>
  have : (ps.toList.map fun p => (p.1, ev p.2)) = ps.toList.map fun p => (p.1, ev' p.2) := List.map_congr_left fun p hp => by
   rw [h p.2 (by simp; exact ⟨p.1, by simpa using hp⟩)]
  rw [this]
 case makeSlice t l c => rw [h l (by simp), h c (by simp)]
 case slice t x lo hi mx =>
  have o : ∀ (l : Option Operand), (∀ y, l = some y → ev y = ev' y) → l.map ev = l.map ev' := fun l hl => by cases l with
   | none => rfl
   | some y => simp [hl y rfl]
  rw [h x (by simp), o lo (fun y e => h y (by simp [e])), o hi (fun y e => h y (by simp [e])), o mx (fun y e => h y (by simp [e]))]
 case indexAddr t x ix => rw [h x (by simp), h ix (by simp)]
 case index t x ix => rw [h x (by simp), h ix (by simp)]
 case call c =>
  cases hc : c.callee with
  | value f =>
   simp only []
   rw [h f (by simp [Call.operands, hc]), lst c.args (fun x hx => h x (by simp [Call.operands, hx]))]
  | invoke r m =>
   simp only []
   rw [h r (by simp [Call.operands, hc]), lst c.args (fun x hx => h x (by simp [Call.operands, hx]))]
  | builtin b =>
   simp only []
   rw [lst c.args (fun x hx => h x (by simp [Call.operands, hx]))]
theorem opM_congr {κ : Nat → Option CSumm} {o : Oper} {ev ev' : Operand → SV} (h : ∀ x ∈ o.op.operands, ev x = ev' x) (nx : Nat) : opM P κ o ev nx = opM P κ o ev' nx := by
 have e : o.op.operands.toList.map ev = o.op.operands.toList.map ev' := List.map_congr_left fun x hx => h x (by simpa using hx)
 unfold opM
 rw [opM0_congr h nx, e]
theorem mrun_congr {h h' : HpF} {r : SV} {ups : List (Nat × Option Chunk)} {nx : Nat} : ∀ (m : OpM) (rs : List Nat), mrun h m = some (r, ups, nx, rs) → (∀ x ∈ rs, h' x = h x) → mrun h' m = some (r, ups, nx, rs)
 | .done _ _ _, rs, hm, _ => by simpa [mrun] using hm
 | .get x f, rs, hm, hh => by
  simp only [mrun] at hm ⊢
  cases hx : h x with
  | none => simp [hx] at hm
  | some c =>
   simp only [hx] at hm
   cases hr : mrun h (f c) with
   | none => simp [hr] at hm
   | some q =>
    obtain ⟨r0, u0, n0, rs0⟩ := q
    simp only [hr, Option.some.injEq, Prod.mk.injEq] at hm
    obtain ⟨rfl, rfl, rfl, rfl⟩ := hm
    rw [hh x (by simp), hx]
    simp only []
    rw [mrun_congr (f c) rs0 hr (fun y hy => hh y (by simp [hy]))]
 | .ite b t e, rs, hm, hh => by
  simp only [mrun] at hm ⊢
  cases b
  · simp only [Bool.false_eq_true, if_false] at hm ⊢; exact mrun_congr e rs hm hh
  · simp only [if_true] at hm ⊢; exact mrun_congr t rs hm hh
 | .fail, rs, hm, _ => by simp [mrun] at hm
theorem mrun_reads {h : HpF} {r : SV} {ups : List (Nat × Option Chunk)} {nx : Nat} : ∀ (m : OpM) (rs : List Nat), mrun h m = some (r, ups, nx, rs) → ∀ x ∈ rs, ∃ c, h x = some c
 | .done _ _ _, rs, hm, x, hx => by
  simp only [mrun, Option.some.injEq, Prod.mk.injEq] at hm
  rw [← hm.2.2.2] at hx; cases hx
 | .get y f, rs, hm, x, hx => by
  simp only [mrun] at hm
  cases hy : h y with
  | none => simp [hy] at hm
  | some c =>
   simp only [hy] at hm
   cases hr : mrun h (f c) with
   | none => simp [hr] at hm
   | some q =>
    obtain ⟨r0, u0, n0, rs0⟩ := q
    simp only [hr, Option.some.injEq, Prod.mk.injEq] at hm
    obtain ⟨rfl, rfl, rfl, rfl⟩ := hm
    rcases List.mem_cons.1 hx with rfl | hx
    · exact ⟨c, hy⟩
    · exact mrun_reads (f c) rs0 hr x hx
 | .ite b t e, rs, hm, x, hx => by
  simp only [mrun] at hm
  cases b
  · simp only [Bool.false_eq_true, if_false] at hm; exact mrun_reads e rs hm x hx
  · simp only [if_true] at hm; exact mrun_reads t rs hm x hx
 | .fail, rs, hm, _, _ => by simp [mrun] at hm
def Quiet (m : OpM) (nx : Nat) : Prop := ∀ (h : HpF) r ups nx' rs, mrun h m = some (r, ups, nx', rs) → ups = [] ∧ nx' = nx
theorem Quiet.done (r : SV) (nx : Nat) : Quiet (.done r [] nx) nx := fun h r' ups nx' rs hm => by
 obtain ⟨_, rfl, rfl, _⟩ := mrun_done hm; exact ⟨rfl, rfl⟩
theorem Quiet.fail (nx : Nat) : Quiet .fail nx := fun h r' ups nx' rs hm => by simp [mrun] at hm
theorem Quiet.ite {b : Bool} {t e : OpM} {nx : Nat} (h1 : Quiet t nx) (h2 : Quiet e nx) : Quiet (.ite b t e) nx := fun h r ups nx' rs hm => by
 simp only [mrun] at hm
 split at hm
 · exact h1 h r ups nx' rs hm
 · exact h2 h r ups nx' rs hm
theorem quiet_intBin (op : BinOp) (k : IntKind) (a b : Int) (m : OpM) (nx : Nat) : Quiet (intBin op k a b m nx) nx := by
 cases op <;> simp only [intBin] <;> first
  | exact Quiet.done _ _
  | exact Quiet.fail _
  | exact Quiet.ite (Quiet.fail _) (Quiet.done _ _)
theorem quiet_shift (op : BinOp) (k : IntKind) (a b : Int) (nx : Nat) : Quiet (shiftS op k a b nx) nx := by
 unfold shiftS
 cases op <;> simp only [] <;> first
  | exact Quiet.fail _
  | exact Quiet.ite (Quiet.fail _) (Quiet.done _ _)
theorem quiet_str (op : BinOp) (a b : List UInt8) (nx : Nat) : Quiet (strBin op a b nx) nx := by
 unfold strBin
 cases op <;> simp only [] <;> first
  | exact Quiet.done _ _
  | exact Quiet.fail _
  | exact Quiet.ite (Quiet.done _ _) (Quiet.fail _)
theorem quiet_bin (op : BinOp) (t : TypeId) (x y : SV) (nx : Nat) : Quiet (binS P op t x y nx) nx := by
 unfold binS
 split
 · split
   · exact quiet_shift _ _ _ _ _
   · exact quiet_shift _ _ _ _ _
   · cases ikEq _ _
     · exact Quiet.fail _
     · exact quiet_intBin _ _ _ _ .fail _
 · exact quiet_str _ _ _ _
 · split <;> first | exact Quiet.done _ _ | exact Quiet.fail _
 · rename_i as bs
   cases isAggT P t && plainEq P 40 t && !P.eqGuardType P.depth t && fitsAll P (leaves P 40 t) as && fitsAll P (leaves P 40 t) bs with
   | false => exact Quiet.fail _
   | true => simp only [cond_true]; split <;> first | exact Quiet.done _ _ | exact Quiet.fail _
 · exact Quiet.fail _
theorem quiet_conv (s d : TypeId) (x : SV) (nx : Nat) : Quiet (convS P s d x nx) nx := by
 unfold convS
 split <;> first | exact Quiet.done _ _ | exact Quiet.fail _
theorem quiet_build (t : TypeId) (ps : List (Nat × SV)) (nx : Nat) : Quiet (buildS P t ps nx) nx := by
 unfold buildS
 cases buildOk P t with
 | false => exact Quiet.fail _
 | true =>
  simp only [cond_true]
  split
  · split <;> first | exact Quiet.done _ _ | exact Quiet.fail _
  · exact Quiet.fail _
theorem quiet_indexAddr (t : TypeId) (x ix : SV) (nx : Nat) : Quiet (indexAddrS P t x ix nx) nx := by
 unfold indexAddrS
 split
 · rename_i e _ _ _
   cases knownT P e
   · exact Quiet.fail _
   · exact Quiet.ite (Quiet.done _ _) (Quiet.fail _)
 · rename_i e _ _ _ _ _
   cases knownT P e
   · exact Quiet.fail _
   · exact Quiet.ite (Quiet.done _ _) (Quiet.fail _)
 · exact Quiet.fail _
theorem quiet_index (t : TypeId) (x ix : SV) (nx : Nat) : Quiet (indexS P t x ix nx) nx := by
 unfold indexS
 split
 · rename_i e _ _
   cases knownT P e
   · exact Quiet.fail _
   · simp only [cond_true]
     split
     · exact Quiet.ite (Quiet.done _ _) (Quiet.fail _)
     · exact Quiet.fail _
 · exact Quiet.ite (Quiet.done _ _) (Quiet.fail _)
 · exact Quiet.fail _
theorem quiet_builtin (b : Builtin) (tys : List TypeId) (args : List SV) (nx : Nat) : Quiet (builtinS P b tys args nx) nx := by
 unfold builtinS
 split
 · unfold lenS
   split <;> first | exact Quiet.done _ _ | exact Quiet.fail _
 · exact Quiet.fail _
theorem getD_mem (l : List Nat) (i : Nat) (h : i < l.length) : l.getD i 0 ∈ l := by
 have : l.getD i 0 = l[i] := by simp [List.getD_eq_getElem?_getD, h]
 rw [this]; exact List.getElem_mem h
theorem callS_wf {s : CSumm} {args : List SV} {h : HpF} {r : SV} {ups : List (Nat × Option Chunk)} {nx nx' : Nat} {rs : List Nat} (hm : mrun h (callS s args nx) = some (r, ups, nx', rs)) :
  nx ≤ nx' ∧ ∀ p ∈ ups, p.1 ∈ rs ∨ (nx ≤ p.1 ∧ p.1 < nx') := by
 unfold callS at hm
 dsimp only at hm
 obtain ⟨acc, rs1, rs2, hcl, hclosed, hargs, -, hrd, hm2, rfl⟩ := closeM_spec _ _ _ _ hm ⟨(fun p hp => by cases hp), List.nodup_nil⟩ (fun p hp => by cases hp)
 obtain ⟨v, u, hrun, rfl, rfl, rfl⟩ := ofCTree_run _ hm2
 refine ⟨by omega, fun p hp => ?_⟩
 have hk : p.1 ∈ (backUps _ u).map (·.1) := List.mem_map.2 ⟨p, hp, rfl⟩
 rw [backUps_keys] at hk
 obtain ⟨q, hq, he⟩ := List.mem_map.1 hk
 rw [← he]
 have hqb := boundN_mem (namesS v ++ namesU u) (acc.reverse.map (·.1)).length q.1 (List.mem_append.2 (.inr (namesU_key hq)))
 unfold backName
 cases hb : Nat.blt q.1 (acc.reverse.map (·.1)).length with
 | true =>
  simp only [cond_true]
  rw [Nat.blt_eq] at hb
  left
  have := getD_mem _ _ hb
  have : (acc.reverse.map (·.1)).getD q.1 0 ∈ acc.map (·.1) := by simpa using this
  rcases hrd _ this with h1 | h1
  · cases h1
  · exact List.mem_append.2 (.inl h1)
 | false =>
  simp only [cond_false]
  have : ¬ q.1 < (acc.reverse.map (·.1)).length := by intro hh; rw [← Nat.blt_eq] at hh; rw [hh] at hb; cases hb
  right
  omega
theorem opM0_wf {κ : Nat → Option CSumm} {o : Oper} {ev : Operand → SV} {h : HpF} {r : SV} {ups : List (Nat × Option Chunk)} {nx nx' : Nat} {rs : List Nat} (hm : mrun h (opM0 P κ o ev nx) = some (r, ups, nx', rs)) :
  nx ≤ nx' ∧ ∀ p ∈ ups, p.1 ∈ rs ∨ (nx ≤ p.1 ∧ p.1 < nx') := by
 have quiet : ∀ {m : OpM}, Quiet m nx → mrun h m = some (r, ups, nx', rs) → nx ≤ nx' ∧ ∀ p ∈ ups, p.1 ∈ rs ∨ (nx ≤ p.1 ∧ p.1 < nx') := by
  intro m hq hm
  obtain ⟨rfl, rfl⟩ := hq h r ups nx' rs hm
  exact ⟨Nat.le_refl _, fun p hp => by cases hp⟩
 have new : ∀ {r0 : SV} {c : Option Chunk}, mrun h (.done r0 [(nx, c)] (nx + 1)) = some (r, ups, nx', rs) → nx ≤ nx' ∧ ∀ p ∈ ups, p.1 ∈ rs ∨ (nx ≤ p.1 ∧ p.1 < nx') := by
  intro r0 c hm
  obtain ⟨_, rfl, rfl, _⟩ := mrun_done hm
  exact ⟨by omega, fun p hp => by simp at hp; subst hp; exact .inr (by omega)⟩
 obtain ⟨dst, op, type, pos, after, guard⟩ := o
 cases op <;> simp only [opM0] at hm <;> try (simp [mrun] at hm; done)
 case move x => exact quiet (Quiet.done _ _) hm
 case assign x => exact quiet (Quiet.done _ _) hm
 case pick c x y =>
  split at hm
  · exact quiet (Quiet.ite (Quiet.done _ _) (Quiet.done _ _)) hm
  · exact quiet (Quiet.fail _) hm
 case alloc t =>
  split at hm
  · split at hm
    · exact new hm
    · exact quiet (Quiet.fail _) hm
  · exact quiet (Quiet.fail _) hm
 case box t x =>
  split at hm
  · exact new hm
  · exact quiet (Quiet.fail _) hm
 case build t ps => exact quiet (quiet_build _ _ _) hm
 case load t x =>
  split at hm
  · rename_i y off he
    simp only [mrun] at hm
    cases hy : h y with
    | none => simp [hy] at hm
    | some c =>
     simp only [hy] at hm
     cases c with
     | seq e es => simp [mrun] at hm
     | loopr => simp [mrun] at hm
     | mpc => simp [mrun] at hm
     | mpb => simp [mrun] at hm
     | mpn => simp [mrun] at hm
     | mit => simp [mrun] at hm
     | sqo => simp [mrun] at hm
     | cells T vs =>
      simp only [] at hm
      cases hp : partS P t vs off with
      | none => simp [hp, mrun] at hm
      | some v =>
       simp only [hp, mrun, Option.some.injEq, Prod.mk.injEq] at hm
       obtain ⟨rfl, rfl, rfl, rfl⟩ := hm
       exact ⟨Nat.le_refl _, fun p hp => by cases hp⟩
  · exact quiet (Quiet.fail _) hm
 case store t x v =>
  split at hm
  · rename_i y off vs he hc
    cases hb : Nat.beq vs.length (P.cellsOf t) && knownT P t with
    | false => simp [hb, mrun] at hm
    | true =>
     simp only [hb, cond_true, mrun] at hm
     cases hy : h y with
     | none => simp [hy] at hm
     | some c =>
      simp only [hy] at hm
      cases c with
      | seq e es => simp [mrun] at hm
      | loopr => simp [mrun] at hm
      | mpc => simp [mrun] at hm
      | mpb => simp [mrun] at hm
      | mpn => simp [mrun] at hm
      | mit => simp [mrun] at hm
      | sqo => simp [mrun] at hm
      | cells T cs =>
       simp only [] at hm
       cases hs : splice cs off vs with
       | none => simp [hs, mrun] at hm
       | some cs' =>
        simp only [hs, mrun, Option.some.injEq, Prod.mk.injEq] at hm
        obtain ⟨rfl, rfl, rfl, rfl⟩ := hm
        exact ⟨Nat.le_refl _, fun p hp => by simp at hp; subst hp; exact .inl (by simp)⟩
  · exact quiet (Quiet.fail _) hm
 case nilCheck x => split at hm <;> first | exact quiet (Quiet.done _ _) hm | exact quiet (Quiet.fail _) hm
 case binOp op t x y yt =>
  split at hm
  · exact quiet (Quiet.done _ _) hm
  · exact quiet (Quiet.done _ _) hm
  · exact quiet (quiet_bin _ _ _ _ _) hm
 case unOp op t x => split at hm <;> first | exact quiet (Quiet.done _ _) hm | exact quiet (Quiet.fail _) hm
 case convert s d x => exact quiet (quiet_conv _ _ _ _) hm
 case makeFunc f as bs => split at hm <;> first | exact quiet (Quiet.done _ _) hm | exact quiet (Quiet.fail _) hm
 case fieldAddr t x f =>
  split at hm
  · split at hm
    · rename_i fd _
      cases hz : Nat.beq (P.cellsOf fd.type) 0 with
      | true => rw [hz] at hm; exact quiet (Quiet.fail _) hm
      | false => rw [hz] at hm; exact quiet (Quiet.done _ _) hm
    · exact quiet (Quiet.fail _) hm
  · exact quiet (Quiet.fail _) hm
 case field t x f =>
  split at hm
  · split at hm
    · split at hm
      · exact quiet (Quiet.done _ _) hm
      · exact quiet (Quiet.fail _) hm
    · exact quiet (Quiet.fail _) hm
  · exact quiet (Quiet.fail _) hm
 case extract x i =>
  split at hm
  · split at hm
    · exact quiet (Quiet.done _ _) hm
    · exact quiet (Quiet.fail _) hm
  · exact quiet (Quiet.fail _) hm
 case buildSlice t n ps =>
  unfold buildSliceS at hm
  split at hm
  · rename_i e _
    cases hk : knownT P e && Nat.ble (n * P.cellsOf e) 16777216 && !(Nat.beq (P.cellsOf e) 0) with
    | false => rw [hk] at hm; exact quiet (Quiet.fail _) hm
    | true =>
     rw [hk] at hm
     simp only [cond_true] at hm
     split at hm
     · split at hm
       · rename_i zs _
         cases hb : Nat.beq zs.length (P.cellsOf e) with
         | false => rw [hb] at hm; exact quiet (Quiet.fail _) hm
         | true =>
          rw [hb] at hm
          simp only [cond_true] at hm
          split at hm
          · exact new hm
          · exact quiet (Quiet.fail _) hm
       · exact quiet (Quiet.fail _) hm
     · exact quiet (Quiet.fail _) hm
  · exact quiet (Quiet.fail _) hm
 case makeSlice t l c =>
  unfold makeSliceS at hm
  split at hm
  · rename_i e _ a _ b _ _ _
    cases hst : isStrT P e with
    | true => rw [hst] at hm; exact quiet (Quiet.fail _) hm
    | false =>
    rw [hst] at hm
    simp only [cond_false] at hm
    split at hm
    · split at hm
      · split at hm
        · rename_i zs _
          cases hb : Nat.beq zs.length (P.cellsOf e) && !(Nat.beq (P.cellsOf e) 0) with
          | false => rw [hb] at hm; exact quiet (Quiet.fail _) hm
          | true =>
           rw [hb] at hm
           simp only [cond_true] at hm
           unfold mrun at hm
           split at hm
           · exact new hm
           · cases hm
        · exact quiet (Quiet.fail _) hm
      · exact quiet (Quiet.fail _) hm
    · exact quiet (Quiet.fail _) hm
  · exact quiet (Quiet.fail _) hm
 case slice t x lo hi mx =>
  refine quiet ?_ hm
  unfold sliceS
  split
  · split
    · have qc : ∀ (b : Bool) (m : OpM), Quiet m nx → Quiet (bif b then m else .fail) nx := fun b m h => by
        cases b
        · exact Quiet.fail _
        · exact h
      refine qc _ _ ?_
      unfold slicedS
      exact Quiet.ite (Quiet.ite (Quiet.done _ _) (Quiet.done _ _)) (Quiet.fail _)
    · exact Quiet.fail _
  · exact Quiet.fail _
 case indexAddr t x ix => exact quiet (quiet_indexAddr _ _ _ _) hm
 case index t x ix => exact quiet (quiet_index _ _ _ _) hm
 case call c =>
  split at hm
  · split at hm
    · rename_i g first caps _
      unfold callM at hm
      cases hk : κ g with
      | none => simp [hk, mrun] at hm
      | some s =>
       simp only [hk] at hm
       exact callS_wf hm
    · exact quiet (Quiet.fail _) hm
  · exact quiet (quiet_builtin _ _ _ _) hm
  · split at hm
    · split at hm
      · rename_i g _
        unfold callM at hm
        cases hk : κ g with
        | none => simp [hk, mrun] at hm
        | some s =>
         simp only [hk] at hm
         exact callS_wf hm
      · exact quiet (Quiet.fail _) hm
    · exact quiet (Quiet.fail _) hm
theorem opM_wf {κ : Nat → Option CSumm} {o : Oper} {ev : Operand → SV} {h : HpF} {r : SV} {ups : List (Nat × Option Chunk)} {nx nx' : Nat} {rs : List Nat} (hm : mrun h (opM P κ o ev nx) = some (r, ups, nx', rs)) :
  nx ≤ nx' ∧ ∀ p ∈ ups, p.1 ∈ rs ∨ (nx ≤ p.1 ∧ p.1 < nx') := by
 rcases opM_cases (P := P) (κ := κ) (o := o) (ev := ev) (nx := nx) with hc | hc <;> rw [hc] at hm
 · obtain ⟨-, h1, h2⟩ := chkM_run hm
   refine ⟨h1, fun p hp => ?_⟩
   rcases h2 p hp with h3 | h3 | h3
   · cases h3
   · exact .inl h3
   · exact .inr h3
 · exact opM0_wf hm
/- In the order of the text. -/
def Fr (nx : Nat) (θ : Th) (h : HpF) : Prop := ∀ x, nx ≤ x → θ x = none ∧ h x = none
theorem Fr.step {nx nx' : Nat} {θ θ' : Th} {h : HpF} {w w' : World} {Im Im' : Nat → Prop} {ups : List (Nat × Option Chunk)} {rs : List Nat} (f : Fr nx θ h) (hle : nx ≤ nx') (hk : ∀ p ∈ ups, p.1 ∈ rs ∨ (nx ≤ p.1 ∧ p.1 < nx')) (hrs : ∀ x ∈ rs, ∃ c, h x = some c)
  (he : Ext (fun x => nx ≤ x ∧ x < nx') h w Im θ (updF ups h) w' Im' θ') : Fr nx' θ' (updF ups h) := by
 intro x hx
 refine ⟨by rw [he.thOld x (by omega)]; exact (f x (by omega)).1, ?_⟩
 rw [updF_not]
 · exact (f x (by omega)).2
 · intro hh
   obtain ⟨p, hp, rfl⟩ := List.mem_map.1 hh
   rcases hk p hp with h1 | h1
   · obtain ⟨c, hc⟩ := hrs _ h1
     rw [(f p.1 (by omega)).2] at hc; cases hc
   · omega
theorem seq_sound {κ : Nat → Option CSumm} (hκ : KOk P κ) {all : List Oper} {n : Nat} {nx0 : Nat} {h0 : HpF} {w0 : World} {Im0 : Nat → Prop} {θ0 : Th} {ro : Option Nat} {ds : List Deferred} {Q : Exit → Act → World → Prop} :
  ∀ {os : List Oper} {T T' : Nat → SV} {h h' : HpF} {nx nx' : Nat} {recs : List Rec}, Txt P κ all n os T h nx recs T' h' nx' →
   ∀ (i : Nat) (a : Act) (w : World) (Im : Nat → Prop) (θ : Th), all.drop i = os → a.defers = ds → SimF P ω n T h a w Im θ → Fr nx θ h → nx0 ≤ nx → Ext (fun x => nx0 ≤ x) h0 w0 Im0 θ0 h w Im θ →
   (∀ a' w' Im' θ', a'.defers = ds → SimF P ω n T' h' a' w' Im' θ' → Fr nx' θ' h' → nx0 ≤ nx' → Ext (fun x => nx0 ≤ x) h0 w0 Im0 θ0 h' w' Im' θ' → Q .normal a' w') → wpOpsIn (FR ro) 0 P all.toArray Q (List.range' i os.length) a w := by
 intro os T T' h h' nx nx' recs ht
 induction ht with
 | nil =>
  intro i a w Im θ _ hdf hs hf hn he hQ
  exact hQ a w Im θ hdf hs hf hn he
 | run hd hw hm _ ih =>
  rename_i o os T T' h h' nx nx1 nx' r ups rs recs _
  intro i a w Im θ hall hdf hs hf hn he hQ
  have ho : all[i]? = some o := by
   have := congrArg (·[0]?) hall
   simpa using this
  obtain ⟨hle, hkeys⟩ := opM_wf hm
  simp only [List.length_cons, List.range'_succ, wpOpsIn, List.getElem?_toArray, ho]
  rw [wanted_eq hs hw]
  simp only [if_true]
  refine op_good hκ hs.hp (fun x _ => hs.eval x) (fun x h1 h2 => hf x h1) hm ro _ _ (fun v w' Im' θ' hE hv hH => ?_)
  have hs' := hs.step hd hE hv hH
  refine ih (i + 1) _ w' Im' θ' ?_ (by rw [put_defers]; exact hdf) hs' (hf.step hle hkeys (mrun_reads _ _ hm) hE) (by omega) (he.trans (hE.mono (fun x hx => by omega))) hQ
  have := congrArg List.tail hall
  simpa using this
 | skip hd hw _ ih =>
  rename_i o os T T' h h' nx nx' recs _
  intro i a w Im θ hall hdf hs hf hn he hQ
  have ho : all[i]? = some o := by
   have := congrArg (·[0]?) hall
   simpa using this
  simp only [List.length_cons, List.range'_succ, wpOpsIn, List.getElem?_toArray, ho]
  rw [wanted_eq hs hw]
  simp only [Bool.false_eq_true, if_false]
  refine ⟨fun f _ => FR_fn ro f, ih (i + 1) _ w Im θ ?_ (by rw [put_defers]; exact hdf) (hs.skip hd) hf hn he hQ⟩
  have := congrArg List.tail hall
  simpa using this
/- In any order. -/
abbrev OR := List (Oper × Rec)
def TD : OR → (Nat → Bool) → Nat → (Nat → SV) → (Nat → SV)
 | [], _, _, T => T
 | (o, ρ) :: l, D, i, T => TD l D (i + 1) (if D i then updT T o.dst ρ.r else T)
def HD : OR → (Nat → Bool) → Nat → HpF → HpF
 | [], _, _, h => h
 | (_, ρ) :: l, D, i, h => HD l D (i + 1) (if D i then updF ρ.ups h else h)
theorem TD_congr : ∀ (l : OR) (D D' : Nat → Bool) (i : Nat) (T T' : Nat → SV) (t : Nat), T t = T' t → (∀ j o ρ, l[j]? = some (o, ρ) → o.dst = some t → D (i + j) = D' (i + j)) → TD l D i T t = TD l D' i T' t
 | [], _, _, _, _, _, _, h, _ => h
 | (o, ρ) :: l, D, D', i, T, T', t, h, hj => by
  simp only [TD]
  refine TD_congr l D D' (i + 1) _ _ t ?_ (fun j o' ρ' hl hd => by
   have := hj (j + 1) o' ρ' (by simpa using hl) hd
   rwa [show i + 1 + j = i + (j + 1) by omega])
  by_cases hd : o.dst = some t
  · have := hj 0 o ρ rfl hd
    simp only [Nat.add_zero] at this
    rw [this]
    cases D' i <;> simp [updT, hd, h]
  · have e : ∀ (S : Nat → SV), updT S o.dst ρ.r t = S t := by
      intro S
      cases ho : o.dst with
      | none => rfl
      | some d =>
       have : t ≠ d := by intro e; subst e; exact hd ho
       simp [updT, this]
    cases D i <;> cases D' i <;> simp [e, h]
theorem HD_congr : ∀ (l : OR) (D D' : Nat → Bool) (i : Nat) (h h' : HpF) (x : Nat), h x = h' x → (∀ j o ρ, l[j]? = some (o, ρ) → x ∈ ρ.ups.map (·.1) → D (i + j) = D' (i + j)) → HD l D i h x = HD l D' i h' x
 | [], _, _, _, _, _, _, h, _ => h
 | (o, ρ) :: l, D, D', i, h, h', x, hx, hj => by
  simp only [HD]
  refine HD_congr l D D' (i + 1) _ _ x ?_ (fun j o' ρ' hl hd => by
   have := hj (j + 1) o' ρ' (by simpa using hl) hd
   rwa [show i + 1 + j = i + (j + 1) by omega])
  by_cases hd : x ∈ ρ.ups.map (·.1)
  · have := hj 0 o ρ rfl hd
    simp only [Nat.add_zero] at this
    rw [this]
    cases D' i
    · simpa using hx
    · simp only [if_true]; exact updF_key hd
  · have e : ∀ (S : HpF), updF ρ.ups S x = S x := fun S => updF_not hd
    cases D i <;> cases D' i <;> simp [e, hx]
theorem TD_add : ∀ (l : OR) (D : Nat → Bool) (i k : Nat) (T : Nat → SV) (o : Oper) (ρ : Rec), l[k]? = some (o, ρ) → D (i + k) = false → (∀ j o' ρ', k < j → l[j]? = some (o', ρ') → D (i + j) = true → ∀ d, o.dst = some d → o'.dst ≠ some d) →
  TD l (fun j => D j || j == i + k) i T = updT (TD l D i T) o.dst ρ.r
 | [], _, _, _, _, _, _, h, _, _ => by simp at h
 | (o1, ρ1) :: l, D, i, 0, T, o, ρ, h, hD, hj => by
  simp only [List.getElem?_cons_zero, Option.some.injEq, Prod.mk.injEq] at h
  obtain ⟨rfl, rfl⟩ := h
  simp only [Nat.add_zero] at hD
  funext t
  simp only [TD, Nat.add_zero, beq_self_eq_true, Bool.or_true, if_true, hD, Bool.false_eq_true, if_false]
  by_cases hd : o1.dst = some t
  · have e1 : TD l (fun j => D j || j == i) (i + 1) (updT T o1.dst ρ1.r) t = updT T o1.dst ρ1.r t := by
      have gen : ∀ (l' : OR) (i' : Nat) (S : Nat → SV), (∀ j o' ρ', l'[j]? = some (o', ρ') → (fun j => D j || j == i) (i' + j) = true → o'.dst ≠ some t) → TD l' (fun j => D j || j == i) i' S t = S t := by
       intro l'
       induction l' with
       | nil => intros; rfl
       | cons p l' ih =>
        obtain ⟨o2, ρ2⟩ := p
        intro i' S hh
        simp only [TD]
        rw [ih (i' + 1) _ (fun j o' ρ' hl hD' => hh (j + 1) o' ρ' (by simpa using hl) (by rwa [show i' + (j + 1) = i' + 1 + j by omega]))]
        split
        · rename_i hDi
          have := hh 0 o2 ρ2 rfl (by simpa using hDi)
          cases h2 : o2.dst with
          | none => rfl
          | some d2 =>
           have : t ≠ d2 := by intro e; subst e; exact this h2
           simp [updT, this]
        · rfl
      refine gen l (i + 1) _ (fun j o' ρ' hl hD' => ?_)
      refine hj (j + 1) o' ρ' (by omega) (by simpa using hl) ?_ t hd
      rw [show i + (j + 1) = i + 1 + j by omega]
      simp only [Bool.or_eq_true] at hD'
      rcases hD' with h1 | h1
      · exact h1
      · simp at h1; omega
    rw [e1]
    simp [updT, hd]
  · have e : ∀ (S : Nat → SV), updT S o1.dst ρ1.r t = S t := by
      intro S
      cases ho : o1.dst with
      | none => rfl
      | some d =>
       have : t ≠ d := by intro e; subst e; exact hd ho
       simp [updT, this]
    rw [e]
    refine TD_congr l _ _ (i + 1) _ _ t (e T) (fun j o' ρ' hl hd' => ?_)
    have : (i + 1 + j == i) = false := by simp; omega
    simp [this]
 | (o1, ρ1) :: l, D, i, k + 1, T, o, ρ, h, hD, hj => by
  simp only [TD]
  have hne : (i == i + (k + 1)) = false := by simp
  simp only [hne, Bool.or_false]
  rw [show (fun j => D j || j == i + (k + 1)) = (fun j => D j || j == (i + 1) + k) by funext j; rw [show i + (k + 1) = i + 1 + k by omega]]
  exact TD_add l D (i + 1) k _ o ρ (by simpa using h) (by rwa [show i + 1 + k = i + (k + 1) by omega]) (fun j o' ρ' hkj hl hD' => hj (j + 1) o' ρ' (by omega) (by simpa using hl) (by rwa [show i + (j + 1) = i + 1 + j by omega]))
theorem HD_add : ∀ (l : OR) (D : Nat → Bool) (i k : Nat) (h : HpF) (o : Oper) (ρ : Rec), l[k]? = some (o, ρ) → D (i + k) = false → (∀ j o' ρ', k < j → l[j]? = some (o', ρ') → D (i + j) = true → ∀ x, x ∈ ρ.ups.map (·.1) → x ∉ ρ'.ups.map (·.1)) →
  HD l (fun j => D j || j == i + k) i h = updF ρ.ups (HD l D i h)
 | [], _, _, _, _, _, _, h, _, _ => by simp at h
 | (o1, ρ1) :: l, D, i, 0, h0, o, ρ, h, hD, hj => by
  simp only [List.getElem?_cons_zero, Option.some.injEq, Prod.mk.injEq] at h
  obtain ⟨rfl, rfl⟩ := h
  simp only [Nat.add_zero] at hD
  funext x
  simp only [HD, Nat.add_zero, beq_self_eq_true, Bool.or_true, if_true, hD, Bool.false_eq_true, if_false]
  by_cases hd : x ∈ ρ1.ups.map (·.1)
  · have e1 : HD l (fun j => D j || j == i) (i + 1) (updF ρ1.ups h0) x = updF ρ1.ups h0 x := by
      have gen : ∀ (l' : OR) (i' : Nat) (S : HpF), (∀ j o' ρ', l'[j]? = some (o', ρ') → (fun j => D j || j == i) (i' + j) = true → x ∉ ρ'.ups.map (·.1)) → HD l' (fun j => D j || j == i) i' S x = S x := by
       intro l'
       induction l' with
       | nil => intros; rfl
       | cons p l' ih =>
        obtain ⟨o2, ρ2⟩ := p
        intro i' S hh
        simp only [HD]
        rw [ih (i' + 1) _ (fun j o' ρ' hl hD' => hh (j + 1) o' ρ' (by simpa using hl) (by rwa [show i' + (j + 1) = i' + 1 + j by omega]))]
        split
        · rename_i hDi
          have := hh 0 o2 ρ2 rfl (by simpa using hDi)
          exact updF_not this
        · rfl
      refine gen l (i + 1) _ (fun j o' ρ' hl hD' => ?_)
      refine hj (j + 1) o' ρ' (by omega) (by simpa using hl) ?_ x hd
      rw [show i + (j + 1) = i + 1 + j by omega]
      simp only [Bool.or_eq_true] at hD'
      rcases hD' with h1 | h1
      · exact h1
      · simp at h1; omega
    rw [e1]
    exact updF_key hd
  · rw [updF_not hd]
    refine HD_congr l _ _ (i + 1) _ _ x (updF_not hd) (fun j o' ρ' hl hd' => ?_)
    have : (i + 1 + j == i) = false := by simp; omega
    simp [this]
 | (o1, ρ1) :: l, D, i, k + 1, h0, o, ρ, h, hD, hj => by
  simp only [HD]
  have hne : (i == i + (k + 1)) = false := by simp
  simp only [hne, Bool.or_false]
  rw [show (fun j => D j || j == i + (k + 1)) = (fun j => D j || j == (i + 1) + k) by funext j; rw [show i + (k + 1) = i + 1 + k by omega]]
  exact HD_add l D (i + 1) k _ o ρ (by simpa using h) (by rwa [show i + 1 + k = i + (k + 1) by omega]) (fun j o' ρ' hkj hl hD' => hj (j + 1) o' ρ' (by omega) (by simpa using hl) (by rwa [show i + (j + 1) = i + 1 + j by omega]))
theorem TD_shift : ∀ (l : OR) (D : Nat → Bool) (i : Nat) (T : Nat → SV), TD l D (i + 1) T = TD l (fun j => D (j + 1)) i T
 | [], _, _, _ => rfl
 | (o, ρ) :: l, D, i, T => by simp only [TD]; exact TD_shift l D (i + 1) _
theorem HD_shift : ∀ (l : OR) (D : Nat → Bool) (i : Nat) (h : HpF), HD l D (i + 1) h = HD l (fun j => D (j + 1)) i h
 | [], _, _, _ => rfl
 | (o, ρ) :: l, D, i, h => by simp only [HD]; exact HD_shift l D (i + 1) _
theorem TD_none : ∀ (l : OR) (D : Nat → Bool) (i : Nat) (T : Nat → SV), (∀ j, i ≤ j → D j = false) → TD l D i T = T
 | [], _, _, _, _ => rfl
 | (o, ρ) :: l, D, i, T, h => by
  simp only [TD, h i (Nat.le_refl _), Bool.false_eq_true, if_false]
  exact TD_none l D (i + 1) T (fun j hj => h j (by omega))
theorem HD_none : ∀ (l : OR) (D : Nat → Bool) (i : Nat) (h : HpF), (∀ j, i ≤ j → D j = false) → HD l D i h = h
 | [], _, _, _, _ => rfl
 | (o, ρ) :: l, D, i, h0, h => by
  simp only [HD, h i (Nat.le_refl _), Bool.false_eq_true, if_false]
  exact HD_none l D (i + 1) h0 (fun j hj => h j (by omega))
def upTo (i : Nat) : Nat → Bool := fun j => Nat.blt j i
theorem upTo_iff {i j : Nat} : upTo i j = true ↔ j < i := by simp [upTo, Nat.blt_eq]
theorem upTo_false {i j : Nat} : upTo i j = false ↔ ¬ j < i := by
 rw [← upTo_iff]; simp
theorem upTo_succ (i : Nat) : (fun j => upTo (i + 1) (j + 1)) = upTo i := by
 funext j
 have h1 := @upTo_iff (i + 1) (j + 1)
 have h2 := @upTo_iff i j
 cases h3 : upTo (i + 1) (j + 1) <;> cases h4 : upTo i j <;> first | rfl | (rw [h3] at h1; rw [h4] at h2; simp at h1 h2; omega)
structure Fact (P : Program) (κ : Nat → Option CSumm) (all : List Oper) (n : Nat) (l : OR) (T : Nat → SV) (h : HpF) (nx nx' : Nat) (i : Nat) (o : Oper) (ρ : Rec) : Prop where
 dst : dstN n o.dst
 want : wantedT all n (TD l (upTo i) 0 T) o = some ρ.ex
 run : ρ.ex = true → mrun (HD l (upTo i) 0 h) (opM P κ o (evT (TD l (upTo i) 0 T)) ρ.nx0) = some (ρ.r, ρ.ups, ρ.nx1, ρ.rs)
 idle : ρ.ex = false → ρ.r = .tup [] ∧ ρ.ups = [] ∧ ρ.nx1 = ρ.nx0 ∧ ρ.rs = []
 lo : nx ≤ ρ.nx0
 mid : ρ.nx0 ≤ ρ.nx1
 hi : ρ.nx1 ≤ nx'
 dom : ∀ x c, HD l (upTo i) 0 h x = some c → x < ρ.nx0
theorem txt_facts {κ : Nat → Option CSumm} {all : List Oper} {n : Nat} {os : List Oper} {T T' : Nat → SV} {h h' : HpF} {nx nx' : Nat} {recs : List Rec} (ht : Txt P κ all n os T h nx recs T' h' nx') :
  (∀ x c, h x = some c → x < nx) → recs.length = os.length ∧ nx ≤ nx' ∧ T' = TD (os.zip recs) (fun _ => true) 0 T ∧ h' = HD (os.zip recs) (fun _ => true) 0 h ∧
   (∀ (i : Nat) (o : Oper) (ρ : Rec), (os.zip recs)[i]? = some (o, ρ) → Fact P κ all n (os.zip recs) T h nx nx' i o ρ) ∧
   (∀ (i j : Nat) (o : Oper) (ρ : Rec) (o' : Oper) (ρ' : Rec), i < j → (os.zip recs)[i]? = some (o, ρ) → (os.zip recs)[j]? = some (o', ρ') → ρ.nx1 ≤ ρ'.nx0) := by
 induction ht with
 | nil => intro _; exact ⟨rfl, Nat.le_refl _, rfl, rfl, fun i o ρ h => by simp at h, fun i j o ρ o' ρ' _ h => by simp at h⟩
 | run hd hw hm _ ih =>
  rename_i o os T T' h h' nx nx1 nx' r ups rs recs _
  intro hdom
  obtain ⟨hle, hkeys⟩ := opM_wf hm
  have hdom1 : ∀ x c, updF ups h x = some c → x < nx1 := by
   intro x c hx
   rcases updF_mem hx with h1 | ⟨_, h1⟩
   · rcases hkeys _ h1 with h2 | h2
     · obtain ⟨c', hc'⟩ := mrun_reads _ _ hm x h2
       have := hdom x c' hc'; omega
     · exact h2.2
   · have := hdom x c h1; omega
  obtain ⟨i1, i2, i3, i4, i5, i6⟩ := ih hdom1
  refine ⟨by simp [i1], by omega, ?_, ?_, ?_, ?_⟩
  · simp only [List.zip_cons_cons, TD, if_true]; rw [TD_shift]; exact i3
  · simp only [List.zip_cons_cons, HD, if_true]; rw [HD_shift]; exact i4
  · intro i o' ρ' hi
    cases i with
    | zero =>
     simp only [List.zip_cons_cons, List.getElem?_cons_zero, Option.some.injEq, Prod.mk.injEq] at hi
     obtain ⟨rfl, rfl⟩ := hi
     have hz : ∀ j, 0 ≤ j → upTo 0 j = false := fun j _ => upTo_false.2 (by omega)
     refine ⟨hd, ?_, fun _ => ?_, (fun h => by cases h), Nat.le_refl _, hle, i2, ?_⟩
     · rw [TD_none _ _ _ _ hz]; exact hw
     · rw [TD_none _ _ _ _ hz, HD_none _ _ _ _ hz]; exact hm
     · rw [HD_none _ _ _ _ hz]; exact hdom
    | succ i =>
     have f := i5 i o' ρ' (by simpa using hi)
     have e1 : TD (((o, (⟨true, r, ups, nx, nx1, rs⟩ : Rec)) :: os.zip recs)) (upTo (i + 1)) 0 T = TD (os.zip recs) (upTo i) 0 (updT T o.dst r) := by
      simp only [TD, upTo_iff.2 (Nat.succ_pos i), if_true]
      rw [TD_shift, upTo_succ]
     have e2 : HD (((o, (⟨true, r, ups, nx, nx1, rs⟩ : Rec)) :: os.zip recs)) (upTo (i + 1)) 0 h = HD (os.zip recs) (upTo i) 0 (updF ups h) := by
      simp only [HD, upTo_iff.2 (Nat.succ_pos i), if_true]
      rw [HD_shift, upTo_succ]
     simp only [List.zip_cons_cons]
     refine ⟨f.dst, ?_, fun he => ?_, f.idle, by have := f.lo; omega, f.mid, f.hi, ?_⟩
     · rw [e1]; exact f.want
     · rw [e1, e2]; exact f.run he
     · rw [e2]; exact f.dom
  · intro i j o1 ρ1 o2 ρ2 hij hi hj
    cases j with
    | zero => omega
    | succ j =>
     cases i with
     | zero =>
      simp only [List.zip_cons_cons, List.getElem?_cons_zero, Option.some.injEq, Prod.mk.injEq] at hi
      obtain ⟨rfl, rfl⟩ := hi
      exact (i5 j o2 ρ2 (by simpa using hj)).lo
     | succ i => exact i6 i j o1 ρ1 o2 ρ2 (by omega) (by simpa using hi) (by simpa using hj)
 | skip hd hw _ ih =>
  rename_i o os T T' h h' nx nx' recs _
  intro hdom
  obtain ⟨i1, i2, i3, i4, i5, i6⟩ := ih hdom
  refine ⟨by simp [i1], by omega, ?_, ?_, ?_, ?_⟩
  · simp only [List.zip_cons_cons, TD, if_true]; rw [TD_shift]; exact i3
  · simp only [List.zip_cons_cons, HD, if_true, updF]; rw [HD_shift]; exact i4
  · intro i o' ρ' hi
    cases i with
    | zero =>
     simp only [List.zip_cons_cons, List.getElem?_cons_zero, Option.some.injEq, Prod.mk.injEq] at hi
     obtain ⟨rfl, rfl⟩ := hi
     have hz : ∀ j, 0 ≤ j → upTo 0 j = false := fun j _ => upTo_false.2 (by omega)
     refine ⟨hd, ?_, (fun h => by cases h), fun _ => ⟨rfl, rfl, rfl, rfl⟩, Nat.le_refl _, Nat.le_refl _, i2, ?_⟩
     · rw [TD_none _ _ _ _ hz]; exact hw
     · rw [HD_none _ _ _ _ hz]; exact hdom
    | succ i =>
     have f := i5 i o' ρ' (by simpa using hi)
     have e1 : TD (((o, (⟨false, .tup [], [], nx, nx, []⟩ : Rec)) :: os.zip recs)) (upTo (i + 1)) 0 T = TD (os.zip recs) (upTo i) 0 (updT T o.dst (.tup [])) := by
      simp only [TD, upTo_iff.2 (Nat.succ_pos i), if_true]
      rw [TD_shift, upTo_succ]
     have e2 : HD (((o, (⟨false, .tup [], [], nx, nx, []⟩ : Rec)) :: os.zip recs)) (upTo (i + 1)) 0 h = HD (os.zip recs) (upTo i) 0 h := by
      simp only [HD, upTo_iff.2 (Nat.succ_pos i), if_true, updF]
      rw [HD_shift, upTo_succ]
     simp only [List.zip_cons_cons]
     refine ⟨f.dst, ?_, fun he => ?_, f.idle, f.lo, f.mid, f.hi, ?_⟩
     · rw [e1]; exact f.want
     · rw [e1, e2]; exact f.run he
     · rw [e2]; exact f.dom
  · intro i j o1 ρ1 o2 ρ2 hij hi hj
    cases j with
    | zero => omega
    | succ j =>
     cases i with
     | zero =>
      simp only [List.zip_cons_cons, List.getElem?_cons_zero, Option.some.injEq, Prod.mk.injEq] at hi
      obtain ⟨rfl, rfl⟩ := hi
      exact (i5 j o2 ρ2 (by simpa using hj)).lo
     | succ i => exact i6 i j o1 ρ1 o2 ρ2 (by omega) (by simpa using hi) (by simpa using hj)
end Go.Am
/- The abstract machine: a region that draws its order. -/
namespace Go.Am
variable {P : Program} {ω : Nat → Value}
/- What stands ahead of what. -/
theorem bef1_bit {bs : List Nat} {o : Oper} {k : Nat} (h : (bef1 bs o).testBit k = true) : ∃ e ∈ o.after.toList, Region.binds .any e = true ∧ (k = e.on ∨ (bs.getD e.on 0).testBit k = true) := by
 unfold bef1 at h
 generalize o.after.toList = l at h
 have gen : ∀ (l : List Edge) (s : Nat), (l.foldl (fun s e => bif Region.binds .any e then s ||| 2 ^ e.on ||| bs.getD e.on 0 else s) s).testBit k = true → s.testBit k = true ∨ ∃ e ∈ l, Region.binds .any e = true ∧ (k = e.on ∨ (bs.getD e.on 0).testBit k = true) := by
  intro l
  induction l with
  | nil => intro s h; exact .inl h
  | cons e l ih =>
   intro s h
   rcases ih _ h with h1 | ⟨e', he', h1⟩
   · simp only [] at h1
     cases hb : Region.binds .any e with
     | false => rw [hb] at h1; exact .inl h1
     | true =>
      rw [hb] at h1
      simp only [cond_true, Nat.testBit_or, Bool.or_eq_true] at h1
      rcases h1 with (h1 | h1) | h1
      · exact .inl h1
      · rw [Nat.testBit_two_pow] at h1
        exact .inr ⟨e, by simp, hb, .inl (by have := of_decide_eq_true h1; omega)⟩
      · exact .inr ⟨e, by simp, hb, .inr h1⟩
   · exact .inr ⟨e', by simp [he'], h1⟩
 rcases gen l 0 h with h1 | h1
 · simp at h1
 · exact h1
theorem befAll_pre : ∀ (os : List Oper) (bs : List Nat) (i : Nat), i < bs.length → (befAll os bs)[i]? = bs[i]?
 | [], _, _, _ => rfl
 | o :: os, bs, i, h => by
  simp only [befAll]
  rw [befAll_pre os _ i (by simp; omega), List.getElem?_append_left h]
theorem befAll_at : ∀ (os : List Oper) (bs : List Nat) (i : Nat) (o : Oper), os[i]? = some o → (befAll os bs)[bs.length + i]? = some (bef1 ((befAll os bs).take (bs.length + i)) o)
 | [], _, _, _, h => by simp at h
 | o1 :: os, bs, 0, o, h => by
  simp only [List.getElem?_cons_zero, Option.some.injEq] at h
  subst h
  simp only [befAll, Nat.add_zero]
  rw [befAll_pre os _ _ (by simp)]
  have e : (befAll os (bs ++ [bef1 bs o1])).take bs.length = bs := by
   apply List.ext_getElem?
   intro j
   rw [List.getElem?_take]
   split
   · rename_i hj
     rw [befAll_pre os _ j (by simp; omega), List.getElem?_append_left hj]
   · rename_i hj
     rw [List.getElem?_eq_none (by omega)]
  rw [e]
  simp
 | o1 :: os, bs, i + 1, o, h => by
  simp only [befAll]
  have := befAll_at os (bs ++ [bef1 bs o1]) i o (by simpa using h)
  simp only [List.length_append, List.length_cons, List.length_nil] at this
  rw [show bs.length + (i + 1) = bs.length + (0 + 1) + i by omega]
  exact this
structure Static (all : List Oper) (bs : List Nat) : Prop where
 bit : ∀ (i : Nat) (o : Oper), all[i]? = some o → ∀ k, (bs.getD i 0).testBit k = true → ∃ e ∈ o.after.toList, Region.binds .any e = true ∧ (k = e.on ∨ (bs.getD e.on 0).testBit k = true)
 back : ∀ (i : Nat) (o : Oper), all[i]? = some o → ∀ e ∈ o.after.toList, Region.binds .any e = true → e.on < i
 pair : ∀ (i j : Nat) (o o' : Oper), i < j → all[i]? = some o → all[j]? = some o' → (bs.getD j 0).testBit i = true ∨ apartT all o o' = true
 guard : ∀ (i : Nat) (o : Oper) (g : Nat) (b : Bool), all[i]? = some o → o.guard = some (g, b) → (bs.getD i 0).testBit g = true
theorem staticRow_spec {all : List Oper} {b : Nat} {o : Oper} : ∀ (l : List Oper) (i : Nat), staticRow all b o l i = true → ∀ (j : Nat) (p : Oper), l[j]? = some p → b.testBit (i + j) = true ∨ apartT all p o = true
 | [], _, _, _, _, h => by simp at h
 | q :: l, i, hs, j, p, h => by
  simp only [staticRow, Bool.and_eq_true, Bool.or_eq_true] at hs
  cases j with
  | zero =>
   simp only [List.getElem?_cons_zero, Option.some.injEq] at h
   subst h
   simpa using hs.1
  | succ j =>
   have := staticRow_spec l (i + 1) hs.2 j p (by simpa using h)
   rwa [show i + 1 + j = i + (j + 1) by omega] at this
theorem staticOk_spec {all : List Oper} {bs : List Nat} : ∀ (os pre : List Oper) (j : Nat), staticOk all bs pre os j = true → pre.length = j →
  (∀ (k : Nat) (o : Oper), os[k]? = some o → (∀ e ∈ o.after.toList, Region.binds .any e = true → e.on < j + k) ∧ (∀ g b, o.guard = some (g, b) → (bs.getD (j + k) 0).testBit g = true) ∧
   (∀ (i : Nat) (p : Oper), i < j + k → (pre ++ os)[i]? = some p → (bs.getD (j + k) 0).testBit i = true ∨ apartT all p o = true))
 | [], _, _, _, _, k, o, h => by simp at h
 | o1 :: os, pre, j, hs, hl, k, o, h => by
  simp only [staticOk, Bool.and_eq_true] at hs
  obtain ⟨⟨⟨h1, h2⟩, h3⟩, h4⟩ := hs
  cases k with
  | zero =>
   simp only [List.getElem?_cons_zero, Option.some.injEq] at h
   subst h
   refine ⟨fun e he hb => ?_, fun g b hg => ?_, fun i p hi hp => ?_⟩
   · have := List.all_eq_true.1 h2 e he
     simp only [hb, Bool.not_true, Bool.false_or] at this
     rw [Nat.blt_eq] at this
     simpa using this
   · rw [hg] at h3; simpa using h3
   · have : pre[i]? = some p := by
       rw [List.getElem?_append_left (by omega)] at hp
       exact hp
     have := staticRow_spec pre 0 h1 i p this
     simpa using this
  | succ k =>
   have := staticOk_spec os (pre ++ [o1]) (j + 1) h4 (by simp [hl]) k o (by simpa using h)
   rw [show j + 1 + k = j + (k + 1) by omega] at this
   simpa using this
theorem static_of {all : List Oper} (h : staticOk all (befAll all []) [] all 0 = true) : Static all (befAll all []) := by
 have hs := staticOk_spec all [] 0 h rfl
 have hback : ∀ (i : Nat) (o : Oper), all[i]? = some o → ∀ e ∈ o.after.toList, Region.binds .any e = true → e.on < i := fun i o ho e he hb => by
  have := (hs i o ho).1 e he hb
  omega
 refine ⟨?_, hback, ?_, ?_⟩
 · intro i o ho k hk
   have hat := befAll_at all [] i o ho
   simp only [List.length_nil, Nat.zero_add] at hat
   have e1 : (befAll all []).getD i 0 = bef1 ((befAll all []).take i) o := by simp [List.getD_eq_getElem?_getD, hat]
   rw [e1] at hk
   obtain ⟨e, he, hb, h1⟩ := bef1_bit hk
   refine ⟨e, he, hb, ?_⟩
   rcases h1 with h1 | h1
   · exact .inl h1
   · right
     have hlt := hback i o ho e he hb
     rw [← h1]
     congr 1
     simp [List.getD_eq_getElem?_getD, hlt]
 · intro i j o o' hij ho ho'
   have := (hs j o' ho').2.2 i o (by omega) (by simpa using ho)
   simpa using this
 · intro i o g b ho hg
   have := (hs i o ho).2.1 g b hg
   simpa using this
theorem Static.lt {all : List Oper} {bs : List Nat} (s : Static all bs) : ∀ (i : Nat) (o : Oper), all[i]? = some o → ∀ k, (bs.getD i 0).testBit k = true → k < i := by
 intro i
 induction i using Nat.strongRecOn with
 | _ i ih =>
  intro o ho k hk
  obtain ⟨e, he, hb, h1⟩ := s.bit i o ho k hk
  have hlt := s.back i o ho e he hb
  rcases h1 with rfl | h1
  · exact hlt
  · have hilt : i < all.length := (List.getElem?_eq_some_iff.1 ho).1
    obtain ⟨o', ho'⟩ : ∃ o', all[e.on]? = some o' := ⟨all[e.on]'(by omega), by simp⟩
    have := ih e.on hlt o' ho' k h1
    omega
/- The feet. -/
def feet : Nat → List Rec → List Foot → List Foot
 | _, [], acc => acc
 | i, ρ :: l, acc => feet (i + 1) l (if ρ.ex then ⟨i, ρ.rs, ρ.ups.map (·.1)⟩ :: acc else acc)
theorem feet_spec {bs : List Nat} : ∀ (l : List Rec) (i : Nat) (acc : List Foot), footsOk bs (feet i l acc) = true → footsOk bs acc = true ∧
  (∀ (j : Nat) (ρ : Rec), l[j]? = some ρ → ρ.ex = true → ∀ g ∈ acc, (bs.getD (i + j) 0).testBit g.i = true ∨ apartF ⟨i + j, ρ.rs, ρ.ups.map (·.1)⟩ g = true) ∧
  (∀ (j k : Nat) (ρ σ : Rec), j < k → l[j]? = some ρ → l[k]? = some σ → ρ.ex = true → σ.ex = true → (bs.getD (i + k) 0).testBit (i + j) = true ∨ apartF ⟨i + k, σ.rs, σ.ups.map (·.1)⟩ ⟨i + j, ρ.rs, ρ.ups.map (·.1)⟩ = true)
 | [], i, acc, h => ⟨h, fun j ρ hj => by simp at hj, fun j k ρ σ _ hj => by simp at hj⟩
 | ρ0 :: l, i, acc, h => by
  simp only [feet] at h
  obtain ⟨h1, h2, h3⟩ := feet_spec l (i + 1) _ h
  have e : ∀ j, i + 1 + j = i + (j + 1) := fun j => by omega
  by_cases hx : ρ0.ex = true
  · simp only [hx, if_true] at h1 h2
    simp only [footsOk, Bool.and_eq_true] at h1
    refine ⟨h1.2, ?_, ?_⟩
    · intro j ρ hj hex g hg
      cases j with
      | zero =>
       simp only [List.getElem?_cons_zero, Option.some.injEq] at hj
       subst hj
       have := List.all_eq_true.1 h1.1 g hg
       simpa using this
      | succ j =>
       have := h2 j ρ (by simpa using hj) hex g (by simp [hg])
       rwa [e] at this
    · intro j k ρ σ hjk hj hk hex hex'
      cases k with
      | zero => omega
      | succ k =>
       cases j with
       | zero =>
        simp only [List.getElem?_cons_zero, Option.some.injEq] at hj
        subst hj
        have := h2 k σ (by simpa using hk) hex' ⟨i, ρ0.rs, ρ0.ups.map (·.1)⟩ (by simp)
        rwa [e] at this
       | succ j =>
        have := h3 j k ρ σ (by omega) (by simpa using hj) (by simpa using hk) hex hex'
        rwa [e, e] at this
  · simp only [hx, Bool.false_eq_true, if_false] at h1 h2
    refine ⟨h1, ?_, ?_⟩
    · intro j ρ hj hex g hg
      cases j with
      | zero =>
       simp only [List.getElem?_cons_zero, Option.some.injEq] at hj
       subst hj
       exact absurd hex hx
      | succ j =>
       have := h2 j ρ (by simpa using hj) hex g hg
       rwa [e] at this
    · intro j k ρ σ hjk hj hk hex hex'
      cases k with
      | zero => omega
      | succ k =>
       cases j with
       | zero =>
        simp only [List.getElem?_cons_zero, Option.some.injEq] at hj
        subst hj
        exact absurd hex hx
       | succ j =>
        have := h3 j k ρ σ (by omega) (by simpa using hj) (by simpa using hk) hex hex'
        rwa [e, e] at this
theorem overlap_false {a b : List Nat} (h : overlap a b = false) : ∀ x ∈ a, x ∉ b := by
 induction a with
 | nil => intro x hx; cases hx
 | cons y a ih =>
  simp only [overlap, Bool.or_eq_false_iff] at h
  intro x hx hb
  rcases List.mem_cons.1 hx with rfl | hx
  · rw [(memN_iff x b).2 hb] at h; exact absurd h.1 (by simp)
  · exact ih h.2 x hx hb
theorem apartF_spec {a b : Foot} (h : apartF a b = true) : (∀ x ∈ a.writes, x ∉ b.writes) ∧ (∀ x ∈ a.writes, x ∉ b.reads) ∧ (∀ x ∈ a.reads, x ∉ b.writes) := by
 simp only [apartF, Bool.and_eq_true, Bool.not_eq_true'] at h
 exact ⟨overlap_false h.1.1, overlap_false h.1.2, overlap_false h.2⟩
def looks (all : List Oper) (o : Oper) : List Nat := (match o.guard with
  | some (g, _) => match nth? all g with
   | some og => match og.dst with
    | some d => [d]
    | none => []
   | none => []
  | none => []) ++ tmpsOf o.op.operands.toList
theorem apartT_spec {all : List Oper} {x y : Oper} (h : apartT all x y = true) : (∀ d, x.dst = some d → d ∉ looks all y ∧ y.dst ≠ some d) ∧ (∀ d, y.dst = some d → d ∉ looks all x) := by
 simp only [apartT, Bool.and_eq_true] at h
 constructor
 · intro d hd
   have h1 := h.1
   rw [hd] at h1
   simp only [Bool.and_eq_true, Bool.not_eq_true'] at h1
   refine ⟨fun hm => ?_, fun hy => ?_⟩
   · have : memN d (looks all y) = true := (memN_iff _ _).2 hm
     rw [show memN d (looks all y) = false from h1.1] at this
     cases this
   · rw [hy] at h1
     have := h1.2
     simp only [Bool.not_eq_true'] at this
     rw [nb_t rfl] at this
     cases this
 · intro d hd hm
   have h2 := h.2
   rw [hd] at h2
   simp only [Bool.not_eq_true'] at h2
   have : memN d (looks all x) = true := (memN_iff _ _).2 hm
   rw [show memN d (looks all x) = false from h2] at this
   cases this
theorem tmpsOf_mem : ∀ {l : List Operand} {t : Nat}, .tmp t ∈ l → t ∈ tmpsOf l
 | [], _, h => by cases h
 | x :: l, t, h => by
  rcases List.mem_cons.1 h with rfl | h
  · simp [tmpsOf]
  · have ih := tmpsOf_mem h
    cases x <;> simp only [tmpsOf] <;> first | exact List.mem_cons.2 (.inr ih) | exact ih
def cnt (D : Nat → Bool) : Nat → Nat
 | 0 => 0
 | n + 1 => cnt D n + if D n then 0 else 1
theorem cnt_zero {D : Nat → Bool} : ∀ {n : Nat}, cnt D n = 0 → ∀ i, i < n → D i = true
 | 0, _, _, h => by omega
 | n + 1, h, i, hi => by
  simp only [cnt] at h
  rcases Nat.lt_succ_iff_lt_or_eq.1 hi with h1 | rfl
  · exact cnt_zero (by omega) i h1
  · cases hd : D i with
    | true => rfl
    | false => simp [hd] at h
theorem cnt_le {D D' : Nat → Bool} : ∀ {n : Nat}, (∀ i, i < n → D i = true → D' i = true) → cnt D' n ≤ cnt D n
 | 0, _ => Nat.le_refl _
 | n + 1, h => by
  have ih := cnt_le (n := n) (fun i hi => h i (by omega))
  simp only [cnt]
  cases hd : D n with
  | true => simp [h n (by omega) hd]; exact ih
  | false => cases D' n <;> simp <;> omega
theorem cnt_lt {D D' : Nat → Bool} : ∀ {n i : Nat}, (∀ j, j < n → D j = true → D' j = true) → i < n → D i = false → D' i = true → cnt D' n < cnt D n
 | 0, _, _, h, _, _ => by omega
 | n + 1, i, h, hi, h1, h2 => by
  simp only [cnt]
  rcases Nat.lt_succ_iff_lt_or_eq.1 hi with h3 | rfl
  · have := cnt_lt (n := n) (fun j hj => h j (by omega)) h3 h1 h2
    cases hd : D n with
    | true => simp [h n (by omega) hd]; exact this
    | false => cases D' n <;> simp <;> omega
  · have := cnt_le (n := i) (fun j hj => h j (by omega))
    simp [h1, h2]; omega
theorem ready_iff {ops : Array Oper} {listed : Array Bool} {i : Nat} : i ∈ Region.ready .any ops listed ↔ i < ops.size ∧ listed.getD i true = false ∧ ∃ o, ops[i]? = some o ∧ ∀ e ∈ o.after, Region.binds .any e = true → listed.getD e.on false = true := by
 unfold Region.ready
 simp only [List.mem_filter, List.mem_range, Bool.and_eq_true, Bool.not_eq_true']
 constructor
 · rintro ⟨h1, h2, h3⟩
   refine ⟨h1, h2, ops[i], by simp [h1], ?_⟩
   have e : ops[i]? = some ops[i] := by simp [h1]
   rw [e] at h3
   simp only [Option.map_some, Option.getD_some, Array.all_eq_true'] at h3
   intro x hx hb
   have := h3 x hx
   simpa [hb] using this
 · rintro ⟨h1, h2, o, ho, h3⟩
   refine ⟨h1, h2, ?_⟩
   rw [ho]
   simp only [Option.map_some, Option.getD_some, Array.all_eq_true']
   intro x hx
   cases hb : Region.binds .any x with
   | false => rfl
   | true => simpa using h3 x hx hb
theorem any_sound {κ : Nat → Option CSumm} (hκ : KOk P κ) {all : List Oper} {n : Nat} {T0 T' : Nat → SV} {h0 h' : HpF} {nxs nx0 nx' : Nat} {recs : List Rec} {hs : HpF} {ws : World} {Ims : Nat → Prop} {θs : Th} {ro : Option Nat} {ds : List Deferred} {Q : Exit → Act → World → Prop}
  (ht : Txt P κ all n all T0 h0 nx0 recs T' h' nx') (hdom0 : ∀ x c, h0 x = some c → x < nx0) (hnx : nxs ≤ nx0) {bs : List Nat} (st : Static all bs) (hf : footsOk bs (feet 0 recs []) = true)
  (hQ : ∀ a' w' Im' θ', a'.defers = ds → SimF P ω n T' h' a' w' Im' θ' → Fr nx' θ' h' → nxs ≤ nx' → Ext (fun x => nxs ≤ x) hs ws Ims θs h' w' Im' θ' → Q .normal a' w') :
  ∀ (fuel : Nat) (D : Nat → Bool) (listed : Array Bool) (a : Act) (w : World) (Im : Nat → Prop) (θ : Th), cnt D all.length ≤ fuel → listed.size = all.length → (∀ i, i < all.length → listed[i]? = some (D i)) → (∀ i, all.length ≤ i → D i = false) →
   (∀ i, D i = true → ∀ k, (bs.getD i 0).testBit k = true → D k = true) → a.defers = ds → SimF P ω n (TD (all.zip recs) D 0 T0) (HD (all.zip recs) D 0 h0) a w Im θ →
   (∀ x, (θ x ≠ none ∨ HD (all.zip recs) D 0 h0 x ≠ none) → x < nx0 ∨ ∃ (j : Nat) (o : Oper) (ρ : Rec), D j = true ∧ (all.zip recs)[j]? = some (o, ρ) ∧ ρ.nx0 ≤ x ∧ x < ρ.nx1) →
   Ext (fun x => nxs ≤ x) hs ws Ims θs (HD (all.zip recs) D 0 h0) w Im θ → wpAnyIn (FR ro) 0 P .any all.toArray Q fuel listed a w := by
 obtain ⟨hlen, hnn, rfl, rfl, hfact, hord⟩ := txt_facts ht hdom0
 obtain ⟨-, -, hfeet⟩ := feet_spec recs 0 [] hf
 have hzip : ∀ i, i < all.length → ∃ o ρ, (all.zip recs)[i]? = some (o, ρ) ∧ all[i]? = some o ∧ recs[i]? = some ρ := by
  intro i hi
  refine ⟨all[i], recs[i], ?_, by simp [hi], by simp [hlen, hi]⟩
  simp [hi, hlen]
 have hzipr : ∀ (i : Nat) (o : Oper) (ρ : Rec), (all.zip recs)[i]? = some (o, ρ) → all[i]? = some o ∧ recs[i]? = some ρ ∧ i < all.length := by
  intro i o ρ h
  rw [List.getElem?_zip_eq_some] at h
  exact ⟨h.1, h.2, (List.getElem?_eq_some_iff.1 h.1).1⟩
 -- the end
 have hend : ∀ (D : Nat → Bool) (a : Act) (w : World) (Im : Nat → Prop) (θ : Th), (∀ i, i < all.length → D i = true) → a.defers = ds → SimF P ω n (TD (all.zip recs) D 0 T0) (HD (all.zip recs) D 0 h0) a w Im θ →
   (∀ x, (θ x ≠ none ∨ HD (all.zip recs) D 0 h0 x ≠ none) → x < nx0 ∨ ∃ (j : Nat) (o : Oper) (ρ : Rec), D j = true ∧ (all.zip recs)[j]? = some (o, ρ) ∧ ρ.nx0 ≤ x ∧ x < ρ.nx1) →
   Ext (fun x => nxs ≤ x) hs ws Ims θs (HD (all.zip recs) D 0 h0) w Im θ → Q .normal a w := by
  intro D a w Im θ hall hdf hS hfr hE
  have eT : TD (all.zip recs) D 0 T0 = TD (all.zip recs) (fun _ => true) 0 T0 := by
   funext t
   refine TD_congr _ _ _ 0 _ _ t rfl (fun j o ρ hj _ => ?_)
   simp only [Nat.zero_add]
   exact hall j (hzipr j o ρ hj).2.2
  have eH : HD (all.zip recs) D 0 h0 = HD (all.zip recs) (fun _ => true) 0 h0 := by
   funext x
   refine HD_congr _ _ _ 0 _ _ x rfl (fun j o ρ hj _ => ?_)
   simp only [Nat.zero_add]
   exact hall j (hzipr j o ρ hj).2.2
  rw [eT, eH] at hS
  rw [eH] at hE hfr
  refine hQ a w Im θ hdf hS (fun x hx => ?_) (by omega) hE
  constructor
  · cases hθ : θ x with
    | none => rfl
    | some p =>
     rcases hfr x (.inl (by simp [hθ])) with h1 | ⟨j, o, ρ, -, hj, h1, h2⟩
     · omega
     · have := (hfact j o ρ hj).hi; omega
  · cases hh : HD (all.zip recs) (fun _ => true) 0 h0 x with
    | none => rfl
    | some p =>
     rcases hfr x (.inr (by simp [hh])) with h1 | ⟨j, o, ρ, -, hj, h1, h2⟩
     · omega
     · have := (hfact j o ρ hj).hi; omega
 -- where nothing is ready all is done
 have hdone : ∀ (D : Nat → Bool) (listed : Array Bool), listed.size = all.length → (∀ i, i < all.length → listed[i]? = some (D i)) → Region.ready .any all.toArray listed = [] → ∀ i, i < all.length → D i = true := by
  intro D listed hsz hl hr i
  induction i using Nat.strongRecOn with
  | _ i ih =>
   intro hi
   cases hd : D i with
   | true => rfl
   | false =>
    have : i ∈ Region.ready .any all.toArray listed := by
     rw [ready_iff]
     obtain ⟨o, ρ, -, ho, -⟩ := hzip i hi
     refine ⟨by simpa using hi, by simp [Array.getD_eq_getD_getElem?, hl i hi, hd], o, by simpa using ho, fun e he hb => ?_⟩
     have hlt := st.back i o ho e (by simpa using he) hb
     simp [Array.getD_eq_getD_getElem?, hl e.on (by omega), ih e.on hlt (by omega)]
    rw [hr] at this
    cases this
 intro fuel
 induction fuel with
 | zero =>
  intro D listed a w Im θ hc hsz hl hout hcl hdf hS hfr hE
  have hall := cnt_zero (Nat.le_zero.1 hc)
  refine ⟨?_, hend D a w Im θ hall hdf hS hfr hE⟩
  cases hr : Region.ready .any all.toArray listed with
  | nil => rfl
  | cons i l =>
   have hm : i ∈ Region.ready .any all.toArray listed := by rw [hr]; simp
   rw [ready_iff] at hm
   obtain ⟨h1, h2, -⟩ := hm
   have h1' : i < all.length := by simpa using h1
   simp [Array.getD_eq_getD_getElem?, hl i h1', hall i h1'] at h2
 | succ fuel ih =>
  intro D listed a w Im θ hc hsz hl hout hcl hdf hS hfr hE
  refine ⟨fun hr => hend D a w Im θ (hdone D listed hsz hl hr) hdf hS hfr hE, fun i hi => ?_⟩
  rw [ready_iff] at hi
  obtain ⟨hi1, hi2, o, ho, hedges⟩ := hi
  have hin : i < all.length := by simpa using hi1
  have hDi : D i = false := by simpa [Array.getD_eq_getD_getElem?, hl i hin] using hi2
  obtain ⟨o', ρ, hz, ho', hρ⟩ := hzip i hin
  have : o' = o := by
   have h1 : all.toArray[i]? = some o' := by simpa using ho'
   rw [h1] at ho; exact Option.some.inj ho
  subst this
  have f := hfact i o' ρ hz
  -- what stands ahead is done
  have hpre : ∀ k, (bs.getD i 0).testBit k = true → D k = true := by
   intro k hk
   obtain ⟨e, he, hb, h1⟩ := st.bit i o' ho' k hk
   have hlt := st.back i o' ho' e he hb
   have hon := hedges e (by simpa using he) hb
   have hDe : D e.on = true := by simpa [Array.getD_eq_getD_getElem?, hl e.on (by omega)] using hon
   rcases h1 with rfl | h1
   · exact hDe
   · exact hcl e.on hDe k h1
  have hpost : ∀ j, D j = true → (bs.getD j 0).testBit i = true → False := by
   intro j hj hb
   rw [hcl j hj i hb] at hDi; cases hDi
  -- where a place is met by this one, the others agree with the order of the text
  have agree : ∀ (j : Nat) (o2 : Oper) (ρ2 : Rec), (all.zip recs)[j]? = some (o2, ρ2) → j ≠ i → (j < i → (bs.getD i 0).testBit j = true ∨ D j = upTo i j) → (i < j → (bs.getD j 0).testBit i = true ∨ D j = upTo i j) → D j = upTo i j := by
   intro j o2 ρ2 hj hne h1 h2
   rcases Nat.lt_or_gt_of_ne hne with hlt | hgt
   · rcases h1 hlt with h | h
     · rw [hpre j h, upTo_iff.2 hlt]
     · exact h
   · rcases h2 hgt with h | h
     · have : D j = false := by
         cases hd : D j with
         | false => rfl
         | true => exact (hpost j hd h).elim
       rw [this, upTo_false.2 (by omega)]
     · exact h
  have aT : ∀ t ∈ looks all o', TD (all.zip recs) D 0 T0 t = TD (all.zip recs) (upTo i) 0 T0 t := by
   intro t htl
   refine TD_congr _ _ _ 0 _ _ t rfl (fun j o2 ρ2 hj hd => ?_)
   simp only [Nat.zero_add]
   obtain ⟨g1, g2, g3⟩ := hzipr j o2 ρ2 hj
   by_cases hji : j = i
   · subst hji; rw [hDi, upTo_false.2 (by omega)]
   · refine agree j o2 ρ2 hj hji (fun hlt => ?_) (fun hgt => ?_)
     · rcases st.pair j i o2 o' hlt g1 ho' with h | h
       · exact .inl h
       · exact absurd htl ((apartT_spec h).1 t hd).1
     · rcases st.pair i j o' o2 hgt ho' g1 with h | h
       · exact .inl h
       · exact absurd htl ((apartT_spec h).2 t hd)
  have aH : ρ.ex = true → ∀ x, (x ∈ ρ.rs ∨ x ∈ ρ.ups.map (·.1)) → HD (all.zip recs) D 0 h0 x = HD (all.zip recs) (upTo i) 0 h0 x := by
   intro hex x hx
   refine HD_congr _ _ _ 0 _ _ x rfl (fun j o2 ρ2 hj hk => ?_)
   simp only [Nat.zero_add]
   obtain ⟨g1, g2, g3⟩ := hzipr j o2 ρ2 hj
   have hex2 : ρ2.ex = true := by
    cases he : ρ2.ex with
    | true => rfl
    | false => rw [((hfact j o2 ρ2 hj).idle he).2.1] at hk; cases hk
   by_cases hji : j = i
   · subst hji; rw [hDi, upTo_false.2 (by omega)]
   · refine agree j o2 ρ2 hj hji (fun hlt => ?_) (fun hgt => ?_)
     · have := hfeet j i ρ2 ρ hlt g2 hρ hex2 hex
       simp only [Nat.zero_add] at this
       rcases this with h | h
       · exact .inl h
       · obtain ⟨w1, w2, w3⟩ := apartF_spec h
         rcases hx with hx | hx
         · exact absurd hk (w3 x hx)
         · exact absurd hk (w1 x hx)
     · have := hfeet i j ρ ρ2 hgt hρ g2 hex hex2
       simp only [Nat.zero_add] at this
       rcases this with h | h
       · exact .inl h
       · obtain ⟨w1, w2, w3⟩ := apartF_spec h
         rcases hx with hx | hx
         · exact absurd hx (w2 x hk)
         · exact absurd hx (w1 x hk)
  have hcl' : ∀ j, (D j || j == i) = true → ∀ k, (bs.getD j 0).testBit k = true → (D k || k == i) = true := by
   intro j hj k hk
   simp only [Bool.or_eq_true, beq_iff_eq] at hj ⊢
   rcases hj with hj | rfl
   · exact .inl (hcl j hj k hk)
   · exact .inl (hpre k hk)
  have hcnt : cnt (fun j => D j || j == i) all.length ≤ fuel := by
   have := cnt_lt (D := D) (D' := fun j => D j || j == i) (n := all.length) (i := i) (fun j _ hj => by simp [hj]) hin hDi (by simp)
   omega
  have hl' : ∀ j, j < all.length → (listed.setIfInBounds i true)[j]? = some (D j || j == i) := by
   intro j hj
   rw [Array.getElem?_setIfInBounds]
   by_cases hij : i = j
   · subst hij; simp [hsz, hj]
   · have : (j == i) = false := by simpa using Ne.symm hij
     simp [hij, hl j hj, this]
  have hout' : ∀ j, all.length ≤ j → (D j || j == i) = false := by
   intro j hj
   simp [hout j hj]; omega
  have hTadd : TD (all.zip recs) (fun j => D j || j == i) 0 T0 = updT (TD (all.zip recs) D 0 T0) o'.dst ρ.r := by
   have := TD_add (all.zip recs) D 0 i T0 o' ρ hz (by simpa using hDi) (fun j o2 ρ2 hij hj hDj d hd => by
    simp only [Nat.zero_add] at hDj
    obtain ⟨g1, -, -⟩ := hzipr j o2 ρ2 hj
    rcases st.pair i j o' o2 hij ho' g1 with h | h
    · exact (hpost j hDj h).elim
    · exact ((apartT_spec h).1 d hd).2)
   simpa using this
  have hHadd : HD (all.zip recs) (fun j => D j || j == i) 0 h0 = updF ρ.ups (HD (all.zip recs) D 0 h0) := by
   have := HD_add (all.zip recs) D 0 i h0 o' ρ hz (by simpa using hDi) (fun j o2 ρ2 hij hj hDj x hx hx2 => by
    simp only [Nat.zero_add] at hDj
    obtain ⟨g1, g2, -⟩ := hzipr j o2 ρ2 hj
    have hex : ρ.ex = true := by
     cases he : ρ.ex with
     | true => rfl
     | false => rw [(f.idle he).2.1] at hx; cases hx
    have hex2 : ρ2.ex = true := by
     cases he : ρ2.ex with
     | true => rfl
     | false => rw [((hfact j o2 ρ2 hj).idle he).2.1] at hx2; cases hx2
    have := hfeet i j ρ ρ2 hij hρ g2 hex hex2
    simp only [Nat.zero_add] at this
    rcases this with h | h
    · exact hpost j hDj h
    · exact (apartF_spec h).1 x hx2 hx)
   simpa using this
  have hwT : wantedT all n (TD (all.zip recs) D 0 T0) o' = some ρ.ex := by
   rw [← f.want]
   unfold wantedT
   cases hg : o'.guard with
   | none => rfl
   | some p =>
    obtain ⟨g, b⟩ := p
    simp only []
    cases hag : all[g]? with
    | none => rfl
    | some og =>
     simp only []
     cases hod : og.dst with
     | none => rfl
     | some d =>
      simp only []
      rw [aT d (by simp [looks, hg, nth?_eq, hag, hod])]
  unfold wpOpIn
  simp only [List.getElem?_toArray, ho']
  rw [wanted_eq hS hwT]
  cases hex : ρ.ex with
  | false =>
   simp only [Bool.false_eq_true, if_false]
   obtain ⟨e1, e2, -, -⟩ := f.idle hex
   rw [e1] at hTadd
   rw [e2] at hHadd
   simp only [updF] at hHadd
   refine ⟨fun f _ => FR_fn ro f, ih (fun j => D j || j == i) _ _ w Im θ hcnt (by simpa using hsz) hl' hout' hcl' (by rw [put_defers]; exact hdf) ?_ ?_ ?_⟩
   · rw [hTadd, hHadd]; exact hS.skip f.dst
   · rw [hHadd]
     intro x hx
     rcases hfr x hx with h1 | ⟨j, o2, ρ2, hj, h2⟩
     · exact .inl h1
     · exact .inr ⟨j, o2, ρ2, by simp [hj], h2⟩
   · rw [hHadd]; exact hE
  | true =>
   simp only [if_true]
   have hrun := f.run hex
   have hrun1 : mrun (HD (all.zip recs) D 0 h0) (opM P κ o' (evT (TD (all.zip recs) D 0 T0)) ρ.nx0) = some (ρ.r, ρ.ups, ρ.nx1, ρ.rs) := by
    have e : opM P κ o' (evT (TD (all.zip recs) D 0 T0)) ρ.nx0 = opM P κ o' (evT (TD (all.zip recs) (upTo i) 0 T0)) ρ.nx0 := by
     refine opM_congr (fun x hx => ?_) _
     cases x with
     | tmp t =>
      simp only [evT]
      exact aT t (by simp only [looks, List.mem_append]; exact .inr (tmpsOf_mem (by simpa using hx)))
     | _ => rfl
    rw [e]
    exact mrun_congr _ _ hrun (fun x hx => aH hex x (.inl hx))
   obtain ⟨hle, hkeys⟩ := opM_wf hrun
   have hfresh : ∀ x, ρ.nx0 ≤ x → x < ρ.nx1 → θ x = none ∧ HD (all.zip recs) D 0 h0 x = none := by
    intro x h1 h2
    have key : ¬ (θ x ≠ none ∨ HD (all.zip recs) D 0 h0 x ≠ none) := by
     intro hh
     rcases hfr x hh with h3 | ⟨j, o2, ρ2, hj, hj2, h3, h4⟩
     · have := f.lo; omega
     · rcases Nat.lt_trichotomy i j with h5 | h5 | h5
       · have := hord i j o' ρ o2 ρ2 h5 hz hj2; omega
       · subst h5; rw [hDi] at hj; cases hj
       · have := hord j i o2 ρ2 o' ρ h5 hj2 hz; omega
    constructor
    · cases hθ : θ x with
      | none => rfl
      | some p => exact (key (.inl (by simp [hθ]))).elim
    · cases hθ : HD (all.zip recs) D 0 h0 x with
      | none => rfl
      | some p => exact (key (.inr (by simp [hθ]))).elim
   refine op_good hκ hS.hp (fun x _ => hS.eval x) hfresh hrun1 ro _ _ (fun v w' Im' θ' hE' hv hH => ?_)
   have hS' := hS.step f.dst hE' hv hH
   refine ih (fun j => D j || j == i) _ _ w' Im' θ' hcnt (by simpa using hsz) hl' hout' hcl' (by rw [put_defers]; exact hdf) ?_ ?_ ?_
   · rw [hTadd, hHadd]; exact hS'
   · rw [hHadd]
     intro x hx
     by_cases hnew : ρ.nx0 ≤ x ∧ x < ρ.nx1
     · exact .inr ⟨i, o', ρ, by simp, hz, hnew.1, hnew.2⟩
     · have hx' : θ x ≠ none ∨ HD (all.zip recs) D 0 h0 x ≠ none := by
         rcases hx with hx | hx
         · rw [hE'.thOld x hnew] at hx; exact .inl hx
         · right
           by_cases hxk : x ∈ ρ.ups.map (·.1)
           · obtain ⟨p, hp, rfl⟩ := List.mem_map.1 hxk
             rcases hkeys p hp with h1 | h1
             · obtain ⟨c, hc⟩ := mrun_reads _ _ hrun1 p.1 h1
               simp [hc]
             · exact absurd h1 hnew
           · rwa [updF_not hxk] at hx
       rcases hfr x hx' with h1 | ⟨j, o2, ρ2, hj, h2⟩
       · exact .inl h1
       · exact .inr ⟨j, o2, ρ2, by simp [hj], h2⟩
   · rw [hHadd]
     exact hE.trans (hE'.mono (fun x hx => by have := f.lo; omega))
end Go.Am
