/- The abstract machine: a function's body tells of its calls. -/
import Derived.Test.YtbeolnccdhjjeaaMachine6
import Derived.ChangeSame
import Derived.Test.YtbeolnccdhjjeaaMachine4
import Derived.ProofKit
import Derived.OpenShut
import Derived.Deep.Slices
set_option linter.unusedVariables false
set_option linter.unusedSimpArgs false
namespace Go.Am
variable {P : Program} {ω : Nat → Value}
theorem reachNew_spec {h : Tr Chunk} {m : Nat} : ∀ (d : Nat) (todo acc ns : List Nat), reachNew h m d todo acc = some ns → acc.Nodup → (∀ x ∈ acc, m ≤ x ∧ ∃ c, h.get x = some c) →
  (∀ x ∈ acc, ∀ c, h.get x = some c → ∀ z ∈ namesC c, z < m ∨ z ∈ acc ∨ z ∈ todo) →
  ns.Nodup ∧ (∀ x ∈ ns, m ≤ x ∧ ∃ c, h.get x = some c) ∧ (∀ x ∈ ns, ∀ c, h.get x = some c → ∀ z ∈ namesC c, z < m ∨ z ∈ ns) ∧ (∀ z ∈ todo, z < m ∨ z ∈ ns) ∧ (∀ z ∈ acc, z ∈ ns)
 | 0, _, _, _, h, _, _, _ => by simp [reachNew] at h
 | d + 1, [], acc, ns, h, h1, h2, h3 => by
  simp only [reachNew, Option.some.injEq] at h
  subst h
  refine ⟨h1, h2, fun x hx c hc z hz => ?_, (fun z hz => by cases hz), fun z hz => hz⟩
  rcases h3 x hx c hc z hz with h4 | h4 | h4
  · exact .inl h4
  · exact .inr h4
  · cases h4
 | d + 1, x :: todo, acc, ns, hh, h1, h2, h3 => by
  simp only [reachNew] at hh
  cases hb : Nat.blt x m || memN x acc with
  | true =>
   rw [hb] at hh
   simp only [cond_true] at hh
   have hx : x < m ∨ x ∈ acc := by
    simp only [Bool.or_eq_true] at hb
    rcases hb with hb | hb
    · left; rwa [Nat.blt_eq] at hb
    · right; exact (memN_iff _ _).1 hb
   obtain ⟨g1, g2, g3, g4, g5⟩ := reachNew_spec d todo acc ns hh h1 h2 (fun y hy c hc z hz => by
    rcases h3 y hy c hc z hz with h4 | h4 | h4
    · exact .inl h4
    · exact .inr (.inl h4)
    · rcases List.mem_cons.1 h4 with rfl | h4
      · rcases hx with hx | hx
        · exact .inl hx
        · exact .inr (.inl hx)
      · exact .inr (.inr h4))
   refine ⟨g1, g2, g3, fun z hz => ?_, g5⟩
   rcases List.mem_cons.1 hz with rfl | hz
   · rcases hx with hx | hx
     · exact .inl hx
     · exact .inr (g5 _ hx)
   · exact g4 z hz
  | false =>
   rw [hb] at hh
   simp only [cond_false] at hh
   simp only [Bool.or_eq_false_iff] at hb
   have hxm : m ≤ x := by
    rcases Nat.lt_or_ge x m with h4 | h4
    · rw [← Nat.blt_eq] at h4; rw [h4] at hb; exact absurd hb.1 (by simp)
    · exact h4
   have hxa : x ∉ acc := fun h4 => by rw [(memN_iff _ _).2 h4] at hb; exact absurd hb.2 (by simp)
   cases hx : h.get x with
   | none => simp [hx] at hh
   | some c =>
    simp only [hx] at hh
    obtain ⟨g1, g2, g3, g4, g5⟩ := reachNew_spec d (namesC c ++ todo) (acc ++ [x]) ns hh
     (by rw [List.nodup_append]; exact ⟨h1, by simp, fun a ha b hb => by simp at hb; subst hb; intro e; subst e; exact hxa ha⟩)
     (fun y hy => by
      rcases List.mem_append.1 hy with hy | hy
      · exact h2 y hy
      · simp at hy; subst hy; exact ⟨hxm, c, hx⟩)
     (fun y hy c' hc' z hz => by
      rcases List.mem_append.1 hy with hy | hy
      · rcases h3 y hy c' hc' z hz with h4 | h4 | h4
        · exact .inl h4
        · exact .inr (.inl (by simp [h4]))
        · rcases List.mem_cons.1 h4 with rfl | h4
          · exact .inr (.inl (by simp))
          · exact .inr (.inr (by simp [h4]))
      · simp at hy; subst hy
        rw [hx] at hc'
        cases hc'
        exact .inr (.inr (by simp [hz])))
    refine ⟨g1, g2, g3, fun z hz => ?_, fun z hz => g5 z (by simp [hz])⟩
    rcases List.mem_cons.1 hz with rfl | hz
    · exact .inr (g5 _ (by simp))
    · exact g4 z (by simp [hz])
theorem dirtyNames_mem {h : Tr Chunk} : ∀ {l : List Nat} {x : Nat} {c : Chunk}, x ∈ l → h.get x = some c → ∀ z ∈ namesC c, z ∈ dirtyNames h l
 | [], _, _, hx, _, _, _ => by cases hx
 | y :: l, x, c, hx, hc, z, hz => by
  simp only [dirtyNames]
  rcases List.mem_cons.1 hx with rfl | hx
  · rw [hc]; simp [hz]
  · have := dirtyNames_mem hx hc z hz
    cases h.get y with
    | none => exact this
    | some d => simp [this]
theorem outOld_keys (h : Tr Chunk) (f : Nat → Nat) : ∀ (l : List Nat), (outOld h f l).map (·.1) = l
 | [] => rfl
 | x :: l => by simp [outOld, outOld_keys h f l]
theorem outNew_keys (h : Tr Chunk) (f : Nat → Nat) : ∀ (l : List Nat), (∀ x ∈ l, ∃ c, h.get x = some c) → (outNew h f l).map (·.1) = l.map f
 | [], _ => rfl
 | x :: l, hl => by
  obtain ⟨c, hc⟩ := hl x (by simp)
  simp [outNew, hc, outNew_keys h f l (fun y hy => hl y (by simp [hy]))]
theorem updF_append (a b : List (Nat × Option Chunk)) (h : HpF) : updF (a ++ b) h = updF b (updF a h) := by
 induction a generalizing h with
 | nil => rfl
 | cons p a ih => obtain ⟨x, c⟩ := p; simp only [List.cons_append, updF]; exact ih _
theorem updF_outOld {h : Tr Chunk} {f : Nat → Nat} : ∀ {l : List Nat} {h0 : HpF} {y : Nat}, y ∈ l → updF (outOld h f l) h0 y = (h.get y).map (renC f)
 | [], _, _, hy => by cases hy
 | x :: l, h0, y, hy => by
  simp only [outOld, updF]
  by_cases hyl : y ∈ l
  · exact updF_outOld hyl
  · have : y = x := by rcases List.mem_cons.1 hy with h1 | h1; exact h1; exact absurd h1 hyl
    subst this
    rw [updF_not (by rw [outOld_keys]; exact hyl)]
    simp only [if_true]
    cases h.get y <;> rfl
theorem updF_outNew {h : Tr Chunk} {f : Nat → Nat}   : ∀ {l : List Nat} {h0 : HpF} {x : Nat}, (∀ z ∈ l, ∃ c, h.get z = some c) → (∀ a ∈ l, ∀ b ∈ l, f a = f b → a = b) → x ∈ l → updF (outNew h f l) h0 (f x) = (h.get x).map (renC f)
 | [], _, _, _, _, hx => by cases hx
 | z :: l, h0, x, hl, hi, hx => by
  obtain ⟨c, hc⟩ := hl z (by simp)
  simp only [outNew, hc, updF]
  by_cases hxl : x ∈ l
  · exact updF_outNew (fun y hy => hl y (by simp [hy])) (fun a ha b hb => hi a (by simp [ha]) b (by simp [hb])) hxl
  · have : x = z := by rcases List.mem_cons.1 hx with h1 | h1; exact h1; exact absurd h1 hxl
    subst this
    rw [updF_not]
    · simp [hc]
    · rw [outNew_keys _ _ _ (fun y hy => hl y (by simp [hy]))]
      intro hm
      obtain ⟨b, hb, e⟩ := List.mem_map.1 hm
      have := hi b (by simp [hb]) x (by simp) e
      subst this
      exact hxl hb
theorem canonB_spec : ∀ (H : HpL) (i : Nat), canonB H i = true → ∀ (j : Nat) p, H[j]? = some p → p.1 = i + j
 | [], _, _, _, _, h => by simp at h
 | (x, c) :: l, i, hc, j, p, h => by
  simp only [canonB, Bool.and_eq_true] at hc
  cases j with
  | zero => simp at h; subst h; simpa using Nat.eq_of_beq_eq_true hc.1
  | succ j =>
   have := canonB_spec l (i + 1) hc.2 j p (by simpa using h)
   omega
theorem HpL_get_some : ∀ (H : HpL) (x : Nat) (c : Chunk), H.get x = some c → (x, c) ∈ H
 | [], _, _, h => by cases h
 | (y, d) :: l, x, c, h => by
  simp only [HpL.get] at h
  cases hb : Nat.beq y x with
  | true => rw [hb] at h; simp at h; subst h; rw [Nat.eq_of_beq_eq_true hb]; simp
  | false => rw [hb] at h; have := HpL_get_some l x c h; simp [this]
theorem canon_lt {H : HpL} (hc : canonB H 0 = true) {x : Nat} {c : Chunk} (h : H.get x = some c) : x < H.length := by
 have hm := HpL_get_some H x c h
 obtain ⟨j, hj, e⟩ := List.getElem_of_mem hm
 have := canonB_spec H 0 hc j _ (by rw [List.getElem?_eq_getElem hj, e])
 simp at this
 omega
theorem closedB_spec {m : Nat} : ∀ (H : HpL), closedB m H = true → ∀ p ∈ H, ∀ z ∈ namesC p.2, z < m
 | [], _, _, h => by cases h
 | (y, d) :: l, h, p, hp => by
  simp only [closedB, Bool.and_eq_true] at h
  rcases List.mem_cons.1 hp with rfl | hp
  · exact lowB_spec _ h.1
  · exact closedB_spec l h.2 p hp
theorem heapTr_get : ∀ (H : HpL) (i : Nat) (t : Tr Chunk) (y : Nat), canonB H i = true → i + H.length ≤ 1000000 → (heapTr H t).get y = if i ≤ y ∧ y < i + H.length then (H[y - i]?).map (·.2) else t.get y
 | [], i, t, y, _, _ => by
  simp only [heapTr, List.length_nil, Nat.add_zero]
  rw [if_neg (by omega)]
 | (x, c) :: l, i, t, y, hc, h => by
  simp only [canonB, Bool.and_eq_true] at hc
  have hx : x = i := Nat.eq_of_beq_eq_true hc.1
  subst hx
  simp only [heapTr, List.length_cons] at h ⊢
  rw [heapTr_get l (x + 1) _ y hc.2 (by omega), Tr.get_set 20 t x (some c) y (by omega)]
  by_cases hj : y = x
  · subst hj
    rw [if_neg (by omega), if_pos rfl, if_pos (by omega)]
    simp
  · by_cases h2 : x + 1 ≤ y ∧ y < x + 1 + l.length
    · rw [if_pos h2, if_pos (by omega)]
      have : y - x = (y - (x + 1)) + 1 := by omega
      rw [this]; simp
    · rw [if_neg h2, if_neg hj, if_neg (by omega)]
theorem HpL_get_canon : ∀ (H : HpL) (i y : Nat), canonB H i = true → H.get y = if i ≤ y ∧ y < i + H.length then (H[y - i]?).map (·.2) else none
 | [], i, y, _ => by
  simp only [HpL.get, List.length_nil, Nat.add_zero]
  rw [if_neg (by omega)]
 | (x, c) :: l, i, y, hc => by
  simp only [canonB, Bool.and_eq_true] at hc
  have hx : x = i := Nat.eq_of_beq_eq_true hc.1
  subst hx
  simp only [HpL.get, List.length_cons]
  by_cases hj : x = y
  · subst hj
    rw [nb_t rfl, if_pos (by omega)]
    simp
  · rw [nb_f hj]
    simp only [cond_false]
    rw [HpL_get_canon l (x + 1) y hc.2]
    by_cases h2 : x + 1 ≤ y ∧ y < x + 1 + l.length
    · rw [if_pos h2, if_pos (by omega)]
      have : y - x = (y - (x + 1)) + 1 := by omega
      rw [this]; simp
    · rw [if_neg h2, if_neg (by omega)]
theorem heapTr_init {H : HpL} (hc : canonB H 0 = true) (h : H.length ≤ 1000000) : (heapTr H .lf).get = H.get := by
 funext y
 rw [heapTr_get H 0 .lf y hc (by omega), HpL_get_canon H 0 y hc]
 rfl
mutual
theorem renS_fix (f : Nat → Nat) : ∀ (v : SV), (∀ x ∈ namesS v, f x = x) → renS f v = v
 | .ptr x o, h => by simp only [renS]; rw [h x (by simp [namesS])]
 | .sl x sz o l, h => by simp only [renS]; rw [h x (by simp [namesS])]
 | .qs x sz o l, h => by simp only [renS]; rw [h x (by simp [namesS])]
 | .qp x sz o l, h => by simp only [renS]; rw [h x (by simp [namesS])]
 | .qo x sz o, h => by simp only [renS]; rw [h x (by simp [namesS])]
 | .qop x sz o l, h => by simp only [renS]; rw [h x (by simp [namesS])]
 | .mp x, h => by simp only [renS]; rw [h x (by simp [namesS])]
 | .yl x, h => by simp only [renS]; rw [h x (by simp [namesS])]
 | .fn k a b, h => by
  simp only [namesS, List.mem_append] at h
  simp only [renS]
  rw [renL_fix f a (fun x hx => h x (.inl hx)), renL_fix f b (fun x hx => h x (.inr hx))]
 | .iface t v, h => by simp only [renS]; rw [renS_fix f v (by simpa [namesS] using h)]
 | .agg cs, h => by simp only [renS]; rw [renL_fix f cs (by simpa [namesS] using h)]
 | .tup cs, h => by simp only [renS]; rw [renL_fix f cs (by simpa [namesS] using h)]
 | .junk, _ | .pnn _ _, _ | .opq _, _ | .emp, _ | .bool _, _ | .int _ _, _ | .str _, _ | .nilp, _ | .pel _ _, _ | .nils, _ | .psl _ _, _ | .nilm, _ | .nilf, _ | .nili, _ | .gp _ _, _ => rfl
theorem renL_fix (f : Nat → Nat) : ∀ (vs : List SV), (∀ x ∈ namesL vs, f x = x) → renL f vs = vs
 | [], _ => rfl
 | v :: vs, h => by
  simp only [namesL, List.mem_append] at h
  simp only [renL]
  rw [renS_fix f v (fun x hx => h x (.inl hx)), renL_fix f vs (fun x hx => h x (.inr hx))]
end
theorem renC_fix (f : Nat → Nat) (c : Chunk) (h : ∀ x ∈ namesC c, f x = x) : renC f c = c := by
 cases c with
 | cells T vs => simp only [renC]; rw [renL_fix f vs h]
 | seq e es => rfl
 | loopr st vs ps asg bdy => simp only [renC]; rw [renL_fix f vs h]
 | mpc ks vs => simp only [renC]; rw [renL_fix f ks (fun x hx => h x (List.mem_append.2 (.inl hx))), renL_fix f vs (fun x hx => h x (List.mem_append.2 (.inr hx)))]
 | mpb kd kvs => rfl
 | mpn bs cl ks vs => simp only [renC]; rw [renL_fix f ks (fun x hx => h x (List.mem_append.2 (.inl hx))), renL_fix f vs (fun x hx => h x (List.mem_append.2 (.inr hx)))]
 | mit z since seen last => simp only [renC]; rw [h z (by simp [namesC])]
 | sqo e es => rfl
theorem finish_gen {H : HpL} (c1 : canonB H 0 = true) (c2 : closedB H.length H = true) {θ : Th} {Im : Nat → Prop} {w : World} (hfr : ∀ x, H.length ≤ x → θ x = none) {s2 : St} (hm2 : s2.m = H.length) (hsame : ∀ x, x < H.length → s2.hp.get x = H.get x ∨ x ∈ s2.dirty)
  (hdl : ∀ x ∈ s2.dirty, x < H.length) {vv : SV} {ns : List Nat} (hre : reachNew s2.hp s2.m 2000 (namesS vv ++ dirtyNames s2.hp s2.dirty) [] = some ns) {w' : World} {Im' : Nat → Prop} {θ' : Th} (hH2 : HRel P ω w' Im' θ' s2.hp.get)
  (hext : Ext (fun x => H.length ≤ x) H.get w Im θ s2.hp.get w' Im' θ') {u : Value} (hvu : VRel P ω w' Im' θ' vv u) :
  ∃ θ3, Ext (fun x => H.length ≤ x) H.get w Im θ (updF (outOld s2.hp (outName ns H.length) s2.dirty ++ outNew s2.hp (outName ns H.length) ns) H.get) w' Im' θ3 ∧ VRel P ω w' Im' θ3 (renS (outName ns H.length) vv) u ∧
   HRel P ω w' Im' θ3 (updF (outOld s2.hp (outName ns H.length) s2.dirty ++ outNew s2.hp (outName ns H.length) ns) H.get) ∧
   ∀ y c b N, updF (outOld s2.hp (outName ns H.length) s2.dirty ++ outNew s2.hp (outName ns H.length) ns) H.get y = some c → θ3 y = some (b, N) → ∃ x c0, s2.hp.get x = some c0 ∧ θ' x = some (b, N) := by
 obtain ⟨n1, n2, n3, n4, -⟩ := reachNew_spec _ _ _ _ hre List.nodup_nil (fun x hx => by cases hx) (fun x hx => by cases hx)
 rw [hm2] at n2 n4
 simp only [hm2] at n3
 -- the names behind the call
 let θ2 : Th := fun y => if y < H.length then θ' y else match ns[y - H.length]? with
  | some x => θ' x
  | none => none
 generalize hfd : outName ns H.length = f
 have hf1 : ∀ x, x < H.length → f x = x := by
  intro x hx
  rw [← hfd]
  have : Nat.blt x H.length = true := by rw [Nat.blt_eq]; exact hx
  simp [outName, this]
 have hf2 : ∀ x, x ∈ ns → f x = H.length + idxN ns x := by
  intro x hx
  rw [← hfd]
  have : Nat.blt x H.length = false := by
   cases hh : Nat.blt x H.length with
   | false => rfl
   | true => rw [Nat.blt_eq] at hh; have := (n2 x hx).1; omega
  simp [outName, this]
 have hθ2 : ∀ x, (x < H.length ∨ x ∈ ns) → θ2 (f x) = θ' x := by
  intro x hx
  by_cases hlt : x < H.length
  · rw [hf1 x hlt]; simp [θ2, hlt]
  · have hxn : x ∈ ns := by rcases hx with h | h; exact absurd h hlt; exact h
    rw [hf2 x hxn]
    have hs := (idxN_spec ns x hxn).2
    have h1 : ¬ H.length + idxN ns x < H.length := by omega
    have h2 : H.length + idxN ns x - H.length = idxN ns x := by omega
    simp only [θ2, if_neg h1, h2, hs]
 have hlow : ∀ y, y < H.length → θ2 y = θ' y := fun y hy => by simp [θ2, hy]
 have hcl : ∀ y c, H.get y = some c → ∀ z ∈ namesC c, z < H.length := fun y c hy => closedB_spec H c2 (y, c) (HpL_get_some H y c hy)
 generalize hU : outOld s2.hp f s2.dirty ++ outNew s2.hp f ns = U
 -- what the heap holds
 have hUget : ∀ y c, updF U H.get y = some c → ∃ x c0, (x < H.length ∨ x ∈ ns) ∧ f x = y ∧ s2.hp.get x = some c0 ∧ c = renC f c0 ∧ ∀ z ∈ namesC c0, z < H.length ∨ z ∈ ns := by
  intro y c hy
  rw [← hU, updF_append] at hy
  by_cases hyk : y ∈ (outNew s2.hp f ns).map (·.1)
  · rw [outNew_keys _ _ _ (fun x hx => (n2 x hx).2)] at hyk
    obtain ⟨x, hx, rfl⟩ := List.mem_map.1 hyk
    rw [updF_outNew (fun z hz => (n2 z hz).2) (fun a ha b hb e => by
     rw [hf2 a ha, hf2 b hb] at e
     have e1 := (idxN_spec ns a ha).2
     have e2 := (idxN_spec ns b hb).2
     have : idxN ns a = idxN ns b := by omega
     rw [this, e2] at e1
     exact (Option.some.inj e1).symm) hx, Option.map_eq_some_iff] at hy
    obtain ⟨c0, hc0, rfl⟩ := hy
    exact ⟨x, c0, .inr hx, rfl, hc0, rfl, n3 x hx c0 hc0⟩
  · rw [updF_not hyk] at hy
    by_cases hyd : y ∈ s2.dirty
    · rw [updF_outOld hyd, Option.map_eq_some_iff] at hy
      obtain ⟨c0, hc0, rfl⟩ := hy
      have hyl := hdl y hyd
      refine ⟨y, c0, .inl hyl, hf1 y hyl, hc0, rfl, fun z hz => n4 z ?_⟩
      exact List.mem_append.2 (.inr (dirtyNames_mem hyd hc0 z hz))
    · rw [updF_not (by rw [outOld_keys]; exact hyd)] at hy
      have hyl := canon_lt c1 hy
      have hs2y : s2.hp.get y = some c := by
       rcases hsame y hyl with h | h
       · rw [h, hy]
       · exact absurd h hyd
      have hcz := hcl y c hy
      refine ⟨y, c, .inl hyl, hf1 y hyl, hs2y, ?_, fun z hz => .inl (hcz z hz)⟩
      exact (renC_fix f c (fun z hz => hf1 z (hcz z hz))).symm
 refine ⟨θ2, ?_, ?_, ?_, ?_⟩
 · refine ⟨?_, ?_, hext.imUp, hext.size, hext.keep, hext.imNew, ?_, hext.os, hext.output, hext.tape⟩
   · intro x hx
     rw [hlow x (by omega)]
     exact hext.thOld x hx
   · intro x p hp
     have hxl : x < H.length := by
      rcases Nat.lt_or_ge x H.length with h | h
      · exact h
      · rw [hfr x h] at hp; cases hp
     rw [hlow x hxl]
     exact hext.thUp x p hp
   · intro y c b N hy hb
     obtain ⟨x, c0, hx, rfl, hc0, -, -⟩ := hUget y c hy
     rw [hθ2 x hx] at hb
     exact hext.ownNew x c0 b N hc0 hb
 · refine hvu.ren f (fun x hx p hp => ?_)
   rw [hθ2 x (n4 x (List.mem_append.2 (.inl hx)))]
   exact hp
 · refine ⟨?_, ?_, ?_, hH2.im, hH2.gl⟩
   · intro y c hy
     obtain ⟨x, c0, hx, rfl, hc0, rfl, hz⟩ := hUget y c hy
     exact (hH2.at_ x c0 hc0).ren f (fun z hzm p hp => by rw [hθ2 z (hz z hzm)]; exact hp) (hθ2 x hx)
   · intro y y' c c' b N N2 hy hy' hb hb'
     obtain ⟨x, c0, hx, rfl, hc0, -, -⟩ := hUget y c hy
     obtain ⟨x', c0', hx', rfl, hc0', -, -⟩ := hUget y' c' hy'
     rw [hθ2 x hx] at hb
     rw [hθ2 x' hx'] at hb'
     rw [hH2.inj x x' c0 c0' b N N2 hc0 hc0' hb hb']
   · intro y c b N hy hb
     obtain ⟨x, c0, hx, rfl, hc0, -, -⟩ := hUget y c hy
     rw [hθ2 x hx] at hb
     exact hH2.own x c0 b N hc0 hb
 · intro y c b N hy hb
   obtain ⟨x, c0, hx, rfl, hc0, -, -⟩ := hUget y c hy
   rw [hθ2 x hx] at hb
   exact ⟨x, c0, hc0, hb⟩
theorem body_valid {κ : Nat → Option CSumm} (hκ : KOk P κ) (hmix : P.follows .mixedOrders = true) {f : FuncId} {fn : Func} (hf : P.funcs[f]? = some fn) {ι : Nat → Bool} {sp : Bool} {fuel : Nat} : ValidC P f (bodyC P κ ι sp fuel fn) := by
 intro args H v ups hrun _ ω θ Im w us hargs hH hfr
 unfold bodyC at hrun
 cases hb : fn.body with
 | none => rw [hb] at hrun; simp [crun] at hrun
 | some c =>
  rw [hb] at hrun
  simp only [] at hrun
  cases hc : canonB H 0 && closedB H.length H && Nat.ble args.length fn.ntmps && Nat.blt fn.ntmps 16000 && Nat.blt H.length 1000000 with
  | false => rw [hc] at hrun; simp [crun] at hrun
  | true =>
   rw [hc] at hrun
   simp only [cond_true] at hrun
   simp only [Bool.and_eq_true] at hc
   obtain ⟨⟨⟨⟨c1, c2⟩, c3⟩, c4⟩, c5⟩ := hc
   have hal : args.length ≤ fn.ntmps := by rwa [Nat.ble_eq] at c3
   have hnt : fn.ntmps < 16000 := by rwa [Nat.blt_eq] at c4
   have hHl : H.length < 1000000 := by rwa [Nat.blt_eq] at c5
   have hhp : (initSt sp fn args H).hp.get = H.get := heapTr_init c1 (by omega)
   have hs0 : StOk { initSt sp fn args H with tm := .lf, size := 0 } := by
    refine ⟨by show 0 < 16000; omega, hHl, fun t _ => rfl, ?_, Nat.le_refl _⟩
    intro x c hx
    have hx' : (initSt sp fn args H).hp.get x = some c := hx
    rw [hhp] at hx'
    exact canon_lt c1 hx'
   have hst : StOk (initSt sp fn args H) := enter_ok hs0 hal hnt
   obtain ⟨e, s2, hs2, hcomes, hfin⟩ := exec_ok (den := crun) rfl hκ hmix fuel c _ _ _ hst hrun
   have hm2 : s2.m = H.length := hcomes.later.m
   have he : ∀ id, e ≠ .exit id := by
    rintro id rfl
    simp [crun] at hfin
   have hfin' : crun (finishC P fn s2) = some (v, ups) := by
    cases e with
    | exit id => exact absurd rfl (he id)
    | normal => exact hfin
    | ret => exact hfin
   unfold finishC at hfin'
   cases hrs : resultsS P s2 fn.results.toList with
   | none => rw [hrs] at hfin'; simp [crun] at hfin'
   | some vs =>
    rw [hrs] at hfin'
    simp only [] at hfin'
    cases hre : reachNew s2.hp s2.m 2000 (namesS (oneOrTup vs) ++ dirtyNames s2.hp s2.dirty) [] with
    | none => rw [hre] at hfin'; simp [crun] at hfin'
    | some ns =>
      rw [hre] at hfin'
      simp only [crun, Option.some.injEq, Prod.mk.injEq] at hfin'
      rw [hm2] at hfin'
      obtain ⟨rfl, rfl⟩ := hfin'
      have hfr0 : Fr (initSt sp fn args H).nx θ (initSt sp fn args H).hp.get := by
       intro x hx
       have hx' : H.length ≤ x := hx
       refine ⟨hfr x hx', ?_⟩
       rw [hhp]
       cases hg : H.get x with
       | none => rfl
       | some c => have := canon_lt c1 hg; omega
      have sim0 := enter_sim (P := P) hs0 (args := args) (us := us) hal hnt (w := w) (Im := Im) (θ := θ) (by show HRel P ω w Im θ (initSt sp fn args H).hp.get; rw [hhp]; exact hH) hfr0 hargs
      refine (callsIn_wide (n := 0)).1 (body_calls (ρ := none) hf hb he hcomes sim0 hrs (fun u w' Im' θ' hH2 _ hE hvu => ?_))
      have hsame : ∀ x, x < H.length → s2.hp.get x = H.get x ∨ x ∈ s2.dirty := by
       intro x hx
       have := hcomes.later.same x hx
       rwa [hhp] at this
      have hdl : ∀ x ∈ s2.dirty, x < H.length := by
       intro x hx
       rcases hcomes.later.low x hx with h | h
       · cases h
       · exact h
      have hext : Ext (fun x => H.length ≤ x) H.get w Im θ s2.hp.get w' Im' θ' := by
       rw [← hhp]; exact hE
      obtain ⟨θ3, g1, g2, g3, -⟩ := finish_gen c1 c2 hfr hm2 hsame hdl hre hH2 hext hvu
      exact ⟨u, θ3, Im', rfl, g1, g2, g3⟩
end Go.Am
/- The abstract machine: tables of what is known of callees; closed runs. -/
namespace Go.Am
variable {P : Program} {ω : Nat → Value}
def noNum (P : Program) : Prop := (P.funcs.all fun fn => !(fn.name == "runtime.NumGoroutine")) = true
theorem noNum_at (h : noNum P) {f : FuncId} {fn : Func} (hf : P.funcs[f]? = some fn) : (fn.name == "runtime.NumGoroutine") = false := by
 have := Array.all_eq_true'.1 h fn (Array.mem_of_getElem? hf)
 simpa using this
def tbl : List (Nat × CSumm) → Nat → Option CSumm
 | [], _ => none
 | (g, s) :: l, f => bif Nat.beq g f then some s else tbl l f
structure Known (P : Program) (f : FuncId) (s : CSumm) : Prop where
 fn : ∃ fn, P.funcs[f]? = some fn ∧ (fn.name == "runtime.NumGoroutine") = false ∧ fn.body.isNone = false
 ok : ValidC P f s
theorem tbl_nil : KOk P (tbl []) := ⟨(fun _ _ h => by cases h), (fun _ _ h => by cases h)⟩
theorem tbl_cons {g : Nat} {s : CSumm} {l : List (Nat × CSumm)} (h1 : Known P g s) (h2 : KOk P (tbl l)) : KOk P (tbl ((g, s) :: l)) := by
 constructor
 · intro f t ht
   simp only [tbl] at ht
   cases hb : Nat.beq g f with
   | true => rw [hb] at ht; have := Nat.eq_of_beq_eq_true hb; subst this; exact h1.fn
   | false => rw [hb] at ht; exact h2.fn f t ht
 · intro f t ht
   simp only [tbl] at ht
   cases hb : Nat.beq g f with
   | true => rw [hb] at ht; have := Nat.eq_of_beq_eq_true hb; subst this; simp at ht; subst ht; exact h1.ok
   | false => rw [hb] at ht; exact h2.ok f t ht
theorem known_of_bodyC (hn : noNum P) (hmix : P.follows .mixedOrders = true) {κ : Nat → Option CSumm} (hκ : KOk P κ) {f : FuncId} {fn : Func} (hf : P.funcs[f]? = some fn) (hb : fn.body.isNone = false) {ι : Nat → Bool} {sp : Bool} {fuel : Nat} {s : CSumm}
  (hs : ∀ args H v ups, crun (s args H) = some (v, ups) → crun (bodyC P κ ι sp fuel fn args H) = some (v, ups)) : Known P f s :=
 ⟨⟨fn, hf, noNum_at hn hf, hb⟩, fun args H v ups hr => body_valid hκ hmix hf args H v ups (hs args H v ups hr)⟩
def inl (κ : Nat → Option CSumm) (f : Nat) : Bool := match κ f with
 | some _ => false
 | none => true
abbrev bodyS (P : Program) (κ : Nat → Option CSumm) (f : Func) : CSumm := bodyC P κ (inl κ) true 1000 f
theorem known_of_bodyS (hn : noNum P) (hmix : P.follows .mixedOrders = true) {κ : Nat → Option CSumm} (hκ : KOk P κ) {f : FuncId} {fn : Func} (hf : P.funcs[f]? = some fn) (hb : fn.body.isNone = false) {s : CSumm}
  (hs : ∀ args H v ups, crun (s args H) = some (v, ups) → crun (bodyS P κ fn args H) = some (v, ups)) : Known P f s := known_of_bodyC hn hmix hκ hf hb hs
def hasBody (P : Program) (f : Nat) : Bool := match P.funcs[f]? with
 | some fn => !fn.body.isNone
 | none => false
def closedS (P : Program) (fuel : Nat) : Nat → Nat → Option CSumm
 | 0, _ => none
 | n + 1, f =>
  match P.funcs[f]? with
  | some fn => bif fn.body.isNone then none else some (bodyC P (closedS P fuel n) (hasBody P) false fuel fn)
  | none => none
theorem closed_ok (hn : noNum P) (hmix : P.follows .mixedOrders = true) (fuel : Nat) : ∀ n, KOk P (closedS P fuel n) := by
 intro n
 induction n with
 | zero => exact ⟨(fun _ _ h => by cases h), (fun _ _ h => by cases h)⟩
 | succ n ih =>
  constructor
  · intro f s h
    simp only [closedS] at h
    cases hf : P.funcs[f]? with
    | none => simp [hf] at h
    | some fn =>
     simp only [hf] at h
     cases hb : fn.body.isNone with
     | true => simp [hb] at h
     | false => exact ⟨fn, rfl, noNum_at hn hf, hb⟩
  · intro f s h
    simp only [closedS] at h
    cases hf : P.funcs[f]? with
    | none => simp [hf] at h
    | some fn =>
     simp only [hf] at h
     cases hb : fn.body.isNone with
     | true => simp [hb] at h
     | false =>
      simp only [hb, cond_false, Option.some.injEq] at h
      subst h
      exact body_valid ih hmix hf
def callK (κ : Nat → Option CSumm) (f : Nat) (args : List SV) (H : HpL) : Option (SV × List (Nat × Option Chunk)) := match κ f with
 | some s => crun (s args H)
 | none => none
end Go.Am
/- The abstract machine: from a call's outcome to a row's statement. -/
namespace Go.Am
open Go.ChangeShapes Go.WideShapes
variable {P : Program} {ω : Nat → Value}
section
variable {H : Type} {enc : TypeId × Value → H} {w : World} {base : Nat} {spare : Nat → Bool} {held : Bool}
theorem post_kept {f : Func} {s : ChangeSpec} {apart fresh handsOn again : Bool} {W W' : World} {args : Array Value} {v : Value} {ds gs : List (DataW H)} {before pa pv : List MemPlace}
  (hW : DataW.Whole enc P f.params.toList s.vars apart W args.toList ds gs before)
  (hres : ∀ (b : Nat) (sp : Nat → Bool) (hd : Bool), DataW.TrodAll enc P W' b sp hd f.resultTypes.toList (v.resultList f.resultTypes.size) (s.fn H (ds ++ gs)).results [])
  (hargs : ∀ sp : Nat → Bool, (∀ p ∈ before, sp p.block = true) → DataW.TrodAll enc P W' 0 sp true f.params.toList args.toList (s.fn H (ds ++ gs)).args pa)
  (hvars : ∀ sp : Nat → Bool, (∀ p ∈ before, sp p.block = true) → DataW.TrodVars enc P W' sp s.vars (s.fn H (ds ++ gs)).vars pv)
  (hps : before = pa ++ pv) (hk : W.keptBut W' (· ∈ before)) (hfz : ∀ a : Addr, a.block < W.heap.size → W'.frozen? a = W.frozen? a)
  (hok : ∀ (j : Nat) (t : TypeId) (r : Value), f.resultTypes[j]? = some t → (v.resultList f.resultTypes.size)[j]? = some r → Value.okWide P W' .any 0 t r) :
  s.post enc P f apart fresh handsOn again W args v W' := by
 have hold : ∀ p ∈ before, (fun b => decide (b < W.heap.size)) p.block = true := fun p hp => by simpa using hW.lt p hp
 have hlt : ∀ p ∈ before, p.block < W.heap.size := fun p hp => hW.lt p hp
 refine ⟨ds, gs, before, [], pa, pv, hW, hres _ _ _, hargs _ hold, hvars _ hold, World.keptBut_mono (fun p hp => ⟨hp, ?_⟩) hk, fun _ => ?_⟩
 · rw [hps, List.mem_append] at hp
   exact Or.inr hp
 · obtain ⟨_, _, _, _, _, hz, hn⟩ := hW
   refine ⟨hok, _, _, ([] ++ pa) ++ pv, ⟨[] ++ pa, pv, trodAll_append (hargs _ (fun _ _ => rfl)) (hres _ _ _), hvars _ (fun _ _ => rfl), rfl, ?_, ?_⟩, ?_⟩
   · intro b off hp
     have hp' : MemPlace.cell b off ∈ before := by rw [hps]; simpa using hp
     rw [hfz _ (hlt _ hp')]
     exact hz b off hp'
   · intro ha
     have := hn ha
     rw [hps] at this
     simpa using this
   · intro p hp _
     rw [hps]
     simpa using hp
end
theorem GlobR.empty {P : Program} {w : World} {Im : Nat → Prop} (h : gtab P = []) : GlobR P w Im := fun e he => by rw [h] at he; cases he
end Go.Am
namespace Go.Am
variable {P : Program} {ω : Nat → Value}
def constS (r : SV) : CSumm
 | [], [] => .ret r []
 | _, _ => .fail
theorem known_closed (hn : noNum P) (hmix : P.follows .mixedOrders = true) {fuel n f : Nat} {fn : Func} (hf : P.funcs[f]? = some fn) (hb : fn.body.isNone = false) {r : SV} (h : callK (closedS P fuel n) f [] [] = some (r, [])) : Known P f (constS r) := by
 have hk := closed_ok hn hmix fuel n
 refine ⟨⟨fn, hf, noNum_at hn hf, hb⟩, ?_⟩
 simp only [callK] at h
 cases hc : closedS P fuel n f with
 | none => rw [hc] at h; cases h
 | some s =>
  rw [hc] at h
  intro args H v ups hr
  have hs := hk.ok f s hc
  have : args = [] ∧ H = [] ∧ v = r ∧ ups = [] := by
   unfold constS at hr
   split at hr
   · simp only [crun, Option.some.injEq, Prod.mk.injEq] at hr
     exact ⟨rfl, rfl, hr.1.symm, hr.2.symm⟩
   · cases hr
  obtain ⟨rfl, rfl, rfl, rfl⟩ := this
  exact hs [] [] _ [] h
end Go.Am
/- The abstract machine: loops, by what is known of them. -/
namespace Go.Am
variable {P : Program} {ω : Nat → Value}
def ValidL (P : Program) (e : LEnt) : Prop :=
 ∀ (args : List SV) (H : HpL) (k : IntKind) (c : Int) (outs : List SV) (ups : List (Nat × Option Chunk)), crun (e.s args H) = some (.tup (.int k c :: outs), ups) → Canon H → outs.length = e.outs.length → args.length = e.ins.length →
  ∃ m, ∀ (ω : Nat → Value) (θ : Th) (Im : Nat → Prop) (w : World) (a : Act) (Q : Exit → Act → World → Prop), a.tmps.size = e.size → LRel P ω w Im θ args (e.ins.map fun t => a.tmps.getD t undef) → HRel P ω w Im θ H.get →
   (∀ x, H.length ≤ x → θ x = none) → Mk w Im θ H.get a.defers →
   (∀ a' w' Im' θ', a'.tmps.size = e.size → Ext (fun x => H.length ≤ x) H.get w Im θ (updF ups H.get) w' Im' θ' → LRel P ω w' Im' θ' outs (e.outs.map fun t => a'.tmps.getD t undef) → HRel P ω w' Im' θ' (updF ups H.get) →
    (∀ t ∈ e.keep, a'.tmps.getD t undef = a.tmps.getD t undef) → Mk w' Im' θ' (updF ups H.get) a'.defers → New a a' w → Q (exitOf (exOf c)) a' w') →
   Code.roundsIn (FR none) 0 P e.code Q m a w
theorem keepT_get : ∀ (l : List Nat) (s : St) (t : Tr SV) (j : Nat), (∀ x ∈ l, x < 16000) → (keepT l s t).get j = if j ∈ l then some (s.tmp j) else t.get j
 | [], s, t, j, _ => by simp [keepT]
 | x :: l, s, t, j, h => by
  simp only [keepT]
  rw [keepT_get l s _ j (fun y hy => h y (by simp [hy]))]
  rw [Tr.get_set 14 t x _ j (by have := h x (by simp); omega)]
  by_cases h1 : j ∈ l
  · simp [h1]
  · by_cases h2 : j = x
    · subst h2; simp [h1]
    · simp [h1, h2]
theorem keepI_get : ∀ (l : List Nat) (t : Tr SV) (j : Nat), (∀ x ∈ l, x < 16000) → (keepI l t).get j = if j ∈ l then some (.opq j) else t.get j
 | [], t, j, _ => by simp [keepI]
 | x :: l, t, j, h => by
  simp only [keepI]
  rw [keepI_get l _ j (fun y hy => h y (by simp [hy]))]
  rw [Tr.get_set 14 t x _ j (by have := h x (by simp); omega)]
  by_cases h1 : j ∈ l
  · simp [h1]
  · by_cases h2 : j = x
    · subst h2; simp [h1]
    · simp [h1, h2]
theorem setPs_at : ∀ (l : List Nat) (vs : List SV) (t : Tr SV) (j : Nat), (∀ x ∈ l, x < 16000) → ((setPs l vs t).get j = t.get j ∧ (j ∉ l ∨ l.length ≠ vs.length)) ∨ ∃ i : Nat, l[i]? = some j ∧ ∃ v, vs[i]? = some v ∧ (setPs l vs t).get j = some v
 | [], vs, t, j, _ => by left; cases vs <;> exact ⟨rfl, .inl (by simp)⟩
 | x :: l, [], t, j, _ => .inl ⟨rfl, .inr (by simp)⟩
 | x :: l, v :: vs, t, j, h => by
  simp only [setPs]
  rcases setPs_at l vs (t.set 14 x (some v)) j (fun y hy => h y (by simp [hy])) with ⟨h1, h2⟩ | ⟨i, h1, v', h2, h3⟩
  · rw [h1, Tr.get_set 14 t x _ j (by have := h x (by simp); omega)]
    by_cases h4 : j = x
    · subst h4
      exact .inr ⟨0, rfl, v, rfl, by simp⟩
    · rw [if_neg h4]
      refine .inl ⟨rfl, ?_⟩
      rcases h2 with h2 | h2
      · exact .inl (by simp [h4, h2])
      · exact .inr (by simpa using h2)
  · exact .inr ⟨i + 1, by simpa using h1, v', by simpa using h2, h3⟩
theorem lrel_map {w : World} {Im : Nat → Prop} {θ : Th} {f : Nat → SV} {g : Nat → Value} : ∀ {l : List Nat}, (∀ t ∈ l, VRel P ω w Im θ (f t) (g t)) → LRel P ω w Im θ (l.map f) (l.map g) := by
 intro l hl
 refine ⟨by simp, fun i v u hv hu => ?_⟩
 simp only [List.getElem?_map, Option.map_eq_some_iff] at hv hu
 obtain ⟨t, ht, rfl⟩ := hv
 obtain ⟨t', ht', rfl⟩ := hu
 rw [ht] at ht'
 cases ht'
 exact hl t (List.mem_of_getElem? ht)
section
variable {R D : Type} {fl : R} {den : R → Option D} (hfl : den fl = none)
include hfl
theorem loopK_run {e : LEnt} (hv : ValidL P e) {s : St} {k : Ex → St → R} {d : D} (hs : StOk s) (h : den (loopK fl e s k) = some d) : ∃ ex s2, StOk s2 ∧ Comes P (.loop e.code) s ex s2 ∧ den (k ex s2) = some d := by
 unfold loopK at h
 cases hrd : s.rd with
 | some y => rw [hrd] at h; exact (fl_no hfl h).elim
 | none =>
  rw [hrd] at h
  simp only [] at h
  cases hb : Nat.beq s.size e.size && lowB s.size e.ins && lowB s.size e.outs && lowB s.size e.keep with
  | false => rw [hb] at h; exact (fl_no hfl h).elim
  | true =>
   rw [hb] at h
   simp only [cond_true] at h
   simp only [Bool.and_eq_true] at hb
   obtain ⟨⟨⟨b1, b2⟩, b3⟩, b4⟩ := hb
   have hsz : s.size = e.size := Nat.eq_of_beq_eq_true b1
   have hins := lowB_spec _ b2
   have houts := lowB_spec _ b3
   have hkeep := lowB_spec _ b4
   have hsmall := hs.size
   obtain ⟨r, ups, nx, rs', hm, h2⟩ := interp_run hfl _ _ h
   cases hbn : Nat.blt nx 1000000 with
   | false => rw [hbn] at h2; exact (fl_no hfl h2).elim
   | true =>
    rw [hbn] at h2
    simp only [cond_true] at h2
    have hnx : nx < 1000000 := by rw [Nat.blt_eq] at hbn; exact hbn
    split at h2
    case h_2 => exact (fl_no hfl h2).elim
    rename_i kk c outs
    cases hbl : Nat.beq outs.length e.outs.length with
    | false => rw [hbl] at h2; exact (fl_no hfl h2).elim
    | true =>
     rw [hbl] at h2
     simp only [cond_true] at h2
     have hol : outs.length = e.outs.length := Nat.eq_of_beq_eq_true hbl
     obtain ⟨hle, hkeys⟩ := callS_wf hm
     have hk : ∀ p ∈ ups, p.1 < nx := by
      intro p hp
      rcases hkeys p hp with h3 | h3
      · obtain ⟨c, hc⟩ := mrun_reads _ _ hm p.1 h3
        have := hs.dom _ c hc; omega
      · exact h3.2
     have hk2 : ∀ p ∈ ups, p.1 < 1000000 := fun p hp => by have := hk p hp; omega
     have ou := upd_ok hs hle hnx hk
     have hhp : (s.upd ups nx).hp.get = updF ups s.hp.get := upsTr_get _ _ hk2
     -- the temporaries behind the loop
     have htm : ∀ j, ((afterL e outs ups nx s).tmp j = .junk) ∨ (j ∈ e.keep ∧ (afterL e outs ups nx s).tmp j = s.tmp j) ∨ ∃ i : Nat, e.outs[i]? = some j ∧ ∃ v, outs[i]? = some v ∧ (afterL e outs ups nx s).tmp j = v := by
      intro j
      have hk16 : ∀ x ∈ e.keep, x < 16000 := fun x hx => by have := hkeep x hx; omega
      have ho16 : ∀ x ∈ e.outs, x < 16000 := fun x hx => by have := houts x hx; omega
      have he : (afterL e outs ups nx s).tmp j = match (setPs e.outs outs (keepT e.keep s .lf)).get j with
       | some v => v
       | none => .junk := rfl
      rcases setPs_at e.outs outs (keepT e.keep s .lf) j ho16 with ⟨g1, -⟩ | ⟨i, g1, v, g2, g3⟩
      · rw [he, g1, keepT_get _ _ _ _ hk16]
        by_cases hj : j ∈ e.keep
        · simp [hj]
        · simp [hj, Tr.get_lf]
      · exact .inr (.inr ⟨i, g1, v, g2, by rw [he, g3]⟩)
     have hok : StOk (afterL e outs ups nx s) := by
      refine ⟨hs.size, ou.nx, fun t ht => ?_, ou.dom, ou.m⟩
      have ht' : s.size ≤ t := ht
      rcases htm t with g | ⟨g, _⟩ | ⟨i, g, _⟩
      · exact g
      · have := hkeep t g; omega
      · have := houts t (List.mem_of_getElem? g); omega
     obtain ⟨args', H, v, u, back, q1, q2, q3, q4, hsem⟩ := enter_gen (P := P) hm
     -- the loop's own names
     have hvf : ∃ outsL, v = .tup (.int kk c :: outsL) ∧ outs = renL back outsL := by
      cases v <;> simp only [renS] at q4 <;> try (cases q4; done)
      rename_i vs
      cases vs with
      | nil => simp [renL] at q4
      | cons x vs =>
       simp only [renL, SV.tup.injEq, List.cons.injEq] at q4
       obtain ⟨h3, h4⟩ := q4
       cases x <;> simp only [renS] at h3 <;> try (cases h3; done)
       cases h3
       exact ⟨vs, rfl, h4⟩
     obtain ⟨outsL, rfl, rfl⟩ := hvf
     have holL : outsL.length = e.outs.length := by rw [renL_eq] at hol; simpa using hol
     obtain ⟨m, hmv⟩ := hv args' H kk c outsL u q1 q2 holL (by rw [q3]; simp)
     refine ⟨exOf c, afterL e (renL back outsL) ups nx s, hok, ⟨⟨rfl, hle, (upd_later hle hk2).same, (upd_later hle hk2).up, (upd_later hle hk2).low⟩, rfl, rfl, m, ?_⟩, h2⟩
     intro ω ρ Q a w Im θ sim hA
     have hρ : ρ = none := by
      rcases sim.rd with ⟨_, g⟩ | ⟨y, b, N, g, _⟩
      · exact g
      · rw [hrd] at g; cases g
     subst hρ
     show Code.roundsIn (FR none) 0 P e.code Q m a w
     have hargs : LRel P ω w Im θ (e.ins.map s.tmp) (e.ins.map fun t => a.tmps.getD t undef) := lrel_map (fun t ht => sim.sf.tm t (hins t ht))
     obtain ⟨θL, l1, l2, l3, l4, l5⟩ := hsem sim.sf.hp hargs (fun x h1 _ => sim.fr x h1)
     obtain ⟨rs0, base0, d1, db, d2, d3⟩ := sim.sf.df
     have hMkL : Mk w Im θL H.get a.defers := ⟨rs0, base0, d1, db, d2, fun r hr => ⟨(d3 r hr).1, (d3 r hr).2.1, fun y c N hy hb => by
      obtain ⟨x, c0, hx, hxb⟩ := l4 y c r N hy hb
      exact (d3 r hr).2.2 x c0 N hx hxb⟩⟩
     refine hmv ω θL Im w a Q (by rw [sim.sf.size, hsz]) l1 l2 l3 hMkL (fun a' w' Im' θL' e1 e2 e3 e4 e5 e6 e7 => ?_)
     -- back
     have hz : VRel P ω w' Im' θL' (.tup (.int kk c :: outsL)) (.tuple (.int kk c :: (e.outs.map fun t => a'.tmps.getD t undef)).toArray) := by
      refine .tup (by simpa using e3.len) (fun i v u hv hu => ?_)
      cases i with
      | zero => simp at hv hu; subst hv; subst hu; exact .int
      | succ i => exact e3.at_ i v u (by simpa using hv) (by simpa using hu)
     obtain ⟨θ', f1, f2, f3, f4, f5⟩ := l5 _ w' θL' Im' e2 hz e4
     have hE' : Ext (fun x => s.nx ≤ x) s.hp.get w Im θ (updF ups s.hp.get) w' Im' θ' := f1.mono (fun x hx => hx.1)
     have hval : ∀ t, VRel P ω w Im θ (s.tmp t) (a.tmps.getD t undef) → VRel P ω w' Im' θ' (s.tmp t) (a.tmps.getD t undef) := fun t ht => hE'.val sim.sf.hp ht
     refine hA a' w' Im' θ' ⟨hok, ⟨by rw [e1]; exact hsz.symm, fun t ht => ?_, hok.out, ?_, ?_⟩, ?_, .inl ⟨hrd, rfl⟩⟩ ?_ e7
     · have ht' : t < s.size := ht
       rcases htm t with g | ⟨g, g2⟩ | ⟨i, g, v, g2, g3⟩
       · rw [g]; exact .junk
       · rw [g2, e5 t g]; exact hval t (sim.sf.tm t ht')
       · rw [g3]
         have f2' : LRel P ω w' Im' θ' (.int kk c :: renL back outsL) (.int kk c :: (e.outs.map fun t => a'.tmps.getD t undef)) := by
          cases f2 with
          | tup p1 p2 => exact ⟨by simpa using p1, fun i v u hv hu => p2 i v u hv (by simpa using hu)⟩
         exact f2'.at_ (i + 1) v _ (by simpa using g2) (by simp [g])
     · -- marks
       show Mk w' Im' θ' ((s.upd ups nx).hp.get) a'.defers
       rw [hhp]
       obtain ⟨rs1, base1, m1, mb, m2, m3⟩ := e6
       obtain ⟨rs2, n1, n2⟩ := e7
       refine ⟨rs1, base1, m1, mb, m2, fun r hr => ⟨(m3 r hr).1, (m3 r hr).2.1, fun x c N hx hb => ?_⟩⟩
       rcases f4 x c r N hx hb with ⟨y, c0, hy, hyb⟩ | ⟨c0, hx0, hxb⟩
       · exact (m3 r hr).2.2 y c0 N hy hyb
       · have hr2 : r ∈ rs2 ∨ r ∈ rs0 := by
           have : rs1 = rs2 ++ rs0 := mark_inj2 mb db (by
            have h5 : a'.defers = rs1.map mark ++ base1 := m1
            have h6 : a.defers = rs0.map mark ++ base0 := d1
            rw [List.map_append, List.append_assoc, ← h5, n1, h6])
           rw [this] at hr
           exact List.mem_append.1 hr
         rcases hr2 with h3 | h3
         · have h4 := n2 r h3
           have := (sim.sf.hp.own x c0 r N hx0 hxb).2
           omega
         · exact (d3 r h3).2.2 x c0 N hx0 hxb
     · show HRel P ω w' Im' θ' ((s.upd ups nx).hp.get)
       rw [hhp]; exact f3
     · show Fr nx θ' ((s.upd ups nx).hp.get)
       rw [hhp]
       exact sim.fr.step hle hkeys (mrun_reads _ _ hm) f1
     · show Ext (fun x => s.nx ≤ x) s.hp.get w Im θ ((s.upd ups nx).hp.get) w' Im' θ'
       rw [hhp]; exact hE'
end
end Go.Am
/- The abstract machine: loops, round by round. -/
namespace Go.Am
variable {P : Program} {ω : Nat → Value}
def RcrOkL {R D : Type} (P : Program) (T : LTab) (den : R → Option D) (rec : Rcr R) : Prop :=
 ∀ (c : Code) (s : St) (k : Ex → St → R) (d : D), StOk s → den (rec c s k) = some d → ∃ e s2, StOk s2 ∧ Comes P (fillC T c) s e s2 ∧ den (k e s2) = some d
def LOk (P : Program) (T : LTab) : Prop := ∀ w e, T w = some e → ValidL P e
section
variable {R D : Type} {fl : R} {den : R → Option D} (hfl : den fl = none) {T : LTab} {recL rec : Rcr R} (hrecL : RcrOkL P T den recL) (hrec : RcrOk P den rec) {κ : Nat → Option CSumm} {ι : Nat → Bool} (hκ : KOk P κ)
include hfl hrecL hrec hκ
theorem execCL_ok (hmix : P.follows .mixedOrders = true) (hT : LOk P T) : RcrOkL P T den (execCL fl P κ ι T recL rec) := by
 intro c
 induction c with
 | skip => intro s k d hs h; exact ⟨.normal, s, hs, comes_self (fun ρ Q a w hq => wpIn_skip hq), h⟩
 | region id ops draw =>
  intro s k d hs h
  obtain ⟨s', hs', hc, h1⟩ := region_run hfl hrec hκ (id := id) hmix hs h
  exact ⟨.normal, s', hs', hc, h1⟩
 | seq x y ihx ihy =>
  intro s k d hs h
  simp only [execCL] at h
  obtain ⟨e, s1, hs1, hc1, h1⟩ := ihx s _ d hs h
  cases e with
  | normal =>
   simp only [] at h1
   obtain ⟨e2, s2, hs2, hc2, h2⟩ := ihy s1 k d hs1 h1
   refine ⟨e2, s2, hs2, ⟨hc1.later.trans hc2.later, by rw [hc2.size, hc1.size], by rw [hc2.rd, hc1.rd], 0, fun ω ρ Q a w Im θ sim hA => ?_⟩, h2⟩
   refine wpIn_seq (hc1.wp ρ _ a w Im θ sim (fun a' w' Im' θ' sim' hE hN => ?_))
   exact hc2.wp ρ Q a' w' Im' θ' sim' (After.trans hc1.later hE hN hA)
  | exit id =>
   exact ⟨.exit id, s1, hs1, ⟨hc1.later, hc1.size, hc1.rd, 0, fun ω ρ Q a w Im θ sim hA => wpIn_seq (hc1.wp ρ _ a w Im θ sim (fun a' w' Im' θ' sim' hE hN => hA a' w' Im' θ' sim' hE hN))⟩, h1⟩
  | ret =>
   exact ⟨.ret, s1, hs1, ⟨hc1.later, hc1.size, hc1.rd, 0, fun ω ρ Q a w Im θ sim hA => wpIn_seq (hc1.wp ρ _ a w Im θ sim (fun a' w' Im' θ' sim' hE hN => hA a' w' Im' θ' sim' hE hN))⟩, h1⟩
 | cond c x y ihx ihy =>
  intro s k d hs h
  simp only [execCL] at h
  split at h
  · rename_i b hb
    have hev : ∀ {ω : Nat → Value} {ρ : Option Nat} {a : Act} {w : World} {Im : Nat → Prop} {θ : Th}, Sim P ω ρ s a w Im θ → a.eval c = .bool b := by
     intro ω ρ a w Im θ sim
     have := sim.sf.eval c
     rw [← evT_ev, hb] at this
     generalize a.eval c = u at this
     cases this
     rfl
    cases b with
    | true =>
     obtain ⟨e, s1, hs1, hc1, h1⟩ := ihx s k d hs h
     exact ⟨e, s1, hs1, ⟨hc1.later, hc1.size, hc1.rd, 0, fun ω ρ Q a w Im θ sim hA => wpIn_cond_true (hev sim) (hc1.wp ρ Q a w Im θ sim hA)⟩, h1⟩
    | false =>
     obtain ⟨e, s1, hs1, hc1, h1⟩ := ihy s k d hs h
     exact ⟨e, s1, hs1, ⟨hc1.later, hc1.size, hc1.rd, 0, fun ω ρ Q a w Im θ sim hA => wpIn_cond_false (hev sim) (hc1.wp ρ Q a w Im θ sim hA)⟩, h1⟩
  · exact (fl_no hfl h).elim
 | block id c ih =>
  intro s k d hs h
  simp only [execCL] at h
  obtain ⟨e, s1, hs1, hc1, h1⟩ := ih s _ d hs h
  cases e with
  | normal => exact ⟨.normal, s1, hs1, ⟨hc1.later, hc1.size, hc1.rd, 0, fun ω ρ Q a w Im θ sim hA => wpIn_block (hc1.wp ρ _ a w Im θ sim hA)⟩, h1⟩
  | ret => exact ⟨.ret, s1, hs1, ⟨hc1.later, hc1.size, hc1.rd, 0, fun ω ρ Q a w Im θ sim hA => wpIn_block (hc1.wp ρ _ a w Im θ sim hA)⟩, h1⟩
  | exit j =>
   simp only [] at h1
   cases hj : Nat.beq j id with
   | true =>
    rw [hj] at h1
    have hji : j = id := Nat.eq_of_beq_eq_true hj
    subst hji
    refine ⟨.normal, s1, hs1, ⟨hc1.later, hc1.size, hc1.rd, 0, fun ω ρ Q a w Im θ sim hA => wpIn_block (hc1.wp ρ _ a w Im θ sim (fun a' w' Im' θ' sim' hE hN => ?_))⟩, h1⟩
    simp only [exitOf, Exit.inBlock, if_true]
    exact hA a' w' Im' θ' sim' hE hN
   | false =>
    rw [hj] at h1
    have hji : ¬ j = id := fun e => by rw [nb_t e] at hj; cases hj
    refine ⟨.exit j, s1, hs1, ⟨hc1.later, hc1.size, hc1.rd, 0, fun ω ρ Q a w Im θ sim hA => wpIn_block (hc1.wp ρ _ a w Im θ sim (fun a' w' Im' θ' sim' hE hN => ?_))⟩, h1⟩
    simp only [exitOf, Exit.inBlock, if_neg hji]
    exact hA a' w' Im' θ' sim' hE hN
 | loop c ih =>
  intro s k d hs h
  simp only [execCL] at h
  obtain ⟨e, s1, hs1, hc1, h1⟩ := ih s _ d hs h
  cases e with
  | normal =>
   simp only [] at h1
   obtain ⟨e2, s2, hs2, hc2, h2⟩ := hrecL (.loop c) s1 k d hs1 h1
   obtain ⟨m, hm⟩ := hc2.wps
   refine ⟨e2, s2, hs2, ⟨hc1.later.trans hc2.later, by rw [hc2.size, hc1.size], by rw [hc2.rd, hc1.rd], m + 1, fun ω ρ Q a w Im θ sim hA => ?_⟩, h2⟩
   show Code.roundsIn (FR ρ) 0 P (fillC T c) Q (m + 1) a w
   rw [roundsIn_succ]
   refine hc1.wp ρ _ a w Im θ sim (fun a' w' Im' θ' sim' hE hN => ?_)
   exact hm ω ρ Q a' w' Im' θ' sim' (After.trans hc1.later hE hN hA)
  | exit id =>
   refine ⟨.exit id, s1, hs1, ⟨hc1.later, hc1.size, hc1.rd, 1, fun ω ρ Q a w Im θ sim hA => ?_⟩, h1⟩
   show Code.roundsIn (FR ρ) 0 P (fillC T c) Q 1 a w
   rw [roundsIn_succ]
   exact hc1.wp ρ _ a w Im θ sim (fun a' w' Im' θ' sim' hE hN => hA a' w' Im' θ' sim' hE hN)
  | ret =>
   refine ⟨.ret, s1, hs1, ⟨hc1.later, hc1.size, hc1.rd, 1, fun ω ρ Q a w Im θ sim hA => ?_⟩, h1⟩
   show Code.roundsIn (FR ρ) 0 P (fillC T c) Q 1 a w
   rw [roundsIn_succ]
   exact hc1.wp ρ _ a w Im θ sim (fun a' w' Im' θ' sim' hE hN => hA a' w' Im' θ' sim' hE hN)
 | exit id => intro s k d hs h; exact ⟨.exit id, s, hs, comes_self (fun ρ Q a w hq => wpIn_exit hq), h⟩
 | label l => intro s k d hs h; exact ⟨.normal, s, hs, comes_self (fun ρ Q a w hq => wpIn_label hq), h⟩
 | ret => intro s k d hs h; exact ⟨.ret, s, hs, comes_self (fun ρ Q a w hq => wpIn_ret hq), h⟩
 | rangeFunc f ps x y _ _ =>
  intro s k d hs h
  exact execC_ok hfl hrec hκ hmix _ s k d hs h
 | scope c ih =>
  intro s k d hs h
  simp only [execCL] at h
  obtain ⟨e, s1, hs1, hc1, h1⟩ := ih s k d hs h
  exact ⟨e, s1, hs1, ⟨hc1.later, hc1.size, hc1.rd, 0, fun ω ρ Q a w Im θ sim hA => wpIn_scope_straight (hc1.wp ρ _ a w Im θ sim (fun a' w' Im' θ' sim' hE hN => by
   cases e <;> exact hA a' w' Im' θ' sim' hE hN))⟩, h1⟩
 | goto l => intro s k d hs h; exact (fl_no hfl h).elim
 | refuse w =>
  intro s k d hs h
  simp only [execCL] at h
  cases hw : T w with
  | none => rw [hw] at h; exact (fl_no hfl h).elim
  | some e =>
   rw [hw] at h
   have hf : fillC T (.refuse w) = .loop e.code := by simp only [fillC, hw]
   rw [hf]
   exact loopK_run hfl (hT w e hw) hs h
end
theorem execL_ok {R D : Type} {fl : R} {den : R → Option D} (hfl : den fl = none) {T : LTab} {κ : Nat → Option CSumm} {ι : Nat → Bool} (hκ : KOk P κ) (hmix : P.follows .mixedOrders = true) (hT : LOk P T) : ∀ n, RcrOkL P T den (execL fl P κ ι T n)
 | 0 => fun c s k d hs h => (fl_no hfl h).elim
 | n + 1 => execCL_ok hfl (execL_ok hfl hκ hmix hT n) (exec_ok hfl hκ hmix n) hκ hmix hT
theorem exOf_code (e : Ex) : exOf (codeEx e) = e := by cases e <;> rfl
mutual
theorem noOpq_ren (f : Nat → Nat) : ∀ (v : SV), noOpq (renS f v) = noOpq v
 | .fn g a b => by simp only [renS, noOpq, noOpqL_ren f a, noOpqL_ren f b]
 | .iface t v => by simp only [renS, noOpq, noOpq_ren f v]
 | .agg cs => by simp only [renS, noOpq, noOpqL_ren f cs]
 | .tup vs => by simp only [renS, noOpq, noOpqL_ren f vs]
 | .junk | .pnn _ _ | .opq _ | .bool _ | .int _ _ | .str _ | .ptr _ _ | .nilp | .pel _ _ | .sl _ _ _ _ | .nils | .psl _ _ | .emp | .qs _ _ _ _ | .qp _ _ _ _ | .qo _ _ _ | .qop _ _ _ _ | .mp _ | .nilm | .yl _ | .nilf | .nili | .gp _ _ => rfl
theorem noOpqL_ren (f : Nat → Nat) : ∀ (vs : List SV), noOpqL (renL f vs) = noOpqL vs
 | [] => rfl
 | v :: vs => by simp only [renL, noOpqL, noOpq_ren f v, noOpqL_ren f vs]
end
theorem LRel.om {ω' : Nat → Value} {w : World} {Im : Nat → Prop} {θ : Th} {vs : List SV} {us : List Value} (h : LRel P ω w Im θ vs us) (hn : noOpqL vs = true) : LRel P ω' w Im θ vs us :=
 ⟨h.len, fun i v u hv hu => (h.at_ i v u hv hu).om (noOpqL_at hn hv)⟩
theorem noOpq_keysB (kd : IntKind) : ∀ kvs : List (Int × Bool), noOpqL (keysB kd kvs) = true
 | [] => rfl
 | _ :: l => noOpq_keysB kd l
theorem noOpq_valsB : ∀ kvs : List (Int × Bool), noOpqL (valsB kvs) = true
 | [] => rfl
 | _ :: l => noOpq_valsB l
theorem CRel.om {ω' : Nat → Value} {w : World} {Im : Nat → Prop} {θ : Th} {x : Nat} {c : Chunk} (h : CRel P ω w Im θ x c) (hn : noOpqC c = true) : CRel P ω' w Im θ x c := by
 cases c with
 | cells T vs =>
  obtain ⟨b, cs, fr, h1, h2, h3, h4⟩ := h
  exact ⟨b, cs, fr, h1, h2, h3, h4.om hn⟩
 | seq e es => exact h
 | loopr st vs ps asg bdy =>
  obtain ⟨b, N, lp, h1, h2, h3, h4, h5, h6, h7⟩ := h
  exact ⟨b, N, lp, h1, h2, h3, h4, h5, h6, h7.om hn⟩
 | mpc ks vs =>
  obtain ⟨b, N, es, cl, h1, h2, h3, h4, h5⟩ := h
  simp only [noOpqC, Bool.and_eq_true] at hn
  exact ⟨b, N, es, cl, h1, h2, h3.om hn.1, h4.om hn.2, h5⟩
 | mpb kd kvs =>
  obtain ⟨b, N, es, cl, h1, h2, h3, h4, h5⟩ := h
  exact ⟨b, N, es, cl, h1, h2, h3.om (noOpq_keysB kd kvs), h4.om (noOpq_valsB kvs), h5⟩
 | mpn bs cl ks vs =>
  obtain ⟨b, N, es, h1, h2, h3, h4, h5⟩ := h
  simp only [noOpqC, Bool.and_eq_true] at hn
  exact ⟨b, N, es, h1, h2, h3.om hn.1, h4.om hn.2, h5⟩
 | mit z since seen last => exact h
 | sqo e es => exact h
theorem HRel.om {ω' : Nat → Value} {w : World} {Im : Nat → Prop} {θ : Th} {h : HpF} (hr : HRel P ω w Im θ h) (hn : ∀ x c, h x = some c → noOpqC c = true) : HRel P ω' w Im θ h :=
 ⟨fun x c hx => (hr.at_ x c hx).om (hn x c hx), hr.inj, hr.own, hr.im, hr.gl⟩
theorem noOpqH_at : ∀ {H : HpL}, noOpqH H = true → ∀ {x : Nat} {c : Chunk}, H.get x = some c → noOpqC c = true := by
 intro H hn x c hx
 have hm := HpL_get_some H x c hx
 induction H with
 | nil => cases hm
 | cons p H ih =>
  obtain ⟨y, d⟩ := p
  simp only [noOpqH, Bool.and_eq_true] at hn
  rcases List.mem_cons.1 hm with h | h
  · cases h; exact hn.1
  · have : ∀ (l : HpL), noOpqH l = true → ∀ q ∈ l, noOpqC q.2 = true := by
      intro l
      induction l with
      | nil => intro _ q hq; cases hq
      | cons p l ih =>
       obtain ⟨z, e⟩ := p
       intro hl q hq
       simp only [noOpqH, Bool.and_eq_true] at hl
       rcases List.mem_cons.1 hq with rfl | hq
       · exact hl.1
       · exact ih hl.2 q hq
    exact this H hn.2 (x, c) h
theorem noOpqU_at : ∀ {u : List (Nat × Option Chunk)}, noOpqU u = true → ∀ {h : HpF}, (∀ x c, h x = some c → noOpqC c = true) → ∀ x c, updF u h x = some c → noOpqC c = true
 | [], _, h, hh, x, c, hx => hh x c hx
 | (y, some d) :: u, hn, h, hh, x, c, hx => by
  simp only [noOpqU, Bool.and_eq_true] at hn
  simp only [updF] at hx
  refine noOpqU_at hn.2 (fun z e hz => ?_) x c hx
  by_cases hzy : z = y
  · simp only [hzy, if_true] at hz; cases hz; exact hn.1
  · simp only [hzy, if_false] at hz; exact hh z e hz
 | (y, none) :: u, hn, h, hh, x, c, hx => by
  simp only [noOpqU] at hn
  simp only [updF] at hx
  refine noOpqU_at hn (fun z e hz => ?_) x c hx
  by_cases hzy : z = y
  · simp only [hzy, if_true] at hz; cases hz
  · simp only [hzy, if_false] at hz; exact hh z e hz
theorem keepOk_at {s : St} : ∀ {l : List Nat}, keepOk s l = true → ∀ t ∈ l, s.tmp t = .opq t
 | [], _, t, ht => by cases ht
 | x :: l, h, t, ht => by
  simp only [keepOk, Bool.and_eq_true] at h
  rcases List.mem_cons.1 ht with rfl | ht
  · have h1 := h.1
    split at h1
    · rename_i n hn
      rw [hn, Nat.eq_of_beq_eq_true h1]
    · cases h1
  · exact keepOk_at h.2 t ht
theorem finishL_inv {e : LEnt} {ex : Ex} {s : St} {k : IntKind} {c : Int} {outs : List SV} {ups : List (Nat × Option Chunk)} (h : crun (finishL e ex s) = some (.tup (.int k c :: outs), ups)) :
  (∀ t ∈ e.keep, s.tmp t = .opq t) ∧ noOpqL (e.outs.map s.tmp) = true ∧ noOpqU ups = true ∧ c = codeEx ex ∧ ∃ ns, reachNew s.hp s.m 2000 (namesS (.tup (.int .i64 (codeEx ex) :: e.outs.map s.tmp)) ++ dirtyNames s.hp s.dirty) [] = some ns ∧
   outs = renL (outName ns s.m) (e.outs.map s.tmp) ∧ ups = outOld s.hp (outName ns s.m) s.dirty ++ outNew s.hp (outName ns s.m) ns := by
 unfold finishL at h
 cases hb : keepOk s e.keep && noOpqL (e.outs.map s.tmp) with
 | false => rw [hb] at h; simp [crun] at h
 | true =>
  rw [hb] at h
  simp only [cond_true] at h
  simp only [Bool.and_eq_true] at hb
  unfold finishV at h
  cases hre : reachNew s.hp s.m 2000 (namesS (.tup (.int .i64 (codeEx ex) :: e.outs.map s.tmp)) ++ dirtyNames s.hp s.dirty) [] with
  | none => rw [hre] at h; simp [crun] at h
  | some ns =>
   rw [hre] at h
   simp only [] at h
   cases hu : noOpqU (outOld s.hp (outName ns s.m) s.dirty ++ outNew s.hp (outName ns s.m) ns) with
   | false => rw [hu] at h; simp [crun] at h
   | true =>
    rw [hu] at h
    simp only [cond_true, crun, renS, renL, Option.some.injEq, Prod.mk.injEq, SV.tup.injEq, List.cons.injEq, SV.int.injEq] at h
    obtain ⟨⟨⟨_, rfl⟩, rfl⟩, rfl⟩ := h
    exact ⟨keepOk_at hb.1, hb.2, hu, rfl, ns, rfl, rfl, rfl⟩
def boundT (μ : List SV → HpL → Nat) (s : CSumm) (n : Nat) : CSumm := fun args H => .ite (Nat.blt (μ args H) n) (s args H) .fail
end Go.Am
/- The abstract machine: a body with loops that are known. -/
namespace Go.Am
variable {P : Program} {ω : Nat → Value}
theorem bodyL_valid {κ : Nat → Option CSumm} (hκ : KOk P κ) (hmix : P.follows .mixedOrders = true) {T : LTab} (hT : LOk P T) {f : FuncId} {fn : Func} (hf : P.funcs[f]? = some fn) {c : Code} (hb : fn.body = some (fillC T c)) {ι : Nat → Bool} {sp : Bool} {fuel : Nat} : ValidC P f (bodyCL P κ ι T sp fuel fn c) := by
 intro args H v ups hrun _ ω θ Im w us hargs hH hfr
 unfold bodyCL at hrun
 cases hc : canonB H 0 && closedB H.length H && Nat.ble args.length fn.ntmps && Nat.blt fn.ntmps 16000 && Nat.blt H.length 1000000 with
 | false => rw [hc] at hrun; simp [crun] at hrun
 | true =>
  rw [hc] at hrun
  simp only [cond_true] at hrun
  simp only [Bool.and_eq_true] at hc
  obtain ⟨⟨⟨⟨c1, c2⟩, c3⟩, c4⟩, c5⟩ := hc
  have hal : args.length ≤ fn.ntmps := by rwa [Nat.ble_eq] at c3
  have hnt : fn.ntmps < 16000 := by rwa [Nat.blt_eq] at c4
  have hHl : H.length < 1000000 := by rwa [Nat.blt_eq] at c5
  have hhp : (initSt sp fn args H).hp.get = H.get := heapTr_init c1 (by omega)
  have hs0 : StOk { initSt sp fn args H with tm := .lf, size := 0 } := by
   refine ⟨by show 0 < 16000; omega, hHl, fun t _ => rfl, ?_, Nat.le_refl _⟩
   intro x c hx
   have hx' : (initSt sp fn args H).hp.get x = some c := hx
   rw [hhp] at hx'
   exact canon_lt c1 hx'
  have hst : StOk (initSt sp fn args H) := enter_ok hs0 hal hnt
  obtain ⟨e, s2, hs2, hcomes, hfin⟩ := execL_ok (den := crun) rfl hκ hmix hT fuel c _ _ _ hst hrun
  have hm2 : s2.m = H.length := hcomes.later.m
  have he : ∀ id, e ≠ .exit id := by
   rintro id rfl
   simp [crun] at hfin
  have hfin' : crun (finishC P fn s2) = some (v, ups) := by
   cases e with
   | exit id => exact absurd rfl (he id)
   | normal => exact hfin
   | ret => exact hfin
  unfold finishC at hfin'
  cases hrs : resultsS P s2 fn.results.toList with
  | none => rw [hrs] at hfin'; simp [crun] at hfin'
  | some vs =>
   rw [hrs] at hfin'
   simp only [] at hfin'
   cases hre : reachNew s2.hp s2.m 2000 (namesS (oneOrTup vs) ++ dirtyNames s2.hp s2.dirty) [] with
   | none => rw [hre] at hfin'; simp [crun] at hfin'
   | some ns =>
     rw [hre] at hfin'
     simp only [crun, Option.some.injEq, Prod.mk.injEq] at hfin'
     rw [hm2] at hfin'
     obtain ⟨rfl, rfl⟩ := hfin'
     have hfr0 : Fr (initSt sp fn args H).nx θ (initSt sp fn args H).hp.get := by
      intro x hx
      have hx' : H.length ≤ x := hx
      refine ⟨hfr x hx', ?_⟩
      rw [hhp]
      cases hg : H.get x with
      | none => rfl
      | some c => have := canon_lt c1 hg; omega
     have sim0 := enter_sim (P := P) hs0 (args := args) (us := us) hal hnt (w := w) (Im := Im) (θ := θ) (by show HRel P ω w Im θ (initSt sp fn args H).hp.get; rw [hhp]; exact hH) hfr0 hargs
     refine (callsIn_wide (n := 0)).1 (body_calls (ρ := none) hf hb he hcomes sim0 hrs (fun u w' Im' θ' hH2 _ hE hvu => ?_))
     have hsame : ∀ x, x < H.length → s2.hp.get x = H.get x ∨ x ∈ s2.dirty := by
      intro x hx
      have := hcomes.later.same x hx
      rwa [hhp] at this
     have hdl : ∀ x ∈ s2.dirty, x < H.length := by
      intro x hx
      rcases hcomes.later.low x hx with h | h
      · cases h
      · exact h
     have hext : Ext (fun x => H.length ≤ x) H.get w Im θ s2.hp.get w' Im' θ' := by
      rw [← hhp]; exact hE
     obtain ⟨θ3, g1, g2, g3, -⟩ := finish_gen c1 c2 hfr hm2 hsame hdl hre hH2 hext hvu
     exact ⟨u, θ3, Im', rfl, g1, g2, g3⟩
def ltab : List (String × LEnt) → LTab
 | [], _ => none
 | (w, e) :: l, x => if w = x then some e else ltab l x
theorem ltab_nil : LOk P (ltab []) := fun w e h => by cases h
theorem ltab_cons {w : String} {e : LEnt} {l : List (String × LEnt)} (h : ValidL P e) (hl : LOk P (ltab l)) : LOk P (ltab ((w, e) :: l)) := by
 intro x e' hx
 simp only [ltab] at hx
 split at hx
 · cases hx; exact h
 · exact hl x e' hx
end Go.Am
/- The abstract machine: a copy of a list is the list. -/
namespace Go.Am
variable {P : Program} {ω : Nat → Value}
def bndE (b : Nat) (es : List SV) : Bool := decide (es.length ≤ 9223372036854775807) && decide (es.length * b ≤ 140737488355328)
def cloneS (e b : Nat) : CSumm
 | [.psl e' es], [] => .ite (Nat.beq e e' && bndE b es) (.ret (.psl e es) []) .fail
 | _, _ => .fail
theorem known_clone (hn : noNum P) (hmix : P.follows .mixedOrders = true) {f : FuncId} {fn : Func} (hf : P.funcs[f]? = some fn) (hb : fn.body.isNone = false) {e b sz : Nat} {body : CSumm} (hv : ValidC P f body)
  (h1 : crun (body [.nils] []) = some (.nils, [])) (h2 : ∀ es, bndE b es = true → crun (body [.pnn e es] []) = some (.qs 0 sz 0 (0 + es.length), [(0, some (.seq e ([] ++ es)))])) : Known P f (cloneS e b) := by
 refine ⟨⟨fn, hf, noNum_at hn hf, hb⟩, ?_⟩
 intro args H v ups hrun hcanon ω θ Im w us hl hH hfr
 unfold cloneS at hrun
 split at hrun
 case h_2 => simp [crun] at hrun
 rename_i e' es
 cases hc : Nat.beq e e' && bndE b es with
 | false => rw [hc] at hrun; simp [crun] at hrun
 | true =>
  rw [hc] at hrun
  simp only [if_true, crun, Option.some.injEq, Prod.mk.injEq] at hrun
  obtain ⟨rfl, rfl⟩ := hrun
  simp only [Bool.and_eq_true] at hc
  have : e = e' := Nat.eq_of_beq_eq_true hc.1
  subst this
  match us, hl with
  | [u], hl =>
   have hu := hl.at_ 0 _ u rfl rfl
   have one : ∀ {v : SV}, VRel P ω w Im θ v u → LRel P ω w Im θ [v] [u] := fun hv => ⟨rfl, fun i x y hx hy => by
    cases i with
    | zero => simp at hx hy; subst hx; subst hy; exact hv
    | succ i => simp at hx⟩
   have hu2 := hu
   cases hu with
   | psl uf g1 g0 g2 g3 g4 =>
    rename_i p n cap
    cases p with
    | none =>
     have hc0 : cap = 0 := g0.2 rfl
     subst hc0
     have hn0 : n = 0 := by omega
     subst hn0
     have he : es = [] := List.eq_nil_of_length_eq_zero g1
     subst he
     refine (hv [.nils] [] _ _ h1 hcanon ω θ Im w _ (one .nils) hH hfr).mono ?_
     rintro o w' ⟨z, θ', Im', rfl, hE, hz, hH'⟩
     refine ⟨z, θ', Im', rfl, hE, ?_, hH'⟩
     cases hz
     exact .psl (fun _ => undef) rfl ⟨Nat.le_refl _, by simp⟩ (fun v hv => by cases hv) (fun i v hv => by simp at hv) (fun hn => absurd rfl hn)
    | some a =>
     refine (hv [.pnn e es] [] _ _ (h2 es hc.2) hcanon ω θ Im w _ (one (.pnn hu2)) hH hfr).mono ?_
     rintro o w' ⟨z, θ', Im', rfl, hE, hz, hH'⟩
     have hget : updF [(0, some (.seq e ([] ++ es)))] (HpL.get []) 0 = some (.seq e es) := by simp [updF]
     have hp := seq_psl hH' hget (by simp) hz
     obtain ⟨hE2, hH2⟩ := drop_step hH' (new := fun x => ([] : HpL).length ≤ x) [0]
     have hfun : updF (drops [0]) (updF [(0, some (.seq e ([] ++ es)))] (HpL.get [])) = updF [] (HpL.get []) := by
      funext x
      by_cases hx : x = 0
      · subst hx; simp [updF, drops, HpL.get]
      · simp [updF, drops, HpL.get, hx]
     rw [hfun] at hE2 hH2
     exact ⟨z, θ', _, rfl, hE.trans hE2, hp, hH2⟩
end Go.Am
/- The abstract machine: closed runs in parts: what single calls came to, by their arguments. -/
namespace Go.Am
variable {P : Program}
def eqB : List UInt8 → List UInt8 → Bool
 | [], [] => true
 | a :: l, b :: m => Nat.beq a.toNat b.toNat && eqB l m
 | _, _ => false
theorem eqB_eq : ∀ {l m : List UInt8}, eqB l m = true → l = m
 | [], [], _ => rfl
 | [], _ :: _, h => by cases h
 | _ :: _, [], h => by cases h
 | a :: l, b :: m, h => by
  simp only [eqB, Bool.and_eq_true] at h
  rw [eqB_eq h.2, UInt8.toNat_inj.1 (Nat.eq_of_beq_eq_true h.1)]
mutual
def eqSV : SV → SV → Bool
 | .junk, .junk => true
 | .bool a, .bool b => a == b
 | .int k a, .int k' b => ikEq k k' && (a == b)
 | .str a, .str b => eqB a b
 | .ptr a b, .ptr c d => Nat.beq a c && Nat.beq b d
 | .nilp, .nilp => true
 | .sl a b c d, .sl a' b' c' d' => Nat.beq a a' && Nat.beq b b' && Nat.beq c c' && Nat.beq d d'
 | .nils, .nils => true
 | .psl e es, .psl e' es' => Nat.beq e e' && eqLS es es'
 | .pnn e es, .pnn e' es' => Nat.beq e e' && eqLS es es'
 | .emp, .emp => true
 | .qs a b c d, .qs a' b' c' d' => Nat.beq a a' && Nat.beq b b' && Nat.beq c c' && Nat.beq d d'
 | .qp a b c d, .qp a' b' c' d' => Nat.beq a a' && Nat.beq b b' && Nat.beq c c' && Nat.beq d d'
 | .qo a b c, .qo a' b' c' => Nat.beq a a' && Nat.beq b b' && Nat.beq c c'
 | .qop a b c d, .qop a' b' c' d' => Nat.beq a a' && Nat.beq b b' && Nat.beq c c' && Nat.beq d d'
 | .mp a, .mp b => Nat.beq a b
 | .nilm, .nilm => true
 | .fn (.func f) a b, .fn (.func g) c d => Nat.beq f g && eqLS a c && eqLS b d
 | .nilf, .nilf => true
 | .iface t v, .iface t' v' => Nat.beq t t' && eqSV v v'
 | .nili, .nili => true
 | .agg a, .agg b => eqLS a b
 | .tup a, .tup b => eqLS a b
 | _, _ => false
def eqLS : List SV → List SV → Bool
 | [], [] => true
 | a :: l, b :: m => eqSV a b && eqLS l m
 | _, _ => false
end
mutual
theorem eqSV_eq : ∀ {a b : SV}, eqSV a b = true → a = b
 | .junk, b, h => by cases b <;> first | rfl | cases h
 | .opq _, b, h => by cases b <;> cases h
 | .bool x, b, h => by cases b <;> simp [eqSV] at h; rw [h]
 | .int k x, b, h => by cases b <;> simp [eqSV] at h; rw [ikEq_eq h.1, h.2]
 | .str x, b, h => by cases b <;> simp [eqSV] at h; rw [eqB_eq h]
 | .ptr _ _, b, h => by cases b <;> simp [eqSV] at h; rw [h.1, h.2]
 | .nilp, b, h => by cases b <;> first | rfl | cases h
 | .pel _ _, b, h => by cases b <;> cases h
 | .gp _ _, b, h => by cases b <;> cases h
 | .sl _ _ _ _, b, h => by cases b <;> simp [eqSV] at h; obtain ⟨⟨⟨rfl, rfl⟩, rfl⟩, rfl⟩ := h; rfl
 | .nils, b, h => by cases b <;> first | rfl | cases h
 | .psl _ es, b, h => by cases b <;> simp [eqSV] at h; rw [h.1, eqLS_eq h.2]
 | .pnn _ es, b, h => by cases b <;> simp [eqSV] at h; rw [h.1, eqLS_eq h.2]
 | .emp, b, h => by cases b <;> first | rfl | cases h
 | .qs _ _ _ _, b, h => by cases b <;> simp [eqSV] at h; obtain ⟨⟨⟨rfl, rfl⟩, rfl⟩, rfl⟩ := h; rfl
 | .qp _ _ _ _, b, h => by cases b <;> simp [eqSV] at h; obtain ⟨⟨⟨rfl, rfl⟩, rfl⟩, rfl⟩ := h; rfl
 | .qo _ _ _, b, h => by cases b <;> simp [eqSV] at h; obtain ⟨⟨rfl, rfl⟩, rfl⟩ := h; rfl
 | .qop _ _ _ _, b, h => by cases b <;> simp [eqSV] at h; obtain ⟨⟨⟨rfl, rfl⟩, rfl⟩, rfl⟩ := h; rfl
 | .mp _, b, h => by cases b <;> simp [eqSV] at h; rw [h]
 | .nilm, b, h => by cases b <;> first | rfl | cases h
 | .yl _, b, h => by cases b <;> cases h
 | .fn f x y, b, h => by
  cases b
  case fn g u v =>
   cases f <;> cases g <;> simp [eqSV] at h
   obtain ⟨⟨rfl, h1⟩, h2⟩ := h
   rw [eqLS_eq h1, eqLS_eq h2]
  all_goals (cases f <;> cases h)
 | .nilf, b, h => by cases b <;> first | rfl | cases h
 | .iface _ v, b, h => by cases b <;> simp [eqSV] at h; rw [h.1, eqSV_eq h.2]
 | .nili, b, h => by cases b <;> first | rfl | cases h
 | .agg a, b, h => by cases b <;> simp [eqSV] at h; rw [eqLS_eq h]
 | .tup a, b, h => by cases b <;> simp [eqSV] at h; rw [eqLS_eq h]
theorem eqLS_eq : ∀ {a b : List SV}, eqLS a b = true → a = b
 | [], [], _ => rfl
 | [], _ :: _, h => by cases h
 | _ :: _, [], h => by cases h
 | a :: l, b :: m, h => by
  simp only [eqLS, Bool.and_eq_true] at h
  rw [eqSV_eq h.1, eqLS_eq h.2]
end
structure MEnt where
 args : List SV
 H : HpL
 v : SV
 ups : List (Nat × Option Chunk)
def closedT (P : Program) (T : Nat → Option CSumm) (fuel : Nat) : Nat → Nat → Option CSumm
 | 0, f => T f
 | n + 1, f =>
  match T f with
  | some s => some s
  | none => match P.funcs[f]? with
   | some fn => bif fn.body.isNone then none else some (bodyC P (closedT P T fuel n) (fun g => inl T g && hasBody P g) false fuel fn)
   | none => none
def openT (P : Program) (T : Nat → Option CSumm) (fuel : Nat) : Nat → Nat → Option CSumm
 | 0, f => T f
 | n + 1, f =>
  match T f with
  | some s => some s
  | none => match P.funcs[f]? with
   | some fn => bif fn.body.isNone then none else some (bodyC P (openT P T fuel n) (fun g => inl T g && hasBody P g) true fuel fn)
   | none => none
theorem openT_ok (hn : noNum P) (hmix : P.follows .mixedOrders = true) {T : Nat → Option CSumm} (hT : KOk P T) (fuel : Nat) : ∀ n, KOk P (openT P T fuel n) := by
 intro n
 induction n with
 | zero => exact hT
 | succ n ih =>
  have key : ∀ f s, openT P T fuel (n + 1) f = some s → T f = some s ∨ ∃ fn, P.funcs[f]? = some fn ∧ fn.body.isNone = false ∧ s = bodyC P (openT P T fuel n) (fun g => inl T g && hasBody P g) true fuel fn := by
   intro f s h
   simp only [openT] at h
   cases hT : T f with
   | some s' => rw [hT] at h; exact .inl h
   | none =>
    simp only [hT] at h
    cases hf : P.funcs[f]? with
    | none => simp [hf] at h
    | some fn =>
     simp only [hf] at h
     cases hb : fn.body.isNone with
     | true => simp [hb] at h
     | false =>
      simp only [hb, cond_false, Option.some.injEq] at h
      exact .inr ⟨fn, rfl, hb, h.symm⟩
  constructor
  · intro f s h
    rcases key f s h with h | ⟨fn, hf, hb, rfl⟩
    · exact hT.fn f s h
    · exact ⟨fn, hf, noNum_at hn hf, hb⟩
  · intro f s h
    rcases key f s h with h | ⟨fn, hf, hb, rfl⟩
    · exact hT.ok f s h
    · exact body_valid ih hmix hf
end Go.Am
/- The abstract machine: weaker summaries; nil slices where a summary asks for lists known by content. -/
namespace Go.Am
variable {P : Program}
theorem Known.weak {f : FuncId} {s s' : CSumm} (h : Known P f s) (hs : ∀ args H v ups, crun (s' args H) = some (v, ups) → crun (s args H) = some (v, ups)) : Known P f s' :=
 ⟨h.fn, fun args H v ups hr => h.ok args H v ups (hs args H v ups hr)⟩
def coCells : List (Option TypeId) → List SV → List SV
 | some e :: ts, .nils :: cs => .psl e [] :: coCells ts cs
 | _ :: ts, c :: cs => c :: coCells ts cs
 | [], cs => cs
 | _, [] => []
def coArg : List (Option TypeId) → SV → SV
 | m, .agg cs => .agg (coCells m cs)
 | [some e], .nils => .psl e []
 | _, v => v
def coArgs : List (List (Option TypeId)) → List SV → List SV
 | m :: ms, v :: vs => coArg m v :: coArgs ms vs
 | _, vs => vs
def coS (ms : List (List (Option TypeId))) (s : CSumm) : CSumm := fun args H => s (coArgs ms args) H
theorem nils_psl {ω : Nat → Value} {w : World} {Im : Nat → Prop} {θ : Th} {u : Value} {e : TypeId} (h : VRel P ω w Im θ .nils u) : VRel P ω w Im θ (.psl e []) u := by
 cases h
 exact .psl (es := []) (fun _ => undef) rfl ⟨Nat.le_refl _, fun _ => rfl⟩ (fun v hv => by cases hv) (fun i v h => by simp at h) (fun hn => absurd rfl hn)
theorem coCells_rel {ω : Nat → Value} {w : World} {Im : Nat → Prop} {θ : Th} : ∀ (ts : List (Option TypeId)) (cs : List SV) (us : List Value), LRel P ω w Im θ cs us → LRel P ω w Im θ (coCells ts cs) us
 | [], cs, us, h => by cases cs <;> exact h
 | t :: ts, [], us, h => by cases t <;> exact h
 | t :: ts, c :: cs, [], h => by have := h.len; simp at this
 | t :: ts, c :: cs, u :: us, h => by
  have h0 := h.at_ 0 c u rfl rfl
  have ht : LRel P ω w Im θ cs us := ⟨by simpa using h.len, fun i v u hv hu => h.at_ (i + 1) v u (by simpa using hv) (by simpa using hu)⟩
  have ih := coCells_rel ts cs us ht
  have mk : ∀ c', VRel P ω w Im θ c' u → LRel P ω w Im θ (c' :: coCells ts cs) (u :: us) := fun c' hc => ⟨by simp [ih.len], fun i v u' hv hu => by
   cases i with
   | zero => simp at hv hu; subst hv; subst hu; exact hc
   | succ i => exact ih.at_ i v u' (by simpa using hv) (by simpa using hu)⟩
  cases t with
  | none => exact mk c h0
  | some e =>
   by_cases hc : c = .nils
   · subst hc; exact mk _ (nils_psl h0)
   · have : coCells (some e :: ts) (c :: cs) = c :: coCells ts cs := by
       cases c <;> first | rfl | exact absurd rfl hc
     rw [this]; exact mk c h0
theorem coArg_rel {ω : Nat → Value} {w : World} {Im : Nat → Prop} {θ : Th} {v : SV} {u : Value} (m : List (Option TypeId)) (h : VRel P ω w Im θ v u) : VRel P ω w Im θ (coArg m v) u := by
 unfold coArg
 split
 · cases h with
   | agg h1 h2 =>
    rename_i cs us
    have hl : LRel P ω w Im θ cs us.toList := ⟨by simpa using h1, fun i v u hv hu => h2 i v u hv (by simpa using hu)⟩
    have hc := coCells_rel m cs us.toList hl
    exact .agg (by simpa using hc.len) (fun i v u hv hu => hc.at_ i v u hv (by simpa using hu))
 · exact nils_psl h
 · exact h
theorem coArgs_rel {ω : Nat → Value} {w : World} {Im : Nat → Prop} {θ : Th} : ∀ (ms : List (List (Option TypeId))) (vs : List SV) (us : List Value), LRel P ω w Im θ vs us → LRel P ω w Im θ (coArgs ms vs) us
 | [], vs, us, h => by cases vs <;> exact h
 | m :: ms, [], us, h => h
 | m :: ms, v :: vs, [], h => by have := h.len; simp at this
 | m :: ms, v :: vs, u :: us, h => by
  have h0 := h.at_ 0 v u rfl rfl
  have ih := coArgs_rel ms vs us ⟨by simpa using h.len, fun i v u hv hu => h.at_ (i + 1) v u (by simpa using hv) (by simpa using hu)⟩
  refine ⟨by simp [coArgs, ih.len], fun i v' u' hv hu => ?_⟩
  cases i with
  | zero => simp [coArgs] at hv hu; subst hv; subst hu; exact coArg_rel m h0
  | succ i => exact ih.at_ i v' u' (by simpa [coArgs] using hv) (by simpa using hu)
theorem Known.co {f : FuncId} {s : CSumm} (h : Known P f s) (ms : List (List (Option TypeId))) : Known P f (coS ms s) :=
 ⟨h.fn, fun args H v ups hr hc ω θ Im w us hl hH hfr => h.ok (coArgs ms args) H v ups hr hc ω θ Im w us (coArgs_rel ms args us hl) hH hfr⟩
theorem known_grown {f : FuncId} {s s' : CSumm} (h : Known P f s) (hs : ∀ args H v ups, crun (s' args H) = some (v, ups) → crun (s args H) = some (v, ups) ∨
  ∃ a sz e, H = [] ∧ v = .tup [a, .qs 0 sz 0 0] ∧ ups = [(0, some (.seq e []))] ∧ namesS a = [] ∧ renS id a = a ∧ crun (s args H) = some (.tup [a, .nils], [])) : Known P f s' := by
 refine ⟨h.fn, ?_⟩
 intro args H v ups hr hc ω θ Im w us hl hH hfr
 rcases hs args H v ups hr with hr' | ⟨a, sz, e, rfl, rfl, rfl, hna, hra, hr'⟩
 · exact h.ok args H v ups hr' hc ω θ Im w us hl hH hfr
 · refine (h.ok args [] _ _ hr' hc ω θ Im w us hl hH hfr).mono ?_
   rintro o w' ⟨u, θ', Im', rfl, hE, hv, hH'⟩
   have hno : ∀ x, θ x = none := fun x => hfr x (Nat.zero_le x)
   have hget : ∀ x c, HpL.get [] x ≠ some c := fun x c h => by simp [HpL.get] at h
   have hup : ∀ x c, updF [(0, some (.seq e []))] (HpL.get []) x = some c → x = 0 ∧ c = .seq e [] := by
    intro x c hx
    simp only [updF] at hx
    split at hx
    · rename_i h0; cases hx; exact ⟨h0, rfl⟩
    · exact absurd hx (hget x c)
   refine ⟨u, θ, Im', rfl, ?_, ?_, ?_⟩
   · exact { thOld := fun _ _ => rfl, thUp := fun _ _ h => h, imUp := hE.imUp, size := hE.size, keep := hE.keep, os := hE.os, output := hE.output, tape := hE.tape
             imNew := fun b hb => hE.imNew b hb, ownNew := fun x c b N _ hx => by rw [hno x] at hx; cases hx }
   · cases hv with
     | tup h1 h2 =>
      rename_i vs
      refine .tup (by simpa using h1) (fun i v u hvi hui => ?_)
      match i, hvi with
      | 0, hvi =>
       simp at hvi; subst hvi
       have := VRel.ren (h2 0 a u (by simp) hui) (θ2 := θ) id (fun x hx => by rw [hna] at hx; cases hx)
       rwa [hra] at this
      | 1, hvi =>
       simp at hvi; subst hvi
       have := h2 1 .nils u (by simp) hui
       cases this
       exact .qsnil rfl
   · refine ⟨fun x c hx => ?_, fun x y c c' b N N' _ _ hx => (by rw [hno x] at hx; cases hx), fun x c b N _ hx => (by rw [hno x] at hx; cases hx), hH'.im, hH'.gl⟩
     obtain ⟨rfl, rfl⟩ := hup x c hx
     exact .inl ⟨rfl, hno _⟩
end Go.Am
/- The abstract machine: summaries that name a block anew, or that are told of nil lists as lists that have grown to nothing. -/
namespace Go.Am
variable {P : Program}
def sw (k nw x : Nat) : Nat := bif Nat.beq x k then nw else x
theorem sw_k {k nw : Nat} : sw k nw k = nw := by simp [sw]
theorem sw_o {k nw x : Nat} (h : x ≠ k) : sw k nw x = x := by simp [sw, nb_f h]
theorem ren_post {ω : Nat → Value} {H : HpL} {w w' : World} {Im Im' : Nat → Prop} {θ θ' : Th} {ups ups' : List (Nat × Option Chunk)} {k nw : Nat} (hfr : ∀ x, H.length ≤ x → θ x = none) (hnw : H.length ≤ nw)
  (hc0 : ∀ x c, updF ups H.get x = some c → nw ∉ namesC c)
  (hu : ∀ x, updF ups' H.get x = if x = nw then (updF ups H.get k).map (renC (sw k nw)) else if x = k then none else (updF ups H.get x).map (renC (sw k nw)))
  (hE : Ext (fun x => H.length ≤ x) H.get w Im θ (updF ups H.get) w' Im' θ') (hH' : HRel P ω w' Im' θ' (updF ups H.get)) :
  ∃ θ2 : Th, Ext (fun x => H.length ≤ x) H.get w Im θ (updF ups' H.get) w' Im' θ2 ∧ HRel P ω w' Im' θ2 (updF ups' H.get) ∧ (∀ v u, VRel P ω w' Im' θ' v u → nw ∉ namesS v → VRel P ω w' Im' θ2 (renS (sw k nw) v) u) ∧
   (∀ y c', updF ups' H.get y = some c' → ∃ x c, updF ups H.get x = some c ∧ θ2 y = θ' x) := by
 let θ2 : Th := fun x => if x = nw then θ' k else θ' x
 have t2 : ∀ x, x ≠ nw → θ2 x = θ' x := fun x hx => if_neg hx
 have tn : θ2 nw = θ' k := if_pos rfl
 have hsw : ∀ x, x ≠ nw → ∀ p, θ' x = some p → θ2 (sw k nw x) = some p := by
  intro x hx p hp
  by_cases hxk : x = k
  · subst hxk; rw [sw_k, tn]; exact hp
  · rw [sw_o hxk, t2 x hx]; exact hp
 have src : ∀ y c', updF ups' H.get y = some c' → ∃ x c, updF ups H.get x = some c ∧ c' = renC (sw k nw) c ∧ θ2 y = θ' x ∧ (y = nw ∧ x = k ∨ y ≠ nw ∧ y ≠ k ∧ x = y) := by
  intro y c' hy
  rw [hu y] at hy
  by_cases h1 : y = nw
  · subst h1
    rw [if_pos rfl, Option.map_eq_some_iff] at hy
    obtain ⟨c, h1, h2⟩ := hy
    exact ⟨k, c, h1, h2.symm, tn, .inl ⟨rfl, rfl⟩⟩
  · rw [if_neg h1] at hy
    by_cases h2 : y = k
    · rw [if_pos h2] at hy; cases hy
    · rw [if_neg h2, Option.map_eq_some_iff] at hy
      obtain ⟨c, h3, h4⟩ := hy
      exact ⟨y, c, h3, h4.symm, t2 y h1, .inr ⟨h1, h2, rfl⟩⟩
 refine ⟨θ2, ?_, ?_, ?_, ?_⟩
 · refine { thOld := fun x hx => ?_, thUp := fun x p hp => ?_, imUp := hE.imUp, size := hE.size, keep := hE.keep, os := hE.os, output := hE.output, tape := hE.tape, imNew := hE.imNew, ownNew := fun y c' b N hy hx => ?_ }
   · have : x ≠ nw := by intro e; subst e; exact hx hnw
     rw [t2 x this]; exact hE.thOld x hx
   · have : x ≠ nw := by intro e; subst e; rw [hfr x hnw] at hp; cases hp
     rw [t2 x this]; exact hE.thUp x p hp
   · obtain ⟨x, c, h1, _, h3, _⟩ := src y c' hy
     exact hE.ownNew x c b N h1 (h3 ▸ hx)
 · refine ⟨fun y c' hy => ?_, fun y y' c c' b N N' hy hy' hx hx' => ?_, fun y c b N hy hx => ?_, hH'.im, hH'.gl⟩
   · obtain ⟨x, c, h1, rfl, h3, _⟩ := src y c' hy
     exact (hH'.at_ x c h1).ren (sw k nw) (fun z hz => hsw z (fun e => hc0 x c h1 (e ▸ hz))) h3
   · obtain ⟨x, c1, h1, _, h3, h4⟩ := src y c hy
     obtain ⟨x', c1', h1', _, h3', h4'⟩ := src y' c' hy'
     have := hH'.inj x x' c1 c1' b N N' h1 h1' (h3 ▸ hx) (h3' ▸ hx')
     omega
   · obtain ⟨x, c, h1, _, h3, _⟩ := src y _ hy
     exact hH'.own x c b N h1 (h3 ▸ hx)
 · exact fun v u hv hv0 => hv.ren (sw k nw) (fun x hx => hsw x (fun e => hv0 (e ▸ hx)))
 · intro y c' hy
   obtain ⟨x, c, h1, _, h3, _⟩ := src y c' hy
   exact ⟨x, c, h1, h3⟩
def Renamed (H : HpL) (v : SV) (ups : List (Nat × Option Chunk)) (v' : SV) (ups' : List (Nat × Option Chunk)) : Prop :=
 ∃ k nw, H.length ≤ nw ∧ nw ∉ namesS v ∧ (∀ x c, updF ups H.get x = some c → nw ∉ namesC c) ∧ v' = renS (sw k nw) v ∧
   (∀ x, updF ups' H.get x = if x = nw then (updF ups H.get k).map (renC (sw k nw)) else if x = k then none else (updF ups H.get x).map (renC (sw k nw)))
theorem loop_ren {e : LEnt} {s' : CSumm} (h : ValidL P e) (hs : ∀ args H v' ups', crun (s' args H) = some (v', ups') → (∃ ups, crun (e.s args H) = some (v', ups) ∧ ∀ x, updF ups' H.get x = updF ups H.get x) ∨
  ∃ v ups, crun (e.s args H) = some (v, ups) ∧ Renamed H v ups v' ups') : ValidL P { e with s := s' } := by
 intro args H kk c outs' ups' hr hc ho ha
 rcases hs args H _ ups' hr with ⟨ups, hr', he⟩ | ⟨v, ups, hr', k, nw, hnw, hv0, hc0, hvr, hu⟩
 · have he' : updF ups' H.get = updF ups H.get := funext he
   obtain ⟨m, hm⟩ := h args H kk c outs' ups hr' hc ho ha
   exact ⟨m, fun ω θ Im w a Q hsz hl hH hfr hmk hQ => hm ω θ Im w a Q hsz hl hH hfr hmk (by rw [← he']; exact hQ)⟩
 · obtain ⟨outs, rfl, rfl⟩ : ∃ outs, v = .tup (.int kk c :: outs) ∧ outs' = renL (sw k nw) outs := by
     cases v with
     | tup vs =>
      cases vs with
      | nil => simp [renS, renL] at hvr
      | cons x xs =>
       cases x <;> simp [renS, renL] at hvr
       obtain ⟨⟨rfl, rfl⟩, rfl⟩ := hvr
       exact ⟨xs, rfl, rfl⟩
     | _ => simp [renS] at hvr
   obtain ⟨m, hm⟩ := h args H kk c outs ups hr' hc (by rw [renL_eq] at ho; simpa using ho) ha
   refine ⟨m, fun ω θ Im w a Q hsz hl hH hfr hmk hQ => hm ω θ Im w a Q hsz hl hH hfr hmk ?_⟩
   intro a' w' Im' θ' b1 b2 b3 b4 b5 b6 b7
   obtain ⟨θ2, h1, h2, h3, h4⟩ := ren_post hfr hnw hc0 hu b2 b4
   refine hQ a' w' Im' θ2 b1 h1 ⟨by rw [renL_eq]; simpa using b3.len, fun i v u hv hu' => ?_⟩ h2 b5 ?_ b7
   · rw [renL_eq, List.getElem?_map, Option.map_eq_some_iff] at hv
     obtain ⟨x, hx, rfl⟩ := hv
     refine h3 x u (b3.at_ i x u hx hu') (fun hn => hv0 ?_)
     show nw ∈ namesL (.int kk c :: outs)
     exact List.mem_append.2 (.inr (namesS_mem (List.mem_of_getElem? hx) nw hn))
   · obtain ⟨rs, base, r1, rb, r2, r3⟩ := b6
     refine ⟨rs, base, r1, rb, r2, fun r hrr => ⟨(r3 r hrr).1, (r3 r hrr).2.1, fun y c' N hy ht => ?_⟩⟩
     obtain ⟨x, c, hx, hx2⟩ := h4 y c' hy
     exact (r3 r hrr).2.2 x c N hx (hx2 ▸ ht)
/- What is handed in. -/
def putH : HpL → Nat → Chunk → HpL
 | [], x, c => [(x, c)]
 | p :: H, x, c => bif Nat.beq p.1 x then (x, c) :: H else p :: putH H x c
theorem get_put {x y : Nat} {c : Chunk} : ∀ (H : HpL), HpL.get (putH H y c) x = if x = y then some c else H.get x
 | [] => by
  simp only [putH, HpL.get]
  by_cases h : x = y
  · subst h; simp
  · rw [nb_f (fun e => h e.symm), if_neg h]; rfl
 | (z, d) :: H => by
  simp only [putH]
  by_cases hz : z = y
  · subst hz
    rw [nb_t rfl, cond_true]
    simp only [HpL.get]
    by_cases h : z = x
    · subst h; simp
    · rw [nb_f h, if_neg (fun e => h e.symm)]; rfl
  · rw [nb_f hz, cond_false]
    simp only [HpL.get]
    rw [get_put H]
    by_cases h : z = x
    · subst h; simp only [nb_t rfl, if_neg hz, cond_true]
    · rw [nb_f h]; rfl
structure InOk (P : Program) (args : List SV) (H : HpL) (args2 : List SV) (H2 : HpL) : Prop where
 canon : Canon H2
 len : H.length ≤ H2.length
 al : args2.length = args.length
 back : ∀ x c, H2.get x = some c → (∃ c', H.get x = some c') ∨ H.length ≤ x
 rel : ∀ (ω : Nat → Value) (θ : Th) (w : World) (Im : Nat → Prop) (us : List Value), LRel P ω w Im θ args us → HRel P ω w Im θ H.get → (∀ x, H.length ≤ x → θ x = none) → LRel P ω w Im θ args2 us ∧ HRel P ω w Im θ H2.get
theorem LRel.cons {ω : Nat → Value} {w : World} {Im : Nat → Prop} {θ : Th} {v : SV} {vs : List SV} {u : Value} {us : List Value} (h : VRel P ω w Im θ v u) (hl : LRel P ω w Im θ vs us) : LRel P ω w Im θ (v :: vs) (u :: us) :=
 ⟨by simp [hl.len], fun i v' u' hv hu => by
  cases i with
  | zero => simp at hv hu; subst hv; subst hu; exact h
  | succ i => exact hl.at_ i v' u' (by simpa using hv) (by simpa using hu)⟩
theorem LRel.uncons {ω : Nat → Value} {w : World} {Im : Nat → Prop} {θ : Th} {v : SV} {vs : List SV} {us : List Value} (h : LRel P ω w Im θ (v :: vs) us) : ∃ u us', us = u :: us' ∧ VRel P ω w Im θ v u ∧ LRel P ω w Im θ vs us' := by
 cases us with
 | nil => have := h.len; simp at this
 | cons u us => exact ⟨u, us, rfl, h.at_ 0 v u rfl rfl, ⟨by simpa using h.len, fun i v u hv hu => h.at_ (i + 1) v u (by simpa using hv) (by simpa using hu)⟩⟩
theorem InOk.cons {a a2 : SV} {as as2 : List SV} {H H2 : HpL} (h : InOk P as H as2 H2) (ha : ∀ (ω : Nat → Value) (θ : Th) (w : World) (Im : Nat → Prop) (u : Value), VRel P ω w Im θ a u → VRel P ω w Im θ a2 u) : InOk P (a :: as) H (a2 :: as2) H2 :=
 ⟨h.canon, h.len, by simp [h.al], h.back, fun ω θ w Im us hl hH hf => by
  obtain ⟨u, us', rfl, h1, h2⟩ := hl.uncons
  obtain ⟨h3, h4⟩ := h.rel ω θ w Im us' h2 hH hf
  exact ⟨h3.cons (ha _ _ _ _ _ h1), h4⟩⟩
theorem CRel.bytes {ω : Nat → Value} {w : World} {Im : Nat → Prop} {θ : Th} {x : Nat} {T : TypeId} {cs : List SV} (h : CRel P ω w Im θ x (.cells T cs)) (hb : byteL cs = true) (hu : P.underlying T = some (.int .u8)) (h1 : P.cellsOf T = 1) : CRel P ω w Im θ x (.seq T cs) := by
 obtain ⟨b, us, fr, ht, hw, hf, hl⟩ := h
 have hlen := hl.len
 have hex : ∀ v ∈ cs, expand P T v = v := by
  intro v hv
  obtain ⟨n, rfl⟩ := byteL_at hb v hv
  have ha : isAggT P T = false := by unfold isAggT; rw [hu]
  simp only [expand, ha, cond_false, expandLeaf, hu, asI]
 refine .inr ⟨b, cs.length, us, T, fr, fun i => us.toList.getD i undef, ht, hw, hf, ⟨by simpa using hlen.symm, rfl⟩, by rw [h1]; omega, hex, ?_⟩
 intro i v hi
 have hlt : i < us.size := by
  obtain ⟨hlt, _⟩ := List.getElem?_eq_some_iff.1 hi
  rw [hlen] at hlt; simpa using hlt
 have hui : us.toList[i]? = some (us.toList.getD i undef) := by
  rw [List.getD_eq_getElem?_getD, Array.getElem?_toList, Array.getElem?_eq_getElem hlt]; rfl
 have hv := hl.at_ i v _ hi hui
 obtain ⟨n, rfl⟩ := byteL_at hb v (List.mem_of_getElem? hi)
 show VRel P om0 w Im noTh _ (us.toList.getD i undef) ∧ (us.toList.getD i undef).cells.size = _ ∧ ∀ (d : Nat) (c : Value), (us.toList.getD i undef).cells[d]? = some c → _
 generalize hg : us.toList.getD i undef = u at hv hui ⊢
 cases hv
 refine ⟨.int, by rw [h1]; rfl, fun d c hd => ?_⟩
 rw [h1, Nat.mul_one]
 cases d with
 | zero =>
  simp [Value.cells] at hd; subst hd
  simpa [Array.getElem?_toList] using hui
 | succ d => simp [Value.cells] at hd
theorem HRel.bytes {ω : Nat → Value} {w : World} {Im : Nat → Prop} {θ : Th} {H : HpL} (h : HRel P ω w Im θ H.get) {x : Nat} {T : TypeId} {cs : List SV} (hx : H.get x = some (.cells T cs)) (hb : byteL cs = true) (hu : P.underlying T = some (.int .u8)) (h1 : P.cellsOf T = 1) : HRel P ω w Im θ (HpL.get (putH H x (.seq T cs))) := by
 have up : ∀ y c, HpL.get (putH H x (.seq T cs)) y = some c → ∃ c', H.get y = some c' := by
  intro y c hy
  rw [get_put] at hy
  by_cases he : y = x
  · subst he; exact ⟨_, hx⟩
  · rw [if_neg he] at hy; exact ⟨_, hy⟩
 refine ⟨fun y c hy => ?_, fun y z c c' b N N' hy hz h2 h3 => ?_, fun y c b N hy h2 => ?_, h.im, h.gl⟩
 · rw [get_put] at hy
   by_cases he : y = x
   · subst he; rw [if_pos rfl] at hy; cases hy; exact (h.at_ _ _ hx).bytes hb hu h1
   · rw [if_neg he] at hy; exact h.at_ y c hy
 · obtain ⟨d, hd⟩ := up y c hy
   obtain ⟨d', hd'⟩ := up z c' hz
   exact h.inj y z d d' b N N' hd hd' h2 h3
 · obtain ⟨d, hd⟩ := up y c hy
   exact h.own y d b N hd h2
end Go.Am
/- The abstract machine: a round of a loop; loops by what is known up to other words. -/
namespace Go.Am
variable {P : Program} {ω : Nat → Value}
theorem round_valid {κ : Nat → Option CSumm} {ι : Nat → Bool} {T : LTab} {sp : Bool} {fuel : Nat} {e : LEnt} {c : Code} {s' : CSumm} (hκ : KOk P κ) (hmix : P.follows .mixedOrders = true) (hT : LOk P T) (hfill : fillC T c = e.code)
  (ih : ValidL P { e with s := s' }) : ValidL P { e with s := fun args H => loopOnce P κ ι T sp fuel e { e with s := s' } c args H } := by
 have key : ∀ (args : List SV) (H : HpL) (k : IntKind) (c0 : Int) (outs : List SV) (ups : List (Nat × Option Chunk)), crun (loopOnce P κ ι T sp fuel e { e with s := s' } c args H) = some (.tup (.int k c0 :: outs), ups) → Canon H → outs.length = e.outs.length → args.length = e.ins.length →
  ∃ m, ∀ (ω : Nat → Value) (θ : Th) (Im : Nat → Prop) (w : World) (a : Act) (Q : Exit → Act → World → Prop), a.tmps.size = e.size → LRel P ω w Im θ args (e.ins.map fun t => a.tmps.getD t undef) → HRel P ω w Im θ H.get →
   (∀ x, H.length ≤ x → θ x = none) → Mk w Im θ H.get a.defers →
   (∀ a' w' Im' θ', a'.tmps.size = e.size → Ext (fun x => H.length ≤ x) H.get w Im θ (updF ups H.get) w' Im' θ' → LRel P ω w' Im' θ' outs (e.outs.map fun t => a'.tmps.getD t undef) → HRel P ω w' Im' θ' (updF ups H.get) →
    (∀ t ∈ e.keep, a'.tmps.getD t undef = a.tmps.getD t undef) → Mk w' Im' θ' (updF ups H.get) a'.defers → New a a' w → Q (exitOf (exOf c0)) a' w') →
   Code.roundsIn (FR none) 0 P e.code Q m a w := by
  intro args H k c0 outs ups hl hcanon hol hal
  unfold loopOnce at hl
  cases hc : canonB H 0 && closedB H.length H && Nat.beq args.length e.ins.length && Nat.blt e.size 16000 && Nat.blt H.length 1000000 && lowB e.size e.ins && lowB e.size e.keep && lowB e.size e.outs && noOpqL args && noOpqH H && lowB H.length (namesL args) with
  | false => rw [hc] at hl; simp [crun] at hl
  | true =>
   rw [hc] at hl
   simp only [cond_true] at hl
   simp only [Bool.and_eq_true] at hc
   obtain ⟨⟨⟨⟨⟨⟨⟨⟨⟨⟨c1, c2⟩, c3⟩, c4⟩, c5⟩, c6⟩, c7⟩, c8⟩, c9⟩, c10⟩, c11⟩ := hc
   have hsz : e.size < 16000 := by rwa [Nat.blt_eq] at c4
   have hHl : H.length < 1000000 := by rwa [Nat.blt_eq] at c5
   have hins := lowB_spec _ c6
   have hkeep := lowB_spec _ c7
   have houts := lowB_spec _ c8
   have hhp : (loopSt sp e args H).hp.get = H.get := heapTr_init c1 (by omega)
   have htm : ∀ j, ((loopSt sp e args H).tmp j = .junk) ∨ (j ∈ e.keep ∧ (loopSt sp e args H).tmp j = .opq j) ∨ ∃ i : Nat, e.ins[i]? = some j ∧ ∃ v, args[i]? = some v ∧ (loopSt sp e args H).tmp j = v := by
    intro j
    have hk16 : ∀ x ∈ e.keep, x < 16000 := fun x hx => by have := hkeep x hx; omega
    have hi16 : ∀ x ∈ e.ins, x < 16000 := fun x hx => by have := hins x hx; omega
    have he : (loopSt sp e args H).tmp j = match (setPs e.ins args (keepI e.keep .lf)).get j with
     | some v => v
     | none => .junk := rfl
    rcases setPs_at e.ins args (keepI e.keep .lf) j hi16 with ⟨g1, -⟩ | ⟨i, g1, v, g2, g3⟩
    · rw [he, g1, keepI_get _ _ _ hk16]
      by_cases hj : j ∈ e.keep
      · simp [hj]
      · simp [hj, Tr.get_lf]
    · exact .inr (.inr ⟨i, g1, v, g2, by rw [he, g3]⟩)
   have hs0 : StOk (loopSt sp e args H) := by
    refine ⟨hsz, hHl, fun t ht => ?_, ?_, Nat.le_refl _⟩
    · have ht' : e.size ≤ t := ht
      rcases htm t with g | ⟨g, _⟩ | ⟨i, g, _⟩
      · exact g
      · have := hkeep t g; omega
      · have := hins t (List.mem_of_getElem? g); omega
    · intro x c hx
      rw [hhp] at hx
      exact canon_lt c1 hx
   obtain ⟨ex1, s1, hs1, hc1, hk1⟩ := execL_ok (den := crun) rfl hκ hmix hT fuel c _ _ _ hs0 hl
   rw [hfill] at hc1
   have hall : ∃ ex sF, StOk sF ∧ Comes P (.loop e.code) (loopSt sp e args H) ex sF ∧ crun (finishL e ex sF) = some (.tup (.int k c0 :: outs), ups) := by
    cases ex1 with
    | normal =>
     simp only [] at hk1
     obtain ⟨ex2, s2, hs2, hc2, hk2⟩ := loopK_run (den := crun) rfl ih hs1 hk1
     obtain ⟨m, hm⟩ := hc2.wps
     refine ⟨ex2, s2, hs2, ⟨hc1.later.trans hc2.later, by rw [hc2.size, hc1.size], by rw [hc2.rd, hc1.rd], m + 1, fun ω ρ Q a w Im θ sim hA => ?_⟩, hk2⟩
     show Code.roundsIn (FR ρ) 0 P e.code Q (m + 1) a w
     rw [roundsIn_succ]
     refine hc1.wp ρ _ a w Im θ sim (fun a' w' Im' θ' sim' hE hN => ?_)
     exact hm ω ρ Q a' w' Im' θ' sim' (After.trans hc1.later hE hN hA)
    | exit id =>
     refine ⟨.exit id, s1, hs1, ⟨hc1.later, hc1.size, hc1.rd, 1, fun ω ρ Q a w Im θ sim hA => ?_⟩, hk1⟩
     show Code.roundsIn (FR ρ) 0 P e.code Q 1 a w
     rw [roundsIn_succ]
     exact hc1.wp ρ _ a w Im θ sim (fun a' w' Im' θ' sim' hE hN => hA a' w' Im' θ' sim' hE hN)
    | ret =>
     refine ⟨.ret, s1, hs1, ⟨hc1.later, hc1.size, hc1.rd, 1, fun ω ρ Q a w Im θ sim hA => ?_⟩, hk1⟩
     show Code.roundsIn (FR ρ) 0 P e.code Q 1 a w
     rw [roundsIn_succ]
     exact hc1.wp ρ _ a w Im θ sim (fun a' w' Im' θ' sim' hE hN => hA a' w' Im' θ' sim' hE hN)
   obtain ⟨ex, sF, hsF, hC, hfin⟩ := hall
   obtain ⟨f1, f2, f3, rfl, ns, hre, rfl, rfl⟩ := finishL_inv hfin
   obtain ⟨m, hm⟩ := hC.wps
   refine ⟨m, fun ω θ Im w a Q hsize hargs hH hfr hMk hpost => ?_⟩
   have hmF : sF.m = H.length := hC.later.m
   have hsF2 : sF.size = e.size := hC.size
   have sim0 : Sim P (fun t => a.tmps.getD t undef) none (loopSt sp e args H) a w Im θ := by
    refine ⟨hs0, ⟨hsize, fun t ht => ?_, hs0.out, by rw [hhp]; exact hMk, by rw [hhp]; exact hH.om (fun x c hx => noOpqH_at c10 hx)⟩, ?_, .inl ⟨rfl, rfl⟩⟩
    · rcases htm t with g | ⟨g, g2⟩ | ⟨i, g, v, g2, g3⟩
      · rw [g]; exact .junk
      · rw [g2]; exact .opq
      · rw [g3]
        exact (hargs.at_ i v _ g2 (by simp [g])).om (noOpqL_at c9 g2)
    · intro x hx
      have hx' : H.length ≤ x := hx
      refine ⟨hfr x hx', ?_⟩
      rw [hhp]
      cases hg : H.get x with
      | none => rfl
      | some c => have := canon_lt c1 hg; omega
   refine hm (fun t => a.tmps.getD t undef) none Q a w Im θ sim0 (fun a' w' Im' θ' sim' hE hN => ?_)
   have hsame : ∀ x, x < H.length → sF.hp.get x = H.get x ∨ x ∈ sF.dirty := by
    intro x hx
    have := hC.later.same x hx
    rwa [hhp] at this
   have hdl : ∀ x ∈ sF.dirty, x < H.length := by
    intro x hx
    rcases hC.later.low x hx with h | h
    · cases h
    · exact h
   have hext : Ext (fun x => H.length ≤ x) H.get w Im θ sF.hp.get w' Im' θ' := by
    rw [← hhp]; exact hE
   have hz : VRel P (fun t => a.tmps.getD t undef) w' Im' θ' (.tup (.int .i64 (codeEx ex) :: e.outs.map sF.tmp)) (.tuple (.int .i64 (codeEx ex) :: (e.outs.map fun t => a'.tmps.getD t undef)).toArray) := by
    have hl := lrel_map (P := P) (ω := fun t => a.tmps.getD t undef) (w := w') (Im := Im') (θ := θ') (f := sF.tmp) (g := fun t => a'.tmps.getD t undef) (l := e.outs) (fun t ht => sim'.sf.tm t (by rw [hsF2]; exact houts t ht))
    refine .tup (by simp) (fun i v u hv hu => ?_)
    cases i with
    | zero => simp at hv hu; subst hv; subst hu; exact .int
    | succ i => exact hl.at_ i v u (by simpa using hv) (by simpa using hu)
   obtain ⟨θ3, g1, g2, g3, g4⟩ := finish_gen c1 c2 hfr hmF hsame hdl hre sim'.sf.hp hext hz
   rw [← hmF] at g1 g2 g3 g4
   have g2' : LRel P (fun t => a.tmps.getD t undef) w' Im' θ3 (renL (outName ns sF.m) (e.outs.map sF.tmp)) (e.outs.map fun t => a'.tmps.getD t undef) := by
    simp only [renS, renL] at g2
    cases g2 with
    | tup p1 p2 => exact ⟨by rw [renL_eq]; simp, fun i v u hv hu => p2 (i + 1) v u (by simpa using hv) (by simpa using hu)⟩
   rw [← hmF] at hpost
   have := hpost a' w' Im' θ3 (by rw [sim'.sf.size]; exact hsF2) g1 (g2'.om (by rw [noOpqL_ren]; exact f2)) (g3.om (noOpqU_at f3 (fun x c hx => noOpqH_at c10 hx))) (fun t ht => ?_) ?_ hN
   · rw [exOf_code] at this; exact this
   · have h1 := sim'.sf.tm t (by rw [hsF2]; exact hkeep t ht)
     rw [f1 t ht] at h1
     generalize a'.tmps.getD t undef = z at h1
     cases h1
     rfl
   · obtain ⟨rs, base, m1, mb, m2, m3⟩ := sim'.sf.df
     refine ⟨rs, base, m1, mb, m2, fun r hr => ⟨(m3 r hr).1, (m3 r hr).2.1, fun y c N hy hb => ?_⟩⟩
     obtain ⟨x, c0, hx, hxb⟩ := g4 y c r N hy hb
     exact (m3 r hr).2.2 x c0 N hx hxb
 exact key
end Go.Am
/- The abstract machine: lists that are answered or left in the heap, known by content from there on. -/
namespace Go.Am
variable {P : Program}
def SemV (P : Program) (k e : Nat) (rs : List SV) (v v' : SV) : Prop :=
 ∀ (ω : Nat → Value) (w : World) (Im : Nat → Prop) (θ : Th) (h : HpF) (u : Value), HRel P ω w Im θ h → h k = some (.seq e rs) → VRel P ω w Im θ v u → VRel P ω w (frozenBy Im θ h [k]) θ v' u
def SemC (P : Program) (k e : Nat) (rs : List SV) (x : Nat) (c c' : Chunk) : Prop :=
 ∀ (ω : Nat → Value) (w : World) (Im : Nat → Prop) (θ : Th) (h : HpF), HRel P ω w Im θ h → h k = some (.seq e rs) → CRel P ω w Im θ x c → CRel P ω w (frozenBy Im θ h [k]) θ x c'
variable {k e : Nat} {rs : List SV}
theorem SemV.rfl' {v : SV} : SemV P k e rs v v := fun ω w Im θ h u _ _ hv => hv.mono (frozenBy_up w) (fun _ _ h => h)
theorem SemV.qs {sz n : Nat} (hn : n = rs.length) : SemV P k e rs (.qs k sz 0 n) (.psl e rs) := fun ω w Im θ h u hr hk hv => seq_psl hr hk hn hv
theorem SemV.nils {e' : Nat} : SemV P k e rs .nils (.psl e' []) := fun ω w Im θ h u _ _ hv => (nils_psl hv).mono (frozenBy_up w) (fun _ _ h => h)
inductive SemL (P : Program) (k e : Nat) (rs : List SV) : List SV → List SV → Prop
 | nil : SemL P k e rs [] []
 | cons {v v' : SV} {vs vs' : List SV} : SemV P k e rs v v' → SemL P k e rs vs vs' → SemL P k e rs (v :: vs) (v' :: vs')
theorem SemL.rfl' : ∀ {vs : List SV}, SemL P k e rs vs vs
 | [] => .nil
 | _ :: _ => .cons .rfl' .rfl'
theorem SemL.len : ∀ {vs vs' : List SV}, SemL P k e rs vs vs' → vs'.length = vs.length
 | _, _, .nil => rfl
 | _, _, .cons _ h => by simp [h.len]
theorem SemL.at_ : ∀ {vs vs' : List SV}, SemL P k e rs vs vs' → ∀ (i : Nat) (v' : SV), vs'[i]? = some v' → ∃ v, vs[i]? = some v ∧ SemV P k e rs v v'
 | _, _, .nil, i, v', h => by simp at h
 | _, _, .cons h1 h2, 0, v', h => by simp at h; subst h; exact ⟨_, rfl, h1⟩
 | _, _, .cons h1 h2, i + 1, v', h => by simp at h; obtain ⟨v, h3, h4⟩ := h2.at_ i v' h; exact ⟨v, by simpa using h3, h4⟩
theorem SemL.rel {vs vs' : List SV} (hs : SemL P k e rs vs vs') {ω : Nat → Value} {w : World} {Im : Nat → Prop} {θ : Th} {h : HpF} (hr : HRel P ω w Im θ h) (hk : h k = some (.seq e rs)) {us : List Value} (hl : LRel P ω w Im θ vs us) : LRel P ω w (frozenBy Im θ h [k]) θ vs' us :=
 ⟨by rw [hs.len]; exact hl.len, fun i v' u hv hu => by
  obtain ⟨v, h1, h2⟩ := hs.at_ i v' hv
  exact h2 ω w Im θ h u hr hk (hl.at_ i v u h1 hu)⟩
theorem SemV.tup {vs vs' : List SV} (hs : SemL P k e rs vs vs') : SemV P k e rs (.tup vs) (.tup vs') := by
 intro ω w Im θ h u hr hk hv
 cases hv with
 | tup h1 h2 =>
  have := hs.rel hr hk ⟨h1, fun i v u a b => h2 i v u a (by simpa using b)⟩
  exact .tup this.len (fun i v u a b => this.at_ i v u a (by simpa using b))
theorem SemV.agg {vs vs' : List SV} (hs : SemL P k e rs vs vs') : SemV P k e rs (.agg vs) (.agg vs') := by
 intro ω w Im θ h u hr hk hv
 cases hv with
 | agg h1 h2 =>
  have := hs.rel hr hk ⟨h1, fun i v u a b => h2 i v u a (by simpa using b)⟩
  exact .agg this.len (fun i v u a b => this.at_ i v u a (by simpa using b))
theorem SemC.rfl' {x : Nat} {c : Chunk} : SemC P k e rs x c c := fun ω w Im θ h _ _ hc => hc.mono (frozenBy_up w) (fun _ _ h => h) rfl (fun _ _ _ => rfl)
theorem SemC.cells {x : Nat} {T : TypeId} {vs vs' : List SV} (hs : SemL P k e rs vs vs') : SemC P k e rs x (.cells T vs) (.cells T vs') := by
 rintro ω w Im θ h hr hk ⟨b, cs, fr, h1, h2, h3, h4⟩
 exact ⟨b, cs, fr, by rw [hs.len]; exact h1, h2, h3, hs.rel hr hk h4⟩
def CoV (P : Program) (v v' : SV) : Prop := ∀ (ω : Nat → Value) (w : World) (Im : Nat → Prop) (θ : Th) (u : Value), VRel P ω w Im θ v u → VRel P ω w Im θ v' u
def CoC (P : Program) (x : Nat) (c c' : Chunk) : Prop := ∀ (ω : Nat → Value) (w : World) (Im : Nat → Prop) (θ : Th), CRel P ω w Im θ x c → CRel P ω w Im θ x c'
theorem CoV.rfl' {v : SV} : CoV P v v := fun _ _ _ _ _ h => h
theorem CoC.rfl' {x : Nat} {c : Chunk} : CoC P x c c := fun _ _ _ _ h => h
theorem CoV.nils {e' : Nat} : CoV P .nils (.psl e' []) := fun _ _ _ _ _ h => nils_psl h
inductive CoL (P : Program) : List SV → List SV → Prop
 | nil : CoL P [] []
 | cons {v v' : SV} {vs vs' : List SV} : CoV P v v' → CoL P vs vs' → CoL P (v :: vs) (v' :: vs')
theorem CoL.rfl' : ∀ {vs : List SV}, CoL P vs vs
 | [] => .nil
 | _ :: _ => .cons .rfl' .rfl'
theorem CoL.len : ∀ {vs vs' : List SV}, CoL P vs vs' → vs'.length = vs.length
 | _, _, .nil => rfl
 | _, _, .cons _ h => by simp [h.len]
theorem CoL.at_ : ∀ {vs vs' : List SV}, CoL P vs vs' → ∀ (i : Nat) (v' : SV), vs'[i]? = some v' → ∃ v, vs[i]? = some v ∧ CoV P v v'
 | _, _, .nil, i, v', h => by simp at h
 | _, _, .cons h1 h2, 0, v', h => by simp at h; subst h; exact ⟨_, rfl, h1⟩
 | _, _, .cons h1 h2, i + 1, v', h => by simp at h; obtain ⟨v, h3, h4⟩ := h2.at_ i v' h; exact ⟨v, by simpa using h3, h4⟩
theorem CoL.rel {vs vs' : List SV} (hs : CoL P vs vs') {ω : Nat → Value} {w : World} {Im : Nat → Prop} {θ : Th} {us : List Value} (hl : LRel P ω w Im θ vs us) : LRel P ω w Im θ vs' us :=
 ⟨by rw [hs.len]; exact hl.len, fun i v' u hv hu => by
  obtain ⟨v, h1, h2⟩ := hs.at_ i v' hv
  exact h2 ω w Im θ u (hl.at_ i v u h1 hu)⟩
theorem CoV.tup {vs vs' : List SV} (hs : CoL P vs vs') : CoV P (.tup vs) (.tup vs') := by
 intro ω w Im θ u hv
 cases hv with
 | tup h1 h2 =>
  have := hs.rel (ω := ω) (w := w) (Im := Im) (θ := θ) ⟨h1, fun i v u a b => h2 i v u a (by simpa using b)⟩
  exact .tup this.len (fun i v u a b => this.at_ i v u a (by simpa using b))
theorem CoV.agg {vs vs' : List SV} (hs : CoL P vs vs') : CoV P (.agg vs) (.agg vs') := by
 intro ω w Im θ u hv
 cases hv with
 | agg h1 h2 =>
  have := hs.rel (ω := ω) (w := w) (Im := Im) (θ := θ) ⟨h1, fun i v u a b => h2 i v u a (by simpa using b)⟩
  exact .agg this.len (fun i v u a b => this.at_ i v u a (by simpa using b))
theorem CoC.cells {x : Nat} {T : TypeId} {vs vs' : List SV} (hs : CoL P vs vs') : CoC P x (.cells T vs) (.cells T vs') := by
 rintro ω w Im θ ⟨b, cs, fr, h1, h2, h3, h4⟩
 exact ⟨b, cs, fr, by rw [hs.len]; exact h1, h2, h3, hs.rel h4⟩
def Told (P : Program) (H : HpL) (v : SV) (ups : List (Nat × Option Chunk)) (v' : SV) (ups' : List (Nat × Option Chunk)) : Prop :=
 CoV P v v' ∧ ∀ x c', updF ups' H.get x = some c' → ∃ c, updF ups H.get x = some c ∧ CoC P x c c'
theorem told_post {ω : Nat → Value} {H : HpL} {w w' : World} {Im Im' : Nat → Prop} {θ θ' : Th} {ups ups' : List (Nat × Option Chunk)}
  (hu : ∀ x c', updF ups' H.get x = some c' → ∃ c, updF ups H.get x = some c ∧ CoC P x c c')
  (hE : Ext (fun x => H.length ≤ x) H.get w Im θ (updF ups H.get) w' Im' θ') (hH : HRel P ω w' Im' θ' (updF ups H.get)) :
  Ext (fun x => H.length ≤ x) H.get w Im θ (updF ups' H.get) w' Im' θ' ∧ HRel P ω w' Im' θ' (updF ups' H.get) := by
 refine ⟨?_, ?_⟩
 · refine { thOld := hE.thOld, thUp := hE.thUp, imUp := hE.imUp, size := hE.size, keep := hE.keep, os := hE.os, output := hE.output, tape := hE.tape, imNew := hE.imNew, ownNew := fun x c' b N hx hθ => ?_ }
   obtain ⟨c, h1, _⟩ := hu x c' hx
   exact hE.ownNew x c b N h1 hθ
 · refine ⟨fun x c' hx => ?_, fun x y c c' b N N' hx hy h1 h2 => ?_, fun x c' b N hx hθ => ?_, hH.im, hH.gl⟩
   · obtain ⟨c, h1, h2⟩ := hu x c' hx
     exact h2 ω w' Im' θ' (hH.at_ x c h1)
   · obtain ⟨c1, h3, _⟩ := hu x c hx
     obtain ⟨c2, h4, _⟩ := hu y c' hy
     exact hH.inj x y c1 c2 b N N' h3 h4 h1 h2
   · obtain ⟨c, h1, _⟩ := hu x c' hx
     exact hH.own x c b N h1 hθ
structure From (P : Program) (args : List SV) (H : HpL) (args2 : List SV) (H2 : HpL) : Prop where
 args : CoL P args args2
 canon : Canon H2
 len : H2.length = H.length
 fwd : ∀ x c, H.get x = some c → ∃ c2, H2.get x = some c2 ∧ CoC P x c c2
 bwd : ∀ x c2, H2.get x = some c2 → ∃ c, H.get x = some c
theorem From.ext {args args2 : List SV} {H H2 : HpL} (h : From P args H args2 H2) {w w' : World} {Im Im' : Nat → Prop} {θ θ' : Th} {h' : HpF} (he : Ext (fun x => H2.length ≤ x) H2.get w Im θ h' w' Im' θ') : Ext (fun x => H.length ≤ x) H.get w Im θ h' w' Im' θ' := by
 rw [h.len] at he
 refine { thOld := he.thOld, thUp := he.thUp, imUp := he.imUp, size := he.size, os := he.os, output := he.output, tape := he.tape, keep := fun b hb hno => ?_, imNew := fun b hb => ?_, ownNew := fun x c b N hx hθ => ?_ }
 · refine he.keep b hb (fun x c N hx hθ => ?_)
   obtain ⟨c0, h1⟩ := h.bwd x c hx
   exact hno x c0 N h1 hθ
 · rcases he.imNew b hb with h1 | ⟨x, c, N, h1, h2⟩ | h1
   · exact .inl h1
   · obtain ⟨c0, h3⟩ := h.bwd x c h1
     exact .inr (.inl ⟨x, c0, N, h3, h2⟩)
   · exact .inr (.inr h1)
 · rcases he.ownNew x c b N hx hθ with ⟨y, c', N', h1, h2⟩ | h1
   · obtain ⟨c0, h3⟩ := h.bwd y c' h1
     exact .inl ⟨y, c0, N', h3, h2⟩
   · exact .inr h1
end Go.Am
/- The abstract machine: loops known by what their rounds come to, told by other words. -/
namespace Go.Am
variable {P : Program}
def ToldL (P : Program) (H : HpL) (v : SV) (ups : List (Nat × Option Chunk)) (v' : SV) (ups' : List (Nat × Option Chunk)) : Prop :=
 ∃ (c : Int) (vs vs' : List SV), v = .tup (.int .i64 c :: vs) ∧ v' = .tup (.int .i64 c :: vs') ∧ CoL P vs vs' ∧ ∀ x c', updF ups' H.get x = some c' → ∃ c, updF ups H.get x = some c ∧ CoC P x c c'
theorem loop_told {e : LEnt} {s' : CSumm} (h : ValidL P e) (hs : ∀ args H v' ups', crun (s' args H) = some (v', ups') → ∃ v ups, crun (e.s args H) = some (v, ups) ∧ ToldL P H v ups v' ups') : ValidL P { e with s := s' } := by
 intro args H kk c0 outs' ups' hr hc ho ha
 obtain ⟨v, ups, hr', c, vs, vs', rfl, hv, hl, hu⟩ := hs args H _ ups' hr
 simp only [SV.tup.injEq, List.cons.injEq, SV.int.injEq] at hv
 obtain ⟨⟨rfl, rfl⟩, rfl⟩ := hv
 obtain ⟨m, hm⟩ := h args H .i64 c0 vs ups hr' hc (by rw [← hl.len]; exact ho) ha
 refine ⟨m, fun ω θ Im w a Q hsz hla hH hfr hmk hQ => hm ω θ Im w a Q hsz hla hH hfr hmk ?_⟩
 intro a' w' Im' θ' b1 b2 b3 b4 b5 b6 b7
 obtain ⟨h1, h2⟩ := told_post hu b2 b4
 refine hQ a' w' Im' θ' b1 h1 (hl.rel b3) h2 b5 ?_ b7
 obtain ⟨rs', base, r1, rb, r2, r3⟩ := b6
 refine ⟨rs', base, r1, rb, r2, fun r hrr => ⟨(r3 r hrr).1, (r3 r hrr).2.1, fun x c' N hx => ?_⟩⟩
 obtain ⟨c, g1, _⟩ := hu x c' hx
 exact (r3 r hrr).2.2 x c N g1
theorem boundT_at {μ : List SV → HpL → Nat} {s : CSumm} {n : Nat} {args : List SV} {H : HpL} {v : SV} {ups : List (Nat × Option Chunk)} (h : crun (boundT μ s n args H) = some (v, ups)) : Nat.blt (μ args H) n = true ∧ crun (s args H) = some (v, ups) := by
 unfold boundT at h
 cases hb : Nat.blt (μ args H) n with
 | false => rw [hb] at h; cases h
 | true => rw [hb] at h; exact ⟨rfl, h⟩
end Go.Am
/- The abstract machine: loops known by what their rounds come to, told by other words in several steps. -/
namespace Go.Am
variable {P : Program}
inductive ChainL (P : Program) (H : HpL) : SV → List (Nat × Option Chunk) → SV → List (Nat × Option Chunk) → Prop
 | same {v ups ups'} : (∀ x, updF ups' H.get x = updF ups H.get x) → ChainL P H v ups v ups'
 | ren {v ups v' ups'} : Renamed H v ups v' ups' → ChainL P H v ups v' ups'
 | told {v ups v' ups'} : ToldL P H v ups v' ups' → ChainL P H v ups v' ups'
 | trans {v ups v1 ups1 v' ups'} : ChainL P H v ups v1 ups1 → ChainL P H v1 ups1 v' ups' → ChainL P H v ups v' ups'
noncomputable def oneS1 (args : List SV) (H : HpL) (v : SV) (ups : List (Nat × Option Chunk)) : CSumm := fun a h => by classical exact if a = args ∧ h = H then .ret v ups else .fail
theorem oneS1_at {args : List SV} {H : HpL} {v : SV} {ups : List (Nat × Option Chunk)} {a : List SV} {h : HpL} {v' : SV} {u' : List (Nat × Option Chunk)} (hx : crun (oneS1 args H v ups a h) = some (v', u')) : a = args ∧ h = H ∧ v' = v ∧ u' = ups := by
 simp only [oneS1] at hx
 split at hx
 · rename_i hq; cases hx; exact ⟨hq.1, hq.2, rfl, rfl⟩
 · cases hx
theorem oneS1_run (args : List SV) (H : HpL) (v : SV) (ups : List (Nat × Option Chunk)) : crun (oneS1 args H v ups args H) = some (v, ups) := by simp [oneS1, crun]
theorem loop_chain {e : LEnt} {args : List SV} {H : HpL} {v : SV} {ups : List (Nat × Option Chunk)} {v' : SV} {ups' : List (Nat × Option Chunk)} (hch : ChainL P H v ups v' ups') : ValidL P { e with s := oneS1 args H v ups } → ValidL P { e with s := oneS1 args H v' ups' } := by
 induction hch with
 | same hs =>
  intro h
  refine loop_ren (e := { e with s := oneS1 args H _ _ }) h (fun a h2 v2 u2 hx => ?_)
  obtain ⟨rfl, rfl, rfl, rfl⟩ := oneS1_at hx
  exact .inl ⟨_, oneS1_run _ _ _ _, hs⟩
 | ren hs =>
  intro h
  refine loop_ren (e := { e with s := oneS1 args H _ _ }) h (fun a h2 v2 u2 hx => ?_)
  obtain ⟨rfl, rfl, rfl, rfl⟩ := oneS1_at hx
  exact .inr ⟨_, _, oneS1_run _ _ _ _, hs⟩
 | told hs =>
  intro h
  refine loop_told (e := { e with s := oneS1 args H _ _ }) h (fun a h2 v2 u2 hx => ?_)
  obtain ⟨rfl, rfl, rfl, rfl⟩ := oneS1_at hx
  exact ⟨_, _, oneS1_run _ _ _ _, hs⟩
 | trans _ _ ih1 ih2 => exact fun h => ih2 (ih1 h)
theorem loop_valid5 {T : LTab} {sp : Bool} {fuel : Nat} {e : LEnt} {c : Code} {μ : List SV → HpL → Nat} (hmix : P.follows .mixedOrders = true) (hT : LOk P T) (hfill : fillC T c = e.code)
  (hstep : ∀ n args H v' ups', Nat.blt (μ args H) (n + 1) = true → crun (e.s args H) = some (v', ups') → ∃ (κ : Nat → Option CSumm) (ι : Nat → Bool), KOk P κ ∧
   ∃ v ups, crun (loopOnce P κ ι T sp fuel e { e with s := boundT μ e.s n } c args H) = some (v, ups) ∧ ChainL P H v ups v' ups') : ValidL P e := by
 have key : ∀ n, ValidL P { e with s := boundT μ e.s n } := by
  intro n
  induction n with
  | zero =>
   intro args H k c outs ups hrun
   obtain ⟨h1, _⟩ := boundT_at hrun
   rw [Nat.blt_eq] at h1; omega
  | succ n ih =>
   intro args H k c0 outs ups hrun hc ho ha
   obtain ⟨hb, hr⟩ := boundT_at hrun
   obtain ⟨κ, ι, hκ, v, u, hrn, hch⟩ := hstep n args H _ ups hb hr
   have hv := round_valid (κ := κ) (ι := ι) (T := T) (sp := sp) (fuel := fuel) (c := c) hκ hmix hT hfill ih
   have h1 : ValidL P { e with s := oneS1 args H v u } := loop_ren (e := { e with s := fun args H => loopOnce P κ ι T sp fuel e { e with s := boundT μ e.s n } c args H }) hv (fun a h v' u' hx => by
    obtain ⟨rfl, rfl, rfl, rfl⟩ := oneS1_at hx
    exact .inl ⟨_, hrn, fun _ => rfl⟩)
   exact loop_chain hch h1 args H k c0 outs ups (oneS1_run _ _ _ _) hc ho ha
 intro args H k c0 outs ups hrun
 exact key (μ args H + 1) args H k c0 outs ups (by
  show crun (boundT μ e.s _ args H) = _
  unfold boundT
  rw [show Nat.blt (μ args H) (μ args H + 1) = true by rw [Nat.blt_eq]; omega]
  exact hrun)
end Go.Am
/- The abstract machine: a loop over a map: in whatever order the entries come, the rounds come to one end. -/
namespace Go.Am
variable {P : Program} {ω : Nat → Value}
inductive NTree where
 | ret (v : SV) (ups : List (Nat × Option Chunk))
 | any (a b : NTree)
 | fail
noncomputable def oneOf (x y : Option (SV × List (Nat × Option Chunk))) : Option (SV × List (Nat × Option Chunk)) := by
 classical exact if x = y then x else none
section
variable (P : Program) (κ : Nat → Option CSumm) (ι : Nat → Bool) (fuel : Nat)
end
section
variable {w : World} {Im : Nat → Prop} {θ : Th} {h : HpF}
end
end Go.Am
/- Rows: data of bools, integers, strings, structs, arrays and slices, opened. -/
namespace Go.Am
open Go.ChangeShapes Go.WideShapes
section
variable {P : Program}
inductive All2 {α β : Type} (R : α → β → Prop) : List α → List β → Prop
 | nil : All2 R [] []
 | cons {a : α} {b : β} {l : List α} {m : List β} : R a b → All2 R l m → All2 R (a :: l) (b :: m)
theorem All2.append {α β : Type} {R : α → β → Prop} : ∀ {l : List α} {m : List β} {l' : List α} {m' : List β}, All2 R l m → All2 R l' m' → All2 R (l ++ l') (m ++ m')
 | _, _, _, _, .nil, h => h
 | _, _, _, _, .cons h t, h' => .cons h (t.append h')
theorem All2.len {α β : Type} {R : α → β → Prop} : ∀ {l : List α} {m : List β}, All2 R l m → l.length = m.length
 | _, _, .nil => rfl
 | _, _, .cons _ t => by simp [t.len]
theorem All2.mono {α β : Type} {R S : α → β → Prop} (hRS : ∀ a b, R a b → S a b) : ∀ {l : List α} {m : List β}, All2 R l m → All2 S l m
 | _, _, .nil => .nil
 | _, _, .cons h t => .cons (hRS _ _ h) (t.mono hRS)
theorem All2.cons_inv {α β : Type} {R : α → β → Prop} {a : α} {l : List α} {m : List β} (h : All2 R (a :: l) m) : ∃ b m', m = b :: m' ∧ R a b ∧ All2 R l m' := by
 cases h with | cons h t => exact ⟨_, _, rfl, h, t⟩
theorem All2.nil_inv {α β : Type} {R : α → β → Prop} {m : List β} (h : All2 R ([] : List α) m) : m = [] := by cases h; rfl
inductive OkV (P : Program) : TypeId → SV → Prop
 | bool {t : TypeId} {b : Bool} : P.underlying t = some .bool → OkV P t (.bool b)
 | int {t : TypeId} {k : IntKind} {n : Int} : P.underlying t = some (.int k) → (Lit.int k n).wf = true → OkV P t (.int k n)
 | str {t : TypeId} {l : List UInt8} : P.underlying t = some .string → l.length ≤ maxLen → OkV P t (.str l)
 | sl {t e : TypeId} {es : List SV} : P.underlying t = some (.slice e) → es.length ≤ maxLen → (∀ v ∈ es, OkV P e v) → OkV P t (.psl e es)
 | agg {t : TypeId} {cs : List SV} : isAggT P t = true → All2 (OkV P) (leaves P 40 t) cs → OkV P t (.agg cs)
def fieldsFlat (P : Program) (rec : TypeId → Bool) : List Field → Nat → Nat → Bool
 | [], o, n => Nat.beq o n
 | f :: fs, o, n => Nat.beq f.offset o && rec f.type && fieldsFlat P rec fs (o + P.cellsOf f.type) n
def flatT (P : Program) : Nat → TypeId → Bool
 | 0, _ => false
 | d + 1, t =>
  match P.underlying t with
  | some .bool => Nat.beq (P.cellsOf t) 1
  | some (.int _) => Nat.beq (P.cellsOf t) 1
  | some .string => Nat.beq (P.cellsOf t) 1
  | some (.slice e) => Nat.beq (P.cellsOf t) 1 && Nat.blt 0 (P.cellsOf e) && flatT P d e
  | some (.struct fs) => fieldsFlat P (flatT P d) fs.toList 0 (P.cellsOf t)
  | some (.array n e) => Nat.beq (n * P.cellsOf e) (P.cellsOf t) && flatT P d e
  | _ => false
theorem ofNat_beq {a b : Nat} (h : Nat.beq a b = true) : a = b := Nat.eq_of_beq_eq_true h
end
section
variable {P : Program} {H : Type} {enc : TypeId × Value → H} {w : World} {base : Nat} {spare : Nat → Bool} {held : Bool}
abbrev Old (w : World) : Nat → Prop := fun b => b < w.heap.size
def Opens (P : Program) (w : World) (ts : List TypeId) (cs : List Value) : Prop := ∃ ss, All2 (OkV P) ts ss ∧ All2 (fun s c => VRel P om0 w (Old w) noTh s c) ss cs
theorem Opens.append {ts ts' : List TypeId} {cs cs' : List Value} : Opens P w ts cs → Opens P w ts' cs' → Opens P w (ts ++ ts') (cs ++ cs')
 | ⟨ss, h1, h2⟩, ⟨ss', h1', h2'⟩ => ⟨ss ++ ss', h1.append h1', h2.append h2'⟩
theorem Opens.nil : Opens P w [] [] := ⟨[], .nil, .nil⟩
theorem Opens.one {t : TypeId} {s : SV} {c : Value} (h1 : OkV P t s) (h2 : VRel P om0 w (Old w) noTh s c) : Opens P w [t] [c] := ⟨[s], .cons h1 .nil, .cons h2 .nil⟩
theorem all2_lrel {ss : List SV} {cs : List Value} {θ : Th} {Im : Nat → Prop} : All2 (fun s c => VRel P om0 w Im θ s c) ss cs → LRel P om0 w Im θ ss cs := by
 intro h
 induction h with
 | nil => exact ⟨rfl, fun i v u h => by simp at h⟩
 | cons h _ ih =>
  refine ⟨by simp [ih.len], fun i v u hv hu => ?_⟩
  cases i with
  | zero => simp at hv hu; subst hv; subst hu; exact h
  | succ i => exact ih.at_ i v u (by simpa using hv) (by simpa using hu)
def valOf (P : Program) (t : TypeId) (cs : List Value) : Value := if isAggT P t then .agg cs.toArray else match cs with
 | [c] => c
 | _ => .agg cs.toArray
theorem expandFrom_self {P : Program} (v : List SV) : ∀ (ts : List TypeId) (cs : List SV) (j : Nat), (∀ (i : Nat) (u : TypeId) (c : SV), ts[i]? = some u → cs[i]? = some c → expandLeaf P u c = c) → ts.length = cs.length → (∀ i : Nat, v.getD (j + i) .junk = cs.getD i .junk) → expandFrom P (.agg v) ts j = cs
 | [], [], _, _, _, _ => rfl
 | [], _ :: _, _, _, h, _ => by simp at h
 | _ :: _, [], _, _, h, _ => by simp at h
 | u :: us, c :: cs, j, h1, h2, h3 => by
  have e0 := h3 0
  simp only [Nat.add_zero, List.getD_cons_zero] at e0
  have := h1 0 u c (by simp) (by simp)
  simp only [expandFrom, cellAt, e0, this]
  congr 1
  exact expandFrom_self v us cs (j + 1) (fun i u' c' hu hc => h1 (i + 1) u' c' (by simpa using hu) (by simpa using hc)) (by simpa using h2) (fun i => by
   have := h3 (i + 1)
   rw [show j + (i + 1) = j + 1 + i by omega] at this
   simpa using this)
theorem all2_at {α β : Type} {R : α → β → Prop} : ∀ {l : List α} {m : List β}, All2 R l m → ∀ (i : Nat) (a : α) (b : β), l[i]? = some a → m[i]? = some b → R a b
 | _, _, .nil, i, a, b, h, _ => by simp at h
 | _, _, .cons h t, i, a, b, ha, hb => by
  cases i with
  | zero => simp at ha hb; subst ha; subst hb; exact h
  | succ i => exact all2_at t i a b (by simpa using ha) (by simpa using hb)
theorem OkV.leaf {t : TypeId} {v : SV} (h : OkV P t v) (ha : isAggT P t = false) : expandLeaf P t v = v := by
 cases h with
 | bool h => simp [expandLeaf, h, asB]
 | int h _ => simp [expandLeaf, h, asI]
 | str h _ => simp [expandLeaf, h, asS]
 | sl h _ _ => simp [expandLeaf, h, asL]
 | agg h _ => rw [h] at ha; cases ha
theorem isAgg_leaf {t : TypeId} (h : isAggT P t = false) (d : Nat) : leaves P (d + 1) t = [t] := by
 unfold isAggT at h
 unfold leaves
 split at h
 · cases h
 · cases h
 · rename_i h1 h2
   first
   | rfl
   | (split
      · rename_i fs hh; exact absurd hh (h1 fs)
      · rename_i n e hh; exact absurd hh (h2 n e)
      · rfl)
theorem repL_mem {α : Type} {x : α} : ∀ {n : Nat} {l : List α}, x ∈ repL n l → x ∈ l
 | 0, _, h => by simp [repL] at h
 | n + 1, l, h => by
  simp only [repL, List.mem_append] at h
  rcases h with h | h
  · exact h
  · exact repL_mem h
theorem leaves_leaf : ∀ (d : Nat) (t u : TypeId), u ∈ leaves P d t → isAggT P u = false
 | 0, t, u, h => by simp [leaves] at h
 | d + 1, t, u, h => by
  unfold leaves at h
  split at h
  · rw [List.mem_flatMap] at h
    obtain ⟨f, _, hf⟩ := h
    exact leaves_leaf d _ _ hf
  · exact leaves_leaf d _ _ (repL_mem h)
  · rename_i h1 h2
    simp only [List.mem_singleton] at h
    subst h
    unfold isAggT
    split
    · rename_i fs hh; exact absurd hh (h1 fs)
    · rename_i n e hh; exact absurd hh (h2 n e)
    · rfl
theorem OkV.expand {t : TypeId} {v : SV} (h : OkV P t v) : Go.Am.expand P t v = v := by
 cases hb : isAggT P t with
 | false => simp only [Go.Am.expand, hb, cond_false]; exact h.leaf hb
 | true =>
  cases h with
  | bool h => simp [isAggT, h] at hb
  | int h _ => simp [isAggT, h] at hb
  | str h _ => simp [isAggT, h] at hb
  | sl h _ _ => simp [isAggT, h] at hb
  | agg _ h =>
   simp only [Go.Am.expand, hb, cond_true]
   congr 1
   refine expandFrom_self _ _ _ 0 (fun i u c hu hc => ?_) h.len (fun i => by simp)
   exact (all2_at h i u c hu hc).leaf (leaves_leaf 40 t u (List.mem_of_getElem? hu))
theorem opens_val {t : TypeId} {cs : List Value} (h : Opens P w (leaves P 40 t) cs) : ∃ s, OkV P t s ∧ VRel P om0 w (Old w) noTh s (valOf P t cs) := by
 obtain ⟨ss, h1, h2⟩ := h
 cases hb : isAggT P t with
 | true =>
  refine ⟨.agg ss, .agg hb h1, ?_⟩
  simp only [valOf, hb, if_true]
  have hl := all2_lrel h2
  exact .agg (by simp [hl.len]) (fun i v u hv hu => hl.at_ i v u hv (by simpa using hu))
 | false =>
  rw [isAgg_leaf hb 39] at h1
  obtain ⟨s, m, rfl, h3, h4⟩ := h1.cons_inv
  obtain rfl := h4.nil_inv
  obtain ⟨c, m, rfl, h5, h6⟩ := h2.cons_inv
  obtain rfl := h6.nil_inv
  exact ⟨s, h3, by simpa [valOf, hb] using h5⟩
theorem scal_cells {t : TypeId} {s : SV} {c : Value} (h1 : OkV P t s) (h2 : VRel P om0 w (Old w) noTh s c) (hb : isAggT P t = false) : c.cells = #[c] := by
 cases h1 with
 | bool h => cases h2; rfl
 | int h _ => cases h2; rfl
 | str h _ => cases h2; rfl
 | sl h _ _ => cases h2; rfl
 | agg h _ => rw [h] at hb; cases hb
theorem opens_cells {t : TypeId} {cs : List Value} (h : Opens P w (leaves P 40 t) cs) : (valOf P t cs).cells.toList = cs := by
 cases hb : isAggT P t with
 | true => simp [valOf, hb, Value.cells]
 | false =>
  obtain ⟨ss, h1, h2⟩ := h
  rw [isAgg_leaf hb 39] at h1
  obtain ⟨s, m, rfl, h3, h4⟩ := h1.cons_inv
  obtain rfl := h4.nil_inv
  obtain ⟨c, m, rfl, h5, h6⟩ := h2.cons_inv
  obtain rfl := h6.nil_inv
  simp [valOf, hb, scal_cells h3 h5 hb]
theorem opens_flds {rd : TypeId → List Value → Prop} {d k n : Nat} {cs : List Value} (hcs : cs.length = n) (hrd : ∀ t cs, flatT P d t = true → rd t cs → Opens P w (leaves P k t) cs) : ∀ (fs : List Field) (o : Nat), fieldsFlat P (flatT P d) fs o n = true →
  (∀ f ∈ fs, rd f.type ((cs.drop f.offset).take (P.cellsOf f.type))) → o ≤ n → Opens P w (fs.flatMap fun f => leaves P k f.type) (cs.drop o)
 | [], o, h, _, _ => by
  have : o = n := ofNat_beq h
  have : cs.drop o = [] := by rw [List.drop_eq_nil_iff]; omega
  rw [this]
  exact .nil
 | f :: fs, o, h, hx, ho => by
  simp only [fieldsFlat, Bool.and_eq_true] at h
  obtain ⟨⟨h1, h2⟩, h3⟩ := h
  have e1 : f.offset = o := ofNat_beq h1
  have hf := hrd _ _ h2 (hx f (by simp))
  rw [e1] at hf
  have hle : o + P.cellsOf f.type ≤ n := by
   clear hx hf hrd e1 h1 h2
   have key : ∀ (fs : List Field) (o : Nat), fieldsFlat P (flatT P d) fs o n = true → o ≤ n := by
    intro fs
    induction fs with
    | nil => intro o h; exact Nat.le_of_eq (ofNat_beq h)
    | cons g gs ih =>
     intro o h
     simp only [fieldsFlat, Bool.and_eq_true] at h
     have := ih _ h.2
     omega
   exact key fs _ h3
  have := opens_flds hcs hrd fs (o + P.cellsOf f.type) h3 (fun g hg => hx g (by simp [hg])) hle
  have e2 : cs.drop o = (cs.drop o).take (P.cellsOf f.type) ++ cs.drop (o + P.cellsOf f.type) := by
   rw [← List.drop_drop, List.take_append_drop]
  rw [e2, List.flatMap_cons]
  exact hf.append this
theorem opens_elems {t : TypeId} {k m : Nat} {cs : List Value} (hx : ∀ i, i < m → Opens P w (leaves P k t) ((cs.drop (i * P.cellsOf t)).take (P.cellsOf t))) : ∀ j, j ≤ m → cs.length = m * P.cellsOf t → Opens P w (repL j (leaves P k t)) (cs.drop ((m - j) * P.cellsOf t)) := by
 intro j
 induction j with
 | zero =>
  intro _ hl
  have : cs.drop ((m - 0) * P.cellsOf t) = [] := by rw [List.drop_eq_nil_iff]; simp [hl]
  rw [this]
  exact .nil
 | succ j ih =>
  intro hj hl
  have h1 := hx (m - (j + 1)) (by omega)
  have h2 := ih (by omega) hl
  have e2 : cs.drop ((m - (j + 1)) * P.cellsOf t) = (cs.drop ((m - (j + 1)) * P.cellsOf t)).take (P.cellsOf t) ++ cs.drop ((m - j) * P.cellsOf t) := by
   have : (m - j) * P.cellsOf t = (m - (j + 1)) * P.cellsOf t + P.cellsOf t := by
    rw [← Nat.succ_mul]; congr 1; omega
   rw [this, ← List.drop_drop, List.take_append_drop]
  rw [e2]
  exact h1.append h2
theorem addr_add (b o n : Nat) : (⟨b, o, none⟩ : Addr).add n = ⟨b, o + n, none⟩ := by
 unfold Addr.add
 split
 · rename_i h; subst h; rfl
 · rfl
theorem open_flat : ∀ (d : Nat) (t : TypeId), flatT P d t = true → d ≤ 40 → ∀ (k : Nat), d ≤ k → ∀ (n : Nat) (cs : List Value) (x : DataW H × List MemPlace), DataW.trod enc P w base spare held n t cs = some x → Opens P w (leaves P k t) cs := by
 intro d
 induction d with
 | zero => intro t h; simp [flatT] at h
 | succ d ih =>
  intro t h hd k hk n cs x hx
  obtain ⟨k, rfl⟩ : ∃ k', k = k' + 1 := ⟨k - 1, by omega⟩
  cases hu : P.underlying t with
  | none => simp [flatT, hu] at h
  | some q =>
   cases q with
   | bool =>
    obtain ⟨b, rfl, -⟩ := DataW.trod_bool hu hx
    rw [isAgg_leaf (by simp [isAggT, hu])]
    exact .one (.bool hu) .bool
   | int kd =>
    obtain ⟨z, rfl, -, hz⟩ := DataW.trod_int hu hx
    rw [isAgg_leaf (by simp [isAggT, hu])]
    exact .one (.int hu hz) .int
   | string =>
    obtain ⟨s, rfl, -, hz⟩ := DataW.trod_string hu hx
    rw [isAgg_leaf (by simp [isAggT, hu])]
    exact .one (.str hu (by simpa using hz)) (.str rfl)
   | slice e =>
    simp only [flatT, hu, Bool.and_eq_true] at h
    obtain ⟨⟨h1, h2⟩, h3⟩ := h
    have hpos : 0 < P.cellsOf e := by simpa using h2
    rw [isAgg_leaf (by simp [isAggT, hu])]
    rcases Go.Deep.open_slice hu hx with ⟨rfl, -⟩ | ⟨a, len, cap, m, n', D, Pl, rfl, hb, hl, hm, hmm, -, hel⟩
    · exact .one (s := .psl e []) (.sl hu (by simp) (fun v hv => by cases hv)) (.psl (es := []) (fun _ => undef) rfl ⟨Nat.le_refl _, fun _ => rfl⟩ (fun v hv => by cases hv) (fun i v h => by simp at h) (fun hn => absurd rfl hn))
    · have hlm : len ≤ m := by rw [hmm]; split <;> omega
      have key : ∀ i, i < len → ∃ p : SV × List Value, OkV P e p.1 ∧ w.cells? base (a.add (i * P.cellsOf e)) (P.cellsOf e) = some p.2 ∧ VRel P om0 w (Old w) noTh p.1 (valOf P e p.2) ∧ (valOf P e p.2).cells.toList = p.2 := by
       intro i hi
       obtain ⟨cs', c1, c2⟩ := hel i (by omega)
       have ho := ih e h3 (by omega) 40 (by omega) _ _ _ c2
       obtain ⟨s, s1, s2⟩ := opens_val ho
       exact ⟨(s, cs'), s1, c1, s2, opens_cells ho⟩
      obtain ⟨F, hF⟩ := @Go.Deep.choose_lt (SV × List Value) ⟨(.junk, [])⟩ len _ key
      refine .one (s := .psl e ((List.range len).map fun i => (F i).1)) (.sl hu (by simp; omega) (fun v hv => ?_)) ?_
      · simp only [List.mem_map, List.mem_range] at hv
        obtain ⟨i, hi, rfl⟩ := hv
        exact (hF i hi).1
      · refine .psl (fun i => valOf P e (F i).2) (by simp) ⟨hl, fun h => by cases h⟩ (fun v hv => ?_) (fun i v hv => ?_) (fun hn => ?_)
        · simp only [List.mem_map, List.mem_range] at hv
          obtain ⟨i, hi, rfl⟩ := hv
          exact (hF i hi).1.expand
        · simp only [List.getElem?_map, Option.map_eq_some_iff] at hv
          obtain ⟨j, hj, rfl⟩ := hv
          obtain ⟨hi, hij⟩ := List.getElem?_eq_some_iff.1 hj
          simp only [List.length_range] at hi
          simp only [List.getElem_range] at hij
          subst hij
          exact (hF i hi).2.2.1
        · have h0 := hF 0 (by omega)
          obtain ⟨-, hcl, hca⟩ := World.cells?_some h0.2.1
          have hc0 := hca 0 hpos
          have hc1 : ∃ c, (F 0).2[0]? = some c := ⟨(F 0).2[0]'(by omega), by simp⟩
          obtain ⟨c, hc1⟩ := hc1
          rw [hc1] at hc0
          have hsp : a.spot = none ∧ a.block < w.heap.size := by
           simp only [World.cell?, Addr.add, Nat.zero_mul, Nat.add_zero] at hc0
           split at hc0
           · rename_i cc q1 q2 hh
             constructor
             · cases hs : a.spot with
               | none => rfl
               | some z => simp [hs] at hc0
             · obtain ⟨hlt, _⟩ := Array.getElem?_eq_some_iff.1 hh
               exact hlt
           · cases hc0
          obtain ⟨ab, ao, as⟩ := a
          obtain ⟨hs0, hlt⟩ := hsp
          simp only at hs0 hlt
          subst hs0
          refine ⟨ab, ao, rfl, hlt, fun i hi => ?_⟩
          obtain ⟨-, b1, b2⟩ := World.cells?_some (hF i hi).2.1
          have e1 := (hF i hi).2.2.2
          have hsz : (valOf P e (F i).2).cells.size = P.cellsOf e := by
           have := congrArg List.length e1
           simpa [b1] using this
          refine ⟨hsz, fun dd c hdc => ?_⟩
          have hdc' : (F i).2[dd]? = some c := by
           rw [← e1]; simpa using hdc
          have hlt2 : dd < P.cellsOf e := by
           rw [← b1]
           exact (List.getElem?_eq_some_iff.1 hdc').1
          have := b2 dd hlt2
          rw [hdc'] at this
          rw [← this]
          rw [addr_add, addr_add]
   | struct fs =>
    simp only [flatT, hu] at h
    obtain ⟨xs, m, rfl, -, hl, hxl, hat⟩ := DataW.trod_struct hu hx
    have e1 : leaves P (k + 1) t = fs.toList.flatMap fun f => leaves P k f.type := by simp [leaves, hu]
    rw [e1]
    have := opens_flds (w := w) (rd := fun t cs => ∃ y, DataW.trod enc P w base spare held m t cs = some y) hl (fun t cs hf ⟨y, hy⟩ => ih t hf (by omega) k (by omega) m cs y hy) fs.toList 0 h (fun f hf => by
     obtain ⟨i, hi, rfl⟩ := List.mem_iff_getElem.1 hf
     have hi' : i < fs.size := by simpa using hi
     refine ⟨xs[i]'(by omega), ?_⟩
     rw [hat i _ (by simp [hi'])]
     simp) (Nat.zero_le _)
    simpa using this
   | array m e =>
    simp only [flatT, hu, Bool.and_eq_true] at h
    obtain ⟨h1, h2⟩ := h
    have h1 : m * P.cellsOf e = P.cellsOf t := ofNat_beq h1
    obtain ⟨xs, n', rfl, -, hl, hxl, hat⟩ := DataW.trod_array hu hx
    have e1 : leaves P (k + 1) t = repL m (leaves P k e) := by simp [leaves, hu]
    rw [e1]
    have := opens_elems (P := P) (w := w) (t := e) (k := k) (m := m) (cs := cs) (fun i hi => ih e h2 (by omega) k (by omega) n' _ (xs[i]'(by omega)) (by rw [hat i hi]; simp)) m (Nat.le_refl _) (by rw [hl, h1])
    simpa using this
   | _ => simp [flatT, hu] at h
theorem open_data {r : Reach} {b0 : Nat} {t : TypeId} {v : Value} {dt : DataW H} {p : List MemPlace} (hf : flatT P 40 t = true) (hv : Value.okWide P w r b0 t v) (h : DataW.Trod enc P w base spare held t v dt p) : ∃ s, OkV P t s ∧ VRel P om0 w (Old w) noTh s v := by
 obtain ⟨n, hn⟩ := h
 have ho := open_flat 40 t hf (Nat.le_refl _) 40 (Nat.le_refl _) n _ _ hn
 obtain ⟨s, h1, h2⟩ := opens_val ho
 refine ⟨s, h1, ?_⟩
 have e : valOf P t v.cells.toList = v := by
  cases hb : isAggT P t with
  | true =>
   have : ∃ cs, v = .agg cs := by
    unfold isAggT at hb
    unfold Value.okWide at hv
    split at hb
    · rename_i hu; rw [hu] at hv; exact ⟨hv.choose, hv.choose_spec.1⟩
    · rename_i hu; rw [hu] at hv; exact ⟨hv.choose, hv.choose_spec.1⟩
    · cases hb
   obtain ⟨cs, rfl⟩ := this
   simp [valOf, hb, Value.cells]
  | false =>
   obtain ⟨ss, g1, g2⟩ := ho
   rw [isAgg_leaf hb 39] at g1
   obtain ⟨s, m, rfl, h3, h4⟩ := g1.cons_inv
   obtain rfl := h4.nil_inv
   obtain ⟨c, m, hc, h5, h6⟩ := g2.cons_inv
   obtain rfl := h6.nil_inv
   have hcc := scal_cells h3 h5 hb
   rw [hc]
   simp only [valOf, hb]
   show c = v
   cases v with
   | agg cs =>
    have : cs.toList = [c] := hc
    exfalso
    -- a value of a type of one cell is no row
    unfold isAggT at hb
    unfold Value.okWide at hv
    split at hb
    · cases hb
    · cases hb
    · rename_i u1 u2
      have hv' : Cell.okWide P w r b0 t (.agg cs) := by
       revert hv
       cases hu : P.underlying t with
       | none => exact id
       | some q => cases q <;> first | exact id | exact absurd hu (u1 _) | exact absurd hu (u2 _ _)
      cases h3 with
      | bool hu => simp [Cell.okWide, Cell.ok, hu] at hv'
      | int hu _ => simp [Cell.okWide, Cell.ok, hu] at hv'
      | str hu _ => simp [Cell.okWide, Cell.ok, hu] at hv'
      | sl hu _ _ => simp [Cell.okWide, Cell.ok, hu] at hv'
      | agg hu _ => simp [isAggT] at hu
   | _ => simp [Value.cells] at hc; exact hc.symm
 rw [e] at h2
 exact h2
end
end Go.Am
namespace Go.Am
section
variable {P : Program}
theorem OkV.int_inv {t : TypeId} {v : SV} {k : IntKind} (h : OkV P t v) (hu : P.underlying t = some (.int k)) : ∃ n, v = .int k n ∧ (Lit.int k n).wf = true := by
 cases h with
 | bool h => rw [hu] at h; cases h
 | int h w => rw [hu] at h; cases h; exact ⟨_, rfl, w⟩
 | str h _ => rw [hu] at h; cases h
 | sl h _ _ => rw [hu] at h; cases h
 | agg h _ => simp [isAggT, hu] at h
theorem OkV.bool_inv {t : TypeId} {v : SV} (h : OkV P t v) (hu : P.underlying t = some .bool) : ∃ b, v = .bool b := by
 cases h with
 | bool h => exact ⟨_, rfl⟩
 | int h w => rw [hu] at h; cases h
 | str h _ => rw [hu] at h; cases h
 | sl h _ _ => rw [hu] at h; cases h
 | agg h _ => simp [isAggT, hu] at h
end
end Go.Am
