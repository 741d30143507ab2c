/- The abstract machine: a function's body tells of its calls. -/
import Derived.Test.YtbeolnccdhjjeaaAmExec5
namespace Go.Am
variable {P : Program} {ω : Nat → Value}

theorem reachNew_spec {h : Tr Chunk} {m : Nat} : ∀ (d : Nat) (todo acc ns : List Nat), reachNew h m d todo acc = some ns → acc.Nodup → (∀ x ∈ acc, m ≤ x ∧ ∃ c, h.get x = some c) →
    (∀ x ∈ acc, ∀ c, h.get x = some c → ∀ z ∈ namesC c, z < m ∨ z ∈ acc ∨ z ∈ todo) →
    ns.Nodup ∧ (∀ x ∈ ns, m ≤ x ∧ ∃ c, h.get x = some c) ∧ (∀ x ∈ ns, ∀ c, h.get x = some c → ∀ z ∈ namesC c, z < m ∨ z ∈ ns) ∧ (∀ z ∈ todo, z < m ∨ z ∈ ns) ∧ (∀ z ∈ acc, z ∈ ns)
  | 0, _, _, _, h, _, _, _ => by simp [reachNew] at h
  | d + 1, [], acc, ns, h, h1, h2, h3 => by
    simp only [reachNew, Option.some.injEq] at h
    subst h
    refine ⟨h1, h2, fun x hx c hc z hz => ?_, (fun z hz => by cases hz), fun z hz => hz⟩
    rcases h3 x hx c hc z hz with h4 | h4 | h4
    · exact .inl h4
    · exact .inr h4
    · cases h4
  | d + 1, x :: todo, acc, ns, hh, h1, h2, h3 => by
    simp only [reachNew] at hh
    cases hb : Nat.blt x m || memN x acc with
    | true =>
      rw [hb] at hh
      simp only [cond_true] at hh
      have hx : x < m ∨ x ∈ acc := by
        simp only [Bool.or_eq_true] at hb
        rcases hb with hb | hb
        · left; rwa [Nat.blt_eq] at hb
        · right; exact (memN_iff _ _).1 hb
      obtain ⟨g1, g2, g3, g4, g5⟩ := reachNew_spec d todo acc ns hh h1 h2 (fun y hy c hc z hz => by
        rcases h3 y hy c hc z hz with h4 | h4 | h4
        · exact .inl h4
        · exact .inr (.inl h4)
        · rcases List.mem_cons.1 h4 with rfl | h4
          · rcases hx with hx | hx
            · exact .inl hx
            · exact .inr (.inl hx)
          · exact .inr (.inr h4))
      refine ⟨g1, g2, g3, fun z hz => ?_, g5⟩
      rcases List.mem_cons.1 hz with rfl | hz
      · rcases hx with hx | hx
        · exact .inl hx
        · exact .inr (g5 _ hx)
      · exact g4 z hz
    | false =>
      rw [hb] at hh
      simp only [cond_false] at hh
      simp only [Bool.or_eq_false_iff] at hb
      have hxm : m ≤ x := by
        rcases Nat.lt_or_ge x m with h4 | h4
        · rw [← Nat.blt_eq] at h4; rw [h4] at hb; exact absurd hb.1 (by simp)
        · exact h4
      have hxa : x ∉ acc := fun h4 => by rw [(memN_iff _ _).2 h4] at hb; exact absurd hb.2 (by simp)
      cases hx : h.get x with
      | none => simp [hx] at hh
      | some c =>
        simp only [hx] at hh
        obtain ⟨g1, g2, g3, g4, g5⟩ := reachNew_spec d (namesC c ++ todo) (acc ++ [x]) ns hh
          (by rw [List.nodup_append]; exact ⟨h1, by simp, fun a ha b hb => by simp at hb; subst hb; intro e; subst e; exact hxa ha⟩)
          (fun y hy => by
            rcases List.mem_append.1 hy with hy | hy
            · exact h2 y hy
            · simp at hy; subst hy; exact ⟨hxm, c, hx⟩)
          (fun y hy c' hc' z hz => by
            rcases List.mem_append.1 hy with hy | hy
            · rcases h3 y hy c' hc' z hz with h4 | h4 | h4
              · exact .inl h4
              · exact .inr (.inl (by simp [h4]))
              · rcases List.mem_cons.1 h4 with rfl | h4
                · exact .inr (.inl (by simp))
                · exact .inr (.inr (by simp [h4]))
            · simp at hy; subst hy
              rw [hx] at hc'
              cases hc'
              exact .inr (.inr (by simp [hz])))
        refine ⟨g1, g2, g3, fun z hz => ?_, fun z hz => g5 z (by simp [hz])⟩
        rcases List.mem_cons.1 hz with rfl | hz
        · exact .inr (g5 _ (by simp))
        · exact g4 z (by simp [hz])

theorem dirtyNames_mem {h : Tr Chunk} : ∀ {l : List Nat} {x : Nat} {c : Chunk}, x ∈ l → h.get x = some c → ∀ z ∈ namesC c, z ∈ dirtyNames h l
  | [], _, _, hx, _, _, _ => by cases hx
  | y :: l, x, c, hx, hc, z, hz => by
    simp only [dirtyNames]
    rcases List.mem_cons.1 hx with rfl | hx
    · rw [hc]; simp [hz]
    · have := dirtyNames_mem hx hc z hz
      cases h.get y with
      | none => exact this
      | some d => simp [this]

theorem outOld_keys (h : Tr Chunk) (f : Nat → Nat) : ∀ (l : List Nat), (outOld h f l).map (·.1) = l
  | [] => rfl
  | x :: l => by simp [outOld, outOld_keys h f l]
theorem outNew_keys (h : Tr Chunk) (f : Nat → Nat) : ∀ (l : List Nat), (∀ x ∈ l, ∃ c, h.get x = some c) → (outNew h f l).map (·.1) = l.map f
  | [], _ => rfl
  | x :: l, hl => by
    obtain ⟨c, hc⟩ := hl x (by simp)
    simp [outNew, hc, outNew_keys h f l (fun y hy => hl y (by simp [hy]))]
theorem updF_append (a b : List (Nat × Option Chunk)) (h : HpF) : updF (a ++ b) h = updF b (updF a h) := by
  induction a generalizing h with
  | nil => rfl
  | cons p a ih => obtain ⟨x, c⟩ := p; simp only [List.cons_append, updF]; exact ih _
theorem updF_outOld {h : Tr Chunk} {f : Nat → Nat} : ∀ {l : List Nat} {h0 : HpF} {y : Nat}, y ∈ l → updF (outOld h f l) h0 y = (h.get y).map (renC f)
  | [], _, _, hy => by cases hy
  | x :: l, h0, y, hy => by
    simp only [outOld, updF]
    by_cases hyl : y ∈ l
    · exact updF_outOld hyl
    · have : y = x := by rcases List.mem_cons.1 hy with h1 | h1; exact h1; exact absurd h1 hyl
      subst this
      rw [updF_not (by rw [outOld_keys]; exact hyl)]
      simp only [if_true]
      cases h.get y <;> rfl
theorem updF_outNew {h : Tr Chunk} {f : Nat → Nat}   : ∀ {l : List Nat} {h0 : HpF} {x : Nat}, (∀ z ∈ l, ∃ c, h.get z = some c) → (∀ a ∈ l, ∀ b ∈ l, f a = f b → a = b) → x ∈ l → updF (outNew h f l) h0 (f x) = (h.get x).map (renC f)
  | [], _, _, _, _, hx => by cases hx
  | z :: l, h0, x, hl, hi, hx => by
    obtain ⟨c, hc⟩ := hl z (by simp)
    simp only [outNew, hc, updF]
    by_cases hxl : x ∈ l
    · exact updF_outNew (fun y hy => hl y (by simp [hy])) (fun a ha b hb => hi a (by simp [ha]) b (by simp [hb])) hxl
    · have : x = z := by rcases List.mem_cons.1 hx with h1 | h1; exact h1; exact absurd h1 hxl
      subst this
      rw [updF_not]
      · simp [hc]
      · rw [outNew_keys _ _ _ (fun y hy => hl y (by simp [hy]))]
        intro hm
        obtain ⟨b, hb, e⟩ := List.mem_map.1 hm
        have := hi b (by simp [hb]) x (by simp) e
        subst this
        exact hxl hb

theorem canonB_spec : ∀ (H : HpL) (i : Nat), canonB H i = true → ∀ (j : Nat) p, H[j]? = some p → p.1 = i + j
  | [], _, _, _, _, h => by simp at h
  | (x, c) :: l, i, hc, j, p, h => by
    simp only [canonB, Bool.and_eq_true] at hc
    cases j with
    | zero => simp at h; subst h; simpa using Nat.eq_of_beq_eq_true hc.1
    | succ j =>
      have := canonB_spec l (i + 1) hc.2 j p (by simpa using h)
      omega
theorem HpL_get_some : ∀ (H : HpL) (x : Nat) (c : Chunk), H.get x = some c → (x, c) ∈ H
  | [], _, _, h => by cases h
  | (y, d) :: l, x, c, h => by
    simp only [HpL.get] at h
    cases hb : Nat.beq y x with
    | true => rw [hb] at h; simp at h; subst h; rw [Nat.eq_of_beq_eq_true hb]; simp
    | false => rw [hb] at h; have := HpL_get_some l x c h; simp [this]
theorem canon_lt {H : HpL} (hc : canonB H 0 = true) {x : Nat} {c : Chunk} (h : H.get x = some c) : x < H.length := by
  have hm := HpL_get_some H x c h
  obtain ⟨j, hj, e⟩ := List.getElem_of_mem hm
  have := canonB_spec H 0 hc j _ (by rw [List.getElem?_eq_getElem hj, e])
  simp at this
  omega
theorem closedB_spec {m : Nat} : ∀ (H : HpL), closedB m H = true → ∀ p ∈ H, ∀ z ∈ namesC p.2, z < m
  | [], _, _, h => by cases h
  | (y, d) :: l, h, p, hp => by
    simp only [closedB, Bool.and_eq_true] at h
    rcases List.mem_cons.1 hp with rfl | hp
    · exact lowB_spec _ h.1
    · exact closedB_spec l h.2 p hp

theorem heapTr_get : ∀ (H : HpL) (i : Nat) (t : Tr Chunk) (y : Nat), canonB H i = true → i + H.length ≤ 1000000 → (heapTr H t).get y = if i ≤ y ∧ y < i + H.length then (H[y - i]?).map (·.2) else t.get y
  | [], i, t, y, _, _ => by
    simp only [heapTr, List.length_nil, Nat.add_zero]
    rw [if_neg (by omega)]
  | (x, c) :: l, i, t, y, hc, h => by
    simp only [canonB, Bool.and_eq_true] at hc
    have hx : x = i := Nat.eq_of_beq_eq_true hc.1
    subst hx
    simp only [heapTr, List.length_cons] at h ⊢
    rw [heapTr_get l (x + 1) _ y hc.2 (by omega), Tr.get_set 20 t x (some c) y (by omega)]
    by_cases hj : y = x
    · subst hj
      rw [if_neg (by omega), if_pos rfl, if_pos (by omega)]
      simp
    · by_cases h2 : x + 1 ≤ y ∧ y < x + 1 + l.length
      · rw [if_pos h2, if_pos (by omega)]
        have : y - x = (y - (x + 1)) + 1 := by omega
        rw [this]; simp
      · rw [if_neg h2, if_neg hj, if_neg (by omega)]
theorem HpL_get_canon : ∀ (H : HpL) (i y : Nat), canonB H i = true → H.get y = if i ≤ y ∧ y < i + H.length then (H[y - i]?).map (·.2) else none
  | [], i, y, _ => by
    simp only [HpL.get, List.length_nil, Nat.add_zero]
    rw [if_neg (by omega)]
  | (x, c) :: l, i, y, hc => by
    simp only [canonB, Bool.and_eq_true] at hc
    have hx : x = i := Nat.eq_of_beq_eq_true hc.1
    subst hx
    simp only [HpL.get, List.length_cons]
    by_cases hj : x = y
    · subst hj
      rw [nb_t rfl, if_pos (by omega)]
      simp
    · rw [nb_f hj]
      simp only [cond_false]
      rw [HpL_get_canon l (x + 1) y hc.2]
      by_cases h2 : x + 1 ≤ y ∧ y < x + 1 + l.length
      · rw [if_pos h2, if_pos (by omega)]
        have : y - x = (y - (x + 1)) + 1 := by omega
        rw [this]; simp
      · rw [if_neg h2, if_neg (by omega)]
theorem heapTr_init {H : HpL} (hc : canonB H 0 = true) (h : H.length ≤ 1000000) : (heapTr H .lf).get = H.get := by
  funext y
  rw [heapTr_get H 0 .lf y hc (by omega), HpL_get_canon H 0 y hc]
  rfl

mutual
theorem renS_fix (f : Nat → Nat) : ∀ (v : SV), (∀ x ∈ namesS v, f x = x) → renS f v = v
  | .ptr x o, h => by simp only [renS]; rw [h x (by simp [namesS])]
  | .sl x sz o l, h => by simp only [renS]; rw [h x (by simp [namesS])]
  | .qs x sz o l, h => by simp only [renS]; rw [h x (by simp [namesS])]
  | .qp x sz o l, h => by simp only [renS]; rw [h x (by simp [namesS])]
  | .mp x, h => by simp only [renS]; rw [h x (by simp [namesS])]
  | .yl x, h => by simp only [renS]; rw [h x (by simp [namesS])]
  | .fn k a b, h => by
    simp only [namesS, List.mem_append] at h
    simp only [renS]
    rw [renL_fix f a (fun x hx => h x (.inl hx)), renL_fix f b (fun x hx => h x (.inr hx))]
  | .iface t v, h => by simp only [renS]; rw [renS_fix f v (by simpa [namesS] using h)]
  | .agg cs, h => by simp only [renS]; rw [renL_fix f cs (by simpa [namesS] using h)]
  | .tup cs, h => by simp only [renS]; rw [renL_fix f cs (by simpa [namesS] using h)]
  | .junk, _ | .pnn _ _, _ | .opq _, _ | .emp, _ | .bool _, _ | .int _ _, _ | .str _, _ | .nilp, _ | .pel _ _, _ | .nils, _ | .psl _ _, _ | .nilm, _ | .nilf, _ | .nili, _ => rfl
theorem renL_fix (f : Nat → Nat) : ∀ (vs : List SV), (∀ x ∈ namesL vs, f x = x) → renL f vs = vs
  | [], _ => rfl
  | v :: vs, h => by
    simp only [namesL, List.mem_append] at h
    simp only [renL]
    rw [renS_fix f v (fun x hx => h x (.inl hx)), renL_fix f vs (fun x hx => h x (.inr hx))]
end
theorem renC_fix (f : Nat → Nat) (c : Chunk) (h : ∀ x ∈ namesC c, f x = x) : renC f c = c := by
  cases c with
  | cells T vs => simp only [renC]; rw [renL_fix f vs h]
  | seq e es => rfl
  | loopr st vs ps asg bdy => simp only [renC]; rw [renL_fix f vs h]
  | mpc ks vs => simp only [renC]; rw [renL_fix f ks (fun x hx => h x (List.mem_append.2 (.inl hx))), renL_fix f vs (fun x hx => h x (List.mem_append.2 (.inr hx)))]

/-- What is handed out, renamed. -/
theorem finish_gen {H : HpL} (c1 : canonB H 0 = true) (c2 : closedB H.length H = true) {θ : Th} {Im : Nat → Prop} {w : World} (hfr : ∀ x, H.length ≤ x → θ x = none) {s2 : St} (hm2 : s2.m = H.length) (hsame : ∀ x, x < H.length → s2.hp.get x = H.get x ∨ x ∈ s2.dirty)
    (hdl : ∀ x ∈ s2.dirty, x < H.length) {vv : SV} {ns : List Nat} (hre : reachNew s2.hp s2.m 2000 (namesS vv ++ dirtyNames s2.hp s2.dirty) [] = some ns) {w' : World} {Im' : Nat → Prop} {θ' : Th} (hH2 : HRel P ω w' Im' θ' s2.hp.get)
    (hext : Ext (fun x => H.length ≤ x) H.get w Im θ s2.hp.get w' Im' θ') {u : Value} (hvu : VRel P ω w' Im' θ' vv u) :
    ∃ θ3, Ext (fun x => H.length ≤ x) H.get w Im θ (updF (outOld s2.hp (outName ns H.length) s2.dirty ++ outNew s2.hp (outName ns H.length) ns) H.get) w' Im' θ3 ∧ VRel P ω w' Im' θ3 (renS (outName ns H.length) vv) u ∧
      HRel P ω w' Im' θ3 (updF (outOld s2.hp (outName ns H.length) s2.dirty ++ outNew s2.hp (outName ns H.length) ns) H.get) ∧
      ∀ y c b N, updF (outOld s2.hp (outName ns H.length) s2.dirty ++ outNew s2.hp (outName ns H.length) ns) H.get y = some c → θ3 y = some (b, N) → ∃ x c0, s2.hp.get x = some c0 ∧ θ' x = some (b, N) := by
  obtain ⟨n1, n2, n3, n4, -⟩ := reachNew_spec _ _ _ _ hre List.nodup_nil (fun x hx => by cases hx) (fun x hx => by cases hx)
  rw [hm2] at n2 n4
  simp only [hm2] at n3
  -- the names behind the call
  let θ2 : Th := fun y => if y < H.length then θ' y else match ns[y - H.length]? with
    | some x => θ' x
    | none => none
  generalize hfd : outName ns H.length = f
  have hf1 : ∀ x, x < H.length → f x = x := by
    intro x hx
    rw [← hfd]
    have : Nat.blt x H.length = true := by rw [Nat.blt_eq]; exact hx
    simp [outName, this]
  have hf2 : ∀ x, x ∈ ns → f x = H.length + idxN ns x := by
    intro x hx
    rw [← hfd]
    have : Nat.blt x H.length = false := by
      cases hh : Nat.blt x H.length with
      | false => rfl
      | true => rw [Nat.blt_eq] at hh; have := (n2 x hx).1; omega
    simp [outName, this]
  have hθ2 : ∀ x, (x < H.length ∨ x ∈ ns) → θ2 (f x) = θ' x := by
    intro x hx
    by_cases hlt : x < H.length
    · rw [hf1 x hlt]; simp [θ2, hlt]
    · have hxn : x ∈ ns := by rcases hx with h | h; exact absurd h hlt; exact h
      rw [hf2 x hxn]
      have hs := (idxN_spec ns x hxn).2
      have h1 : ¬ H.length + idxN ns x < H.length := by omega
      have h2 : H.length + idxN ns x - H.length = idxN ns x := by omega
      simp only [θ2, if_neg h1, h2, hs]
  have hlow : ∀ y, y < H.length → θ2 y = θ' y := fun y hy => by simp [θ2, hy]
  have hcl : ∀ y c, H.get y = some c → ∀ z ∈ namesC c, z < H.length := fun y c hy => closedB_spec H c2 (y, c) (HpL_get_some H y c hy)
  generalize hU : outOld s2.hp f s2.dirty ++ outNew s2.hp f ns = U
  -- what the heap holds
  have hUget : ∀ y c, updF U H.get y = some c → ∃ x c0, (x < H.length ∨ x ∈ ns) ∧ f x = y ∧ s2.hp.get x = some c0 ∧ c = renC f c0 ∧ ∀ z ∈ namesC c0, z < H.length ∨ z ∈ ns := by
    intro y c hy
    rw [← hU, updF_append] at hy
    by_cases hyk : y ∈ (outNew s2.hp f ns).map (·.1)
    · rw [outNew_keys _ _ _ (fun x hx => (n2 x hx).2)] at hyk
      obtain ⟨x, hx, rfl⟩ := List.mem_map.1 hyk
      rw [updF_outNew (fun z hz => (n2 z hz).2) (fun a ha b hb e => by
        rw [hf2 a ha, hf2 b hb] at e
        have e1 := (idxN_spec ns a ha).2
        have e2 := (idxN_spec ns b hb).2
        have : idxN ns a = idxN ns b := by omega
        rw [this, e2] at e1
        exact (Option.some.inj e1).symm) hx, Option.map_eq_some_iff] at hy
      obtain ⟨c0, hc0, rfl⟩ := hy
      exact ⟨x, c0, .inr hx, rfl, hc0, rfl, n3 x hx c0 hc0⟩
    · rw [updF_not hyk] at hy
      by_cases hyd : y ∈ s2.dirty
      · rw [updF_outOld hyd, Option.map_eq_some_iff] at hy
        obtain ⟨c0, hc0, rfl⟩ := hy
        have hyl := hdl y hyd
        refine ⟨y, c0, .inl hyl, hf1 y hyl, hc0, rfl, fun z hz => n4 z ?_⟩
        exact List.mem_append.2 (.inr (dirtyNames_mem hyd hc0 z hz))
      · rw [updF_not (by rw [outOld_keys]; exact hyd)] at hy
        have hyl := canon_lt c1 hy
        have hs2y : s2.hp.get y = some c := by
          rcases hsame y hyl with h | h
          · rw [h, hy]
          · exact absurd h hyd
        have hcz := hcl y c hy
        refine ⟨y, c, .inl hyl, hf1 y hyl, hs2y, ?_, fun z hz => .inl (hcz z hz)⟩
        exact (renC_fix f c (fun z hz => hf1 z (hcz z hz))).symm
  refine ⟨θ2, ?_, ?_, ?_, ?_⟩
  · refine ⟨?_, ?_, hext.imUp, hext.size, hext.keep, hext.imNew, ?_, hext.os, hext.output, hext.tape⟩
    · intro x hx
      rw [hlow x (by omega)]
      exact hext.thOld x hx
    · intro x p hp
      have hxl : x < H.length := by
        rcases Nat.lt_or_ge x H.length with h | h
        · exact h
        · rw [hfr x h] at hp; cases hp
      rw [hlow x hxl]
      exact hext.thUp x p hp
    · intro y c b N hy hb
      obtain ⟨x, c0, hx, rfl, hc0, -, -⟩ := hUget y c hy
      rw [hθ2 x hx] at hb
      exact hext.ownNew x c0 b N hc0 hb
  · refine hvu.ren f (fun x hx p hp => ?_)
    rw [hθ2 x (n4 x (List.mem_append.2 (.inl hx)))]
    exact hp
  · refine ⟨?_, ?_, ?_, hH2.im⟩
    · intro y c hy
      obtain ⟨x, c0, hx, rfl, hc0, rfl, hz⟩ := hUget y c hy
      exact (hH2.at_ x c0 hc0).ren f (fun z hzm p hp => by rw [hθ2 z (hz z hzm)]; exact hp) (hθ2 x hx)
    · intro y y' c c' b N N2 hy hy' hb hb'
      obtain ⟨x, c0, hx, rfl, hc0, -, -⟩ := hUget y c hy
      obtain ⟨x', c0', hx', rfl, hc0', -, -⟩ := hUget y' c' hy'
      rw [hθ2 x hx] at hb
      rw [hθ2 x' hx'] at hb'
      rw [hH2.inj x x' c0 c0' b N N2 hc0 hc0' hb hb']
    · intro y c b N hy hb
      obtain ⟨x, c0, hx, rfl, hc0, -, -⟩ := hUget y c hy
      rw [hθ2 x hx] at hb
      exact hH2.own x c0 b N hc0 hb
  · intro y c b N hy hb
    obtain ⟨x, c0, hx, rfl, hc0, -, -⟩ := hUget y c hy
    rw [hθ2 x hx] at hb
    exact ⟨x, c0, hc0, hb⟩

/-- A function's body tells of its calls. -/
theorem body_valid {κ : Nat → Option CSumm} (hκ : KOk P κ) (hmix : P.follows .mixedOrders = true) {f : FuncId} {fn : Func} (hf : P.funcs[f]? = some fn) {ι : Nat → Bool} {sp : Bool} {fuel : Nat} : ValidC P f (bodyC P κ ι sp fuel fn) := by
  intro args H v ups hrun _ ω θ Im w us hargs hH hfr
  unfold bodyC at hrun
  cases hb : fn.body with
  | none => rw [hb] at hrun; simp [crun] at hrun
  | some c =>
    rw [hb] at hrun
    simp only [] at hrun
    cases hc : canonB H 0 && closedB H.length H && Nat.ble args.length fn.ntmps && Nat.blt fn.ntmps 16000 && Nat.blt H.length 1000000 with
    | false => rw [hc] at hrun; simp [crun] at hrun
    | true =>
      rw [hc] at hrun
      simp only [cond_true] at hrun
      simp only [Bool.and_eq_true] at hc
      obtain ⟨⟨⟨⟨c1, c2⟩, c3⟩, c4⟩, c5⟩ := hc
      have hal : args.length ≤ fn.ntmps := by rwa [Nat.ble_eq] at c3
      have hnt : fn.ntmps < 16000 := by rwa [Nat.blt_eq] at c4
      have hHl : H.length < 1000000 := by rwa [Nat.blt_eq] at c5
      have hhp : (initSt sp fn args H).hp.get = H.get := heapTr_init c1 (by omega)
      have hs0 : StOk { initSt sp fn args H with tm := .lf, size := 0 } := by
        refine ⟨by show 0 < 16000; omega, hHl, fun t _ => rfl, ?_, Nat.le_refl _⟩
        intro x c hx
        have hx' : (initSt sp fn args H).hp.get x = some c := hx
        rw [hhp] at hx'
        exact canon_lt c1 hx'
      have hst : StOk (initSt sp fn args H) := enter_ok hs0 hal hnt
      obtain ⟨e, s2, hs2, hcomes, hfin⟩ := exec_ok (den := crun) rfl hκ hmix fuel c _ _ _ hst hrun
      have hm2 : s2.m = H.length := hcomes.later.m
      have he : ∀ id, e ≠ .exit id := by
        rintro id rfl
        simp [crun] at hfin
      have hfin' : crun (finishC P fn s2) = some (v, ups) := by
        cases e with
        | exit id => exact absurd rfl (he id)
        | normal => exact hfin
        | ret => exact hfin
      unfold finishC at hfin'
      cases hrs : resultsS P s2 fn.results.toList with
      | none => rw [hrs] at hfin'; simp [crun] at hfin'
      | some vs =>
        rw [hrs] at hfin'
        simp only [] at hfin'
        cases hre : reachNew s2.hp s2.m 2000 (namesS (oneOrTup vs) ++ dirtyNames s2.hp s2.dirty) [] with
        | none => rw [hre] at hfin'; simp [crun] at hfin'
        | some ns =>
            rw [hre] at hfin'
            simp only [crun, Option.some.injEq, Prod.mk.injEq] at hfin'
            rw [hm2] at hfin'
            obtain ⟨rfl, rfl⟩ := hfin'
            have hfr0 : Fr (initSt sp fn args H).nx θ (initSt sp fn args H).hp.get := by
              intro x hx
              have hx' : H.length ≤ x := hx
              refine ⟨hfr x hx', ?_⟩
              rw [hhp]
              cases hg : H.get x with
              | none => rfl
              | some c => have := canon_lt c1 hg; omega
            have sim0 := enter_sim (P := P) hs0 (args := args) (us := us) hal hnt (w := w) (Im := Im) (θ := θ) (by show HRel P ω w Im θ (initSt sp fn args H).hp.get; rw [hhp]; exact hH) hfr0 hargs
            refine (callsIn_wide (n := 0)).1 (body_calls (ρ := none) hf hb he hcomes sim0 hrs (fun u w' Im' θ' hH2 _ hE hvu => ?_))
            have hsame : ∀ x, x < H.length → s2.hp.get x = H.get x ∨ x ∈ s2.dirty := by
              intro x hx
              have := hcomes.later.same x hx
              rwa [hhp] at this
            have hdl : ∀ x ∈ s2.dirty, x < H.length := by
              intro x hx
              rcases hcomes.later.low x hx with h | h
              · cases h
              · exact h
            have hext : Ext (fun x => H.length ≤ x) H.get w Im θ s2.hp.get w' Im' θ' := by
              rw [← hhp]; exact hE
            obtain ⟨θ3, g1, g2, g3, -⟩ := finish_gen c1 c2 hfr hm2 hsame hdl hre hH2 hext hvu
            exact ⟨u, θ3, Im', rfl, g1, g2, g3⟩

end Go.Am
