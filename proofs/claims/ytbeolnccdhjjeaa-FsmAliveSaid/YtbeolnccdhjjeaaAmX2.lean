/- The abstract machine: the elements of lists. -/
import Derived.Test.YtbeolnccdhjjeaaAmX1
namespace Go.Am
variable {P : Program} {ω : Nat → Value}

/- Cells, element by element. -/
def flat (us : Nat → Value) : Nat → List Value
  | 0 => []
  | m + 1 => flat us m ++ (us m).cells.toList
theorem flat_len {us : Nat → Value} {sz : Nat} : ∀ (m : Nat), (∀ i, i < m → (us i).cells.size = sz) → (flat us m).length = m * sz
  | 0, _ => by simp [flat]
  | m + 1, h => by
    simp only [flat, List.length_append, flat_len m (fun i hi => h i (by omega))]
    have := h m (by omega)
    simp [this, Nat.add_mul]
theorem flat_get {us : Nat → Value} {sz : Nat} : ∀ (m : Nat), (∀ i, i < m → (us i).cells.size = sz) → ∀ i d, i < m → d < sz → (flat us m)[i * sz + d]? = (us i).cells[d]?
  | 0, _, i, _, hi, _ => by omega
  | m + 1, h, i, d, hi, hd => by
    have hl := flat_len (us := us) m (fun i hi => h i (by omega))
    simp only [flat]
    by_cases hm : i < m
    · have h1 : (i + 1) * sz ≤ m * sz := Nat.mul_le_mul_right _ hm
      rw [Nat.add_mul] at h1
      rw [List.getElem?_append_left (by omega)]
      exact flat_get m (fun i hi => h i (by omega)) i d hm hd
    · have : i = m := by omega
      subst this
      rw [List.getElem?_append_right (by omega), hl]
      have : i * sz + d - i * sz = d := by omega
      rw [this, Array.getElem?_toList]
theorem flat_mem {us : Nat → Value} : ∀ (m : Nat) (u : Value), u ∈ flat us m → ∃ i, i < m ∧ u ∈ (us i).cells.toList
  | 0, _, h => by simp [flat] at h
  | m + 1, u, h => by
    simp only [flat, List.mem_append] at h
    rcases h with h | h
    · obtain ⟨i, hi, hu⟩ := flat_mem m u h
      exact ⟨i, by omega, hu⟩
    · exact ⟨m, by omega, h⟩
theorem flat_congr {us vs : Nat → Value} : ∀ (m : Nat), (∀ i, i < m → us i = vs i) → flat us m = flat vs m
  | 0, _ => rfl
  | m + 1, h => by simp only [flat]; rw [flat_congr m (fun i hi => h i (by omega)), h m (by omega)]
theorem flat_add (us vs : Nat → Value) (n : Nat) : ∀ (m : Nat), flat (fun i => if i < n then us i else vs (i - n)) (n + m) = flat us n ++ flat vs m
  | 0 => by
    simp only [Nat.add_zero, flat, List.append_nil]
    exact flat_congr n (fun i hi => by simp [hi])
  | m + 1 => by
    rw [← Nat.add_assoc]
    simp only [flat, flat_add us vs n m]
    have h1 : ¬ n + m < n := by omega
    have h2 : n + m - n = m := by omega
    simp only [if_neg h1, h2, List.append_assoc]
theorem flat_at {us : Nat → Value} {sz m : Nat} (h : ∀ i, i < m → (us i).cells.size = sz) {at_ : Nat → Option Value} (hc : ∀ i, i < m → ∀ (d : Nat) (c : Value), (us i).cells[d]? = some c → at_ (i * sz + d) = some c) :
    ∀ j u, (flat us m)[j]? = some u → at_ j = some u := by
  intro j u hj
  have hl := flat_len m h
  have hjl : j < m * sz := by
    rw [← hl]
    rcases Nat.lt_or_ge j (flat us m).length with h1 | h1
    · exact h1
    · simp [List.getElem?_eq_none h1] at hj
  have hsz : 0 < sz := by
    rcases Nat.eq_zero_or_pos sz with h0 | h0
    · subst h0; simp at hjl
    · exact h0
  have hi : j / sz < m := (Nat.div_lt_iff_lt_mul hsz).2 hjl
  have hd : j % sz < sz := Nat.mod_lt _ hsz
  have he : j / sz * sz + j % sz = j := by rw [Nat.mul_comm]; exact Nat.div_add_mod j sz
  have := flat_get m h (j / sz) (j % sz) hi hd
  rw [he] at this
  rw [this] at hj
  have := hc (j / sz) hi (j % sz) u hj
  rwa [he] at this

/-- Elements that are known, each with its value. -/
structure Elems (P : Program) (w : World) (Im : Nat → Prop) (e : TypeId) (es : List SV) (us : Nat → Value) : Prop where
  fit : ∀ v ∈ es, expand P e v = v
  rel : ∀ (i : Nat) (v : SV), es[i]? = some v → VRel P om0 w Im noTh v (us i) ∧ (us i).cells.size = P.cellsOf e
theorem Elems.size {w : World} {Im : Nat → Prop} {e : TypeId} {es : List SV} {us : Nat → Value} (h : Elems P w Im e es us) : ∀ i, i < es.length → (us i).cells.size = P.cellsOf e := fun i hi => (h.rel i es[i] (by simp [hi])).2
theorem Elems.mono {w w' : World} {Im Im' : Nat → Prop} {e : TypeId} {es : List SV} {us : Nat → Value} (h : Elems P w Im e es us) (hI : ∀ b, Im b → Im' b ∧ w'.heap[b]? = w.heap[b]?) : Elems P w' Im' e es us :=
  ⟨h.fit, fun i v hv => ⟨(h.rel i v hv).1.mono hI (fun _ _ h => h), (h.rel i v hv).2⟩⟩
theorem Elems.nil {w : World} {Im : Nat → Prop} {e : TypeId} : Elems P w Im e [] (fun _ => undef) := ⟨(fun v hv => by cases hv), (fun i v hv => by simp at hv)⟩
theorem Elems.append {w : World} {Im : Nat → Prop} {e : TypeId} {es fs : List SV} {us vs : Nat → Value} (h : Elems P w Im e es us) (h' : Elems P w Im e fs vs) :
    Elems P w Im e (es ++ fs) (fun i => if i < es.length then us i else vs (i - es.length)) := by
  refine ⟨fun v hv => ?_, fun i v hv => ?_⟩
  · rcases List.mem_append.1 hv with hv | hv
    · exact h.fit v hv
    · exact h'.fit v hv
  · by_cases hi : i < es.length
    · rw [List.getElem?_append_left hi] at hv
      simp only [if_pos hi]
      exact h.rel i v hv
    · rw [List.getElem?_append_right (by omega)] at hv
      simp only [if_neg hi]
      exact h'.rel _ v hv
theorem Elems.part {w : World} {Im : Nat → Prop} {e : TypeId} {es : List SV} {us : Nat → Value} (h : Elems P w Im e es us) (o n : Nat) : Elems P w Im e ((es.drop o).take n) (fun i => us (o + i)) := by
  refine ⟨fun v hv => h.fit v (List.mem_of_mem_drop (List.mem_of_mem_take hv)), fun i v hv => ?_⟩
  rw [List.getElem?_take] at hv
  split at hv
  · rw [List.getElem?_drop] at hv
    exact h.rel _ v hv
  · cases hv

/- What is written out as its type asks. -/
theorem fitsLeaf_free {ω' : Nat → Value} {w : World} {Im : Nat → Prop} {θ θ' : Th} {t : TypeId} {c : SV} {u : Value} (hf : fitsLeaf P t c = true) (h : VRel P ω w Im θ c u) : VRel P ω' w Im θ' c u ∧ expandLeaf P t c = c ∧ oneS c = true := by
  unfold fitsLeaf at hf
  unfold expandLeaf
  split at hf <;> first | (cases hf; done) | skip
  · rename_i hu; rw [hu]; cases h; exact ⟨.bool, rfl, rfl⟩
  · rename_i k k' n hu
    rw [hu]
    cases h
    have : k = k' := by cases k <;> cases k' <;> first | rfl | (simp [ikEq] at hf)
    subst this
    exact ⟨.int, rfl, rfl⟩
  · rename_i hu; rw [hu]; cases h with | str h => exact ⟨.str h, rfl, rfl⟩
  · rename_i e e' es hu
    rw [hu]
    have : e = e' := Nat.eq_of_beq_eq_true hf
    subst this
    cases h with
    | psl us h1 h0 h2 h3 h4 => exact ⟨.psl us h1 h0 h2 h3 h4, rfl, rfl⟩
  · rename_i hu; rw [hu]; cases h; exact ⟨.nili, rfl, rfl⟩

theorem fitsAll_expand {v : SV} : ∀ (ts : List TypeId) (cs : List SV) (j : Nat), fitsAll P ts cs = true → (∀ i, i < cs.length → cellAt v (j + i) = cs.getD i .junk) → (∀ (i : Nat) (t : TypeId) (c : SV), ts[i]? = some t → cs[i]? = some c → fitsLeaf P t c = true → expandLeaf P t c = c) → expandFrom P v ts j = cs
  | [], [], j, _, _, _ => rfl
  | t :: ts, c :: cs, j, h, hv, he => by
    simp only [fitsAll, Bool.and_eq_true] at h
    simp only [expandFrom]
    have h0 := hv 0 (by simp)
    simp only [Nat.add_zero, List.getD_cons_zero] at h0
    rw [h0, he 0 t c rfl rfl h.1]
    congr 1
    refine fitsAll_expand ts cs (j + 1) h.2 (fun i hi => ?_) (fun i t c h1 h2 => he (i + 1) t c (by simpa using h1) (by simpa using h2))
    have := hv (i + 1) (by simpa using hi)
    rw [show j + 1 + i = j + (i + 1) by omega, this]
    simp
  | [], _ :: _, _, h, _, _ => by simp [fitsAll] at h
  | _ :: _, [], _, h, _, _ => by simp [fitsAll] at h

theorem fitsAll_at : ∀ (ts : List TypeId) (cs : List SV), fitsAll P ts cs = true → ∀ (i : Nat) (c : SV), cs[i]? = some c → ∃ t, ts[i]? = some t ∧ fitsLeaf P t c = true
  | [], [], _, i, c, h => by simp at h
  | t :: ts, c :: cs, h, i, d, hd => by
    simp only [fitsAll, Bool.and_eq_true] at h
    cases i with
    | zero => simp at hd; subst hd; exact ⟨t, rfl, h.1⟩
    | succ i => exact fitsAll_at ts cs h.2 i d (by simpa using hd)
  | [], _ :: _, h, _, _, _ => by simp [fitsAll] at h
  | _ :: _, [], h, _, _, _ => by simp [fitsAll] at h

theorem expandLeaf_fits {t : TypeId} {c : SV} (hf : fitsLeaf P t c = true) : expandLeaf P t c = c ∧ oneS c = true := by
  unfold fitsLeaf at hf
  unfold expandLeaf
  split at hf <;> first | (cases hf; done) | skip
  · rename_i hu; rw [hu]; exact ⟨rfl, rfl⟩
  · rename_i k k' n hu
    rw [hu]
    have : k = k' := by cases k <;> cases k' <;> first | rfl | (simp [ikEq] at hf)
    subst this
    exact ⟨rfl, rfl⟩
  · rename_i hu; rw [hu]; exact ⟨rfl, rfl⟩
  · rename_i e e' es hu
    rw [hu]
    have : e = e' := Nat.eq_of_beq_eq_true hf
    subst this
    exact ⟨rfl, rfl⟩
  · rename_i hu; rw [hu]; exact ⟨rfl, rfl⟩

theorem fits_free {ω' : Nat → Value} {w : World} {Im : Nat → Prop} {θ θ' : Th} {t : TypeId} {v : SV} {u : Value} (hf : fits P t v = true) (h : VRel P ω w Im θ v u) : VRel P ω' w Im θ' v u ∧ expand P t v = v := by
  unfold fits at hf
  unfold expand
  cases ha : isAggT P t with
  | true =>
    rw [ha] at hf
    simp only [cond_true] at hf ⊢
    split at hf
    · rename_i cs
      cases h with
      | agg h1 h2 =>
        refine ⟨.agg h1 (fun i v u hv hu => ?_), ?_⟩
        · obtain ⟨t', _, hl⟩ := fitsAll_at _ _ hf i v hv
          exact (fitsLeaf_free hl (h2 i v u hv hu)).1
        · rw [fitsAll_expand _ cs 0 hf (fun i hi => by simp [cellAt]) (fun i t c _ _ hl => (expandLeaf_fits hl).1)]
    · cases hf
  | false =>
    rw [ha] at hf
    simp only [cond_false] at hf ⊢
    obtain ⟨h1, h2, _⟩ := fitsLeaf_free (ω' := ω') (θ' := θ') hf h
    exact ⟨h1, h2⟩
theorem sized_cells {w : World} {Im : Nat → Prop} {θ : Th} {t : TypeId} {v : SV} {u : Value} (hs : sizedS P t v = true) (h : VRel P ω w Im θ v u) : u.cells.size = P.cellsOf t := by
  unfold sizedS at hs
  cases hc : cellsS v with
  | none => simp [hc] at hs
  | some cs =>
    simp only [hc] at hs
    have := (cells_rel h hc).len
    have h2 := Nat.eq_of_beq_eq_true hs
    simp at this
    omega

theorem plainLeaf_one {t : TypeId} (h : plainLeaf P t = true) (c : SV) : oneS (expandLeaf P t c) = true := by
  unfold plainLeaf at h
  unfold expandLeaf
  split at h <;> first | (cases h; done) | rfl
theorem plainFrom_one {v : SV} : ∀ (ts : List TypeId) (j : Nat), ts.all (plainLeaf P) = true → allOne (expandFrom P v ts j) = true
  | [], _, _ => rfl
  | t :: ts, j, h => by
    simp only [List.all_cons, Bool.and_eq_true] at h
    simp only [expandFrom, allOne, Bool.and_eq_true]
    exact ⟨plainLeaf_one h.1 _, plainFrom_one ts (j + 1) h.2⟩
theorem plain_cells {w : World} {Im : Nat → Prop} {θ : Th} {t : TypeId} {v : SV} {u : Value} (hp : plainE P t = true) (he : expand P t v = v) (h : VRel P ω w Im θ v u) : (∀ c ∈ u.cells.toList, c.oneCell' = true) ∧ (isAggT P t = false → u.cells = #[u]) := by
  unfold plainE at hp
  unfold expand at he
  cases ha : isAggT P t with
  | true =>
    rw [ha] at hp he
    simp only [cond_true] at hp he
    refine ⟨?_, fun h => by cases h⟩
    have h1 := plainFrom_one (v := v) _ 0 hp
    rw [← he] at h
    have hc : cellsS (SV.agg (expandFrom P v (leaves P 40 t) 0)) = some (expandFrom P v (leaves P 40 t) 0) := by simp [cellsS, h1]
    exact (cells_rel h hc).one h1
  | false =>
    rw [ha] at hp he
    simp only [cond_false] at hp he
    have h1 := plainLeaf_one hp v
    rw [he] at h1
    have h2 := cells_one (one_of_oneS h h1)
    refine ⟨fun c hc => ?_, fun _ => h2⟩
    rw [h2] at hc
    simp at hc
    subst hc
    exact one_of_oneS h h1

/- Known by content from here on. -/
theorem frozen_app {Im : Nat → Prop} {θ : Th} {h : HpF} {ys zs : List Nat} (w : World) : (∀ b, frozenBy Im θ h ys b → frozenBy Im θ h (ys ++ zs) b ∧ w.heap[b]? = w.heap[b]?) ∧ (∀ b, frozenBy Im θ h zs b → frozenBy Im θ h (ys ++ zs) b ∧ w.heap[b]? = w.heap[b]?) := by
  refine ⟨fun b hb => ⟨?_, rfl⟩, fun b hb => ⟨?_, rfl⟩⟩
  · rcases hb with hb | ⟨y, hy, r⟩
    · exact .inl hb
    · exact .inr ⟨y, List.mem_append.2 (.inl hy), r⟩
  · rcases hb with hb | ⟨y, hy, r⟩
    · exact .inl hb
    · exact .inr ⟨y, List.mem_append.2 (.inr hy), r⟩

section
variable {w : World} {Im : Nat → Prop} {θ : Th} {h : HpF} (hr : HRel P ω w Im θ h)
include hr

/-- A whole list, known by content. -/
theorem seq_psl {y : Nat} {e : TypeId} {es : List SV} (hy : h y = some (.seq e es)) {sz n : Nat} {u : Value} (hn : n = es.length) (hv : VRel P ω w Im θ (.qs y sz 0 n) u) : VRel P ω w (frozenBy Im θ h [y]) θ (.psl e es) u := by
  have hc := hr.at_ y _ hy
  cases hv with
  | qsnil h0 =>
    have : es = [] := List.eq_nil_of_length_eq_zero (by omega)
    subst this
    exact .psl (fun _ => undef) rfl ⟨Nat.le_refl _, by simp⟩ (fun v hv => by cases hv) (fun i v hv => by simp at hv) (fun hn => absurd rfl hn)
  | qs hθ h1 h2 =>
    rename_i b N cap
    rcases hc with ⟨_, h3⟩ | ⟨b', N', cs, T, fr, us, h3, h4, h5, h6, h7, h8, h9⟩
    · rw [h3] at hθ; cases hθ
    · rw [hθ] at h3
      simp only [Option.some.injEq, Prod.mk.injEq] at h3
      obtain ⟨rfl, rfl⟩ := h3
      refine .psl us hn.symm ⟨h2, by simp⟩ h8 (fun i v hv => ?_) (fun hne => ⟨b, 0 * sz, rfl, .inr ⟨y, by simp, _, _, hy, hθ⟩, fun i hi => ?_⟩)
      · exact (h9 i v hv).1.mono (frozenBy_up w) (fun _ _ h => h)
      · have hi' : i < es.length := by omega
        obtain ⟨g1, g2, g3⟩ := h9 i es[i] (by simp [hi'])
        refine ⟨g2, fun d c hd => ?_⟩
        have := g3 d c hd
        simp only [World.cell?, h4, Nat.zero_mul, Nat.zero_add]
        simpa using this

theorem frzLeaf_run {t : TypeId} {c : SV} {u : Value} {k : SV → List Nat → OpM} {r : SV} {ups : List (Nat × Option Chunk)} {nx : Nat} {rs : List Nat} (hv : VRel P ω w Im θ c u) (hm : mrun h (frzLeaf P t k c) = some (r, ups, nx, rs)) :
    ∃ c' ys rs', mrun h (k c' ys) = some (r, ups, nx, rs') ∧ VRel P ω w (frozenBy Im θ h ys) θ c' u := by
  unfold frzLeaf at hm
  split at hm
  · rename_i y sz l n
    split at hm
    · rename_i e hu
      simp only [mrun] at hm
      cases hy : h y with
      | none => simp [hy] at hm
      | some c =>
        simp only [hy] at hm
        cases c with
        | seq e' es =>
          simp only [] at hm
          cases hb : Nat.beq e e' && Nat.beq sz (P.cellsOf e) with
          | false => simp [hb, mrun] at hm
          | true =>
            simp only [hb, cond_true, mrun] at hm
            split at hm
            · rename_i r0 ups0 nx0 rs0 heq
              split at heq
              · rename_i hcnd
                simp only [Bool.and_eq_true, decide_eq_true_eq] at hcnd hb
                obtain ⟨rfl, hn⟩ := hcnd
                have : e = e' := Nat.eq_of_beq_eq_true hb.1
                subst this
                simp only [Option.some.injEq, Prod.mk.injEq] at hm
                obtain ⟨rfl, rfl, rfl, rfl⟩ := hm
                exact ⟨_, _, _, heq, seq_psl hr hy hn hv⟩
              · simp at heq
            · cases hm
        | cells => simp [mrun] at hm
        | loopr => simp [mrun] at hm
        | mpc => simp [mrun] at hm
    · simp [mrun] at hm
  · split at hm
    · cases hv
      exact ⟨_, _, _, hm, .psl (fun _ => undef) rfl ⟨Nat.le_refl _, by simp⟩ (fun v hv => by cases hv) (fun i v hv => by simp at hv) (fun hn => absurd rfl hn)⟩
    · simp [mrun] at hm
  · refine ⟨_, _, _, hm, ?_⟩
    unfold coerceLeaf
    split
    · cases hv
      exact .psl (fun _ => undef) rfl ⟨Nat.le_refl _, by simp⟩ (fun v hv => by cases hv) (fun i v hv => by simp at hv) (fun hn => absurd rfl hn)
    · exact hv.mono (frozenBy_up w) (fun _ _ h => h)

theorem frzL_run {k : List SV → List Nat → OpM} {r : SV} {ups : List (Nat × Option Chunk)} {nx : Nat} : ∀ (ts : List TypeId) (cs : List SV) (us : List Value) (acc : List SV) (ys : List Nat) (rs : List Nat), LRel P ω w Im θ cs us → mrun h (frzL P k ts cs acc ys) = some (r, ups, nx, rs) →
    ∃ cs' zs rs', mrun h (k (acc ++ cs') (ys ++ zs)) = some (r, ups, nx, rs') ∧ LRel P ω w (frozenBy Im θ h zs) θ cs' us
  | [], [], us, acc, ys, rs, hl, hm => by
    refine ⟨[], [], rs, by simpa [frzL] using hm, ?_⟩
    exact hl.mono (frozenBy_up w) (fun _ _ h => h)
  | t :: ts, c :: cs, us, acc, ys, rs, hl, hm => by
    cases us with
    | nil => have := hl.len; simp at this
    | cons u us =>
      simp only [frzL] at hm
      obtain ⟨c', zs, rs1, h1, h2⟩ := frzLeaf_run hr (hl.at_ 0 c u rfl rfl) hm
      have hl' : LRel P ω w Im θ cs us := ⟨by have := hl.len; simpa using this, fun i v u hv hu => hl.at_ (i + 1) v u (by simpa using hv) (by simpa using hu)⟩
      obtain ⟨cs', zs', rs2, h3, h4⟩ := frzL_run ts cs us _ _ rs1 hl' h1
      refine ⟨c' :: cs', zs ++ zs', rs2, by simpa using h3, ⟨by simpa using h4.len, fun i v u' hv hu => ?_⟩⟩
      cases i with
      | zero => simp at hv hu; subst hv; subst hu; exact h2.mono (frozen_app w).1 (fun _ _ h => h)
      | succ i => exact (h4.at_ i v u' (by simpa using hv) (by simpa using hu)).mono (frozen_app w).2 (fun _ _ h => h)
  | [], _ :: _, _, _, _, _, _, hm => by simp [frzL, mrun] at hm
  | _ :: _, [], _, _, _, _, _, hm => by simp [frzL, mrun] at hm

theorem frzM_run {t : TypeId} {v : SV} {u : Value} {k : SV → List Nat → OpM} {r : SV} {ups : List (Nat × Option Chunk)} {nx : Nat} {rs : List Nat} (hv : VRel P ω w Im θ v u) (hm : mrun h (frzM P t k v) = some (r, ups, nx, rs)) :
    ∃ v' ys rs', mrun h (k v' ys) = some (r, ups, nx, rs') ∧ VRel P om0 w (frozenBy Im θ h ys) noTh v' u ∧ expand P t v' = v' ∧ u.cells.size = P.cellsOf t ∧ fits P t v' = true := by
  have fin : ∀ (v' : SV) (ys rs : List Nat), VRel P ω w (frozenBy Im θ h ys) θ v' u → mrun h (bif fits P t v' && sizedS P t v' then k v' ys else .fail) = some (r, ups, nx, rs) →
      ∃ v' ys rs', mrun h (k v' ys) = some (r, ups, nx, rs') ∧ VRel P om0 w (frozenBy Im θ h ys) noTh v' u ∧ expand P t v' = v' ∧ u.cells.size = P.cellsOf t ∧ fits P t v' = true := by
    intro v' ys rs hv' hm
    cases hb : fits P t v' && sizedS P t v' with
    | false => simp [hb, mrun] at hm
    | true =>
      simp only [hb, cond_true] at hm
      simp only [Bool.and_eq_true] at hb
      obtain ⟨h1, h2⟩ := fits_free (ω' := om0) (θ' := noTh) hb.1 hv'
      exact ⟨v', ys, rs, hm, h1, h2, sized_cells hb.2 hv', hb.1⟩
  unfold frzM at hm
  cases ha : isAggT P t with
  | true =>
    simp only [ha, cond_true] at hm
    split at hm
    · rename_i cs
      cases hv with
      | agg h1 h2 =>
        rename_i us
        have hl : LRel P ω w Im θ cs us.toList := ⟨by simpa using h1, fun i v u hv hu => h2 i v u hv (by simpa using hu)⟩
        obtain ⟨cs', zs, rs', h3, h4⟩ := frzL_run hr _ _ _ _ _ _ hl hm
        refine fin (.agg cs') zs rs' (.agg (by simpa using h4.len) (fun i v u hv hu => h4.at_ i v u hv (by simpa using hu))) (by simpa using h3)
    · simp [mrun] at hm
  | false =>
    simp only [ha, cond_false] at hm
    obtain ⟨c', ys, rs', h1, h2⟩ := frzLeaf_run hr hv hm
    exact fin c' ys rs' h2 h1

theorem frzAll_run {t : TypeId} {k : List SV → List Nat → OpM} {r : SV} {ups : List (Nat × Option Chunk)} {nx : Nat} : ∀ (vs : List SV) (uf : Nat → Value) (acc : List SV) (ys rs : List Nat), (∀ (i : Nat) (v : SV), vs[i]? = some v → VRel P ω w Im θ v (uf i)) →
    mrun h (frzAll P t k vs acc ys) = some (r, ups, nx, rs) → ∃ vs' zs rs', mrun h (k (acc ++ vs') (ys ++ zs)) = some (r, ups, nx, rs') ∧ vs'.length = vs.length ∧ Elems P w (frozenBy Im θ h zs) t vs' uf
  | [], uf, acc, ys, rs, _, hm => ⟨[], [], rs, by simpa [frzAll] using hm, rfl, ⟨(fun v hv => by cases hv), (fun i v hv => by simp at hv)⟩⟩
  | v :: vs, uf, acc, ys, rs, hv, hm => by
    simp only [frzAll] at hm
    obtain ⟨v', zs, rs1, h1, h2, h3, h4, -⟩ := frzM_run hr (hv 0 v rfl) hm
    obtain ⟨vs', zs', rs2, h5, h6, h7⟩ := frzAll_run vs (fun i => uf (i + 1)) _ _ rs1 (fun i v hi => hv (i + 1) v (by simpa using hi)) h1
    refine ⟨v' :: vs', zs ++ zs', rs2, by simpa using h5, by simp [h6], ⟨fun x hx => ?_, fun i x hx => ?_⟩⟩
    · rcases List.mem_cons.1 hx with rfl | hx
      · exact h3
      · exact h7.fit x hx
    · cases i with
      | zero => simp at hx; subst hx; exact ⟨h2.mono (frozen_app w).1 (fun _ _ h => h), h4⟩
      | succ i =>
        obtain ⟨g1, g2⟩ := h7.rel i x (by simpa using hx)
        exact ⟨g1.mono (frozen_app w).2 (fun _ _ h => h), g2⟩
end
end Go.Am
