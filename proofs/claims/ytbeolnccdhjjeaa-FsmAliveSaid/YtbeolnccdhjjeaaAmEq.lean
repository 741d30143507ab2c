/- The abstract machine: '==' of values that are made of bools, integers and strings. -/
import Derived.Test.YtbeolnccdhjjeaaAmOps
import Derived.ChangeKeysEq
namespace Go.Am
variable {P : Program} {ω : Nat → Value}

theorem eqLeaves_cons {a b : SV} {as bs : List SV} {r : Bool} (h : eqLeaves (a :: as) (b :: bs) = some r) : ∃ x y, eqLeaf a b = some x ∧ eqLeaves as bs = some y ∧ r = (x && y) := by
  cases as with
  | nil =>
    cases bs with
    | nil => exact ⟨r, true, by simpa [eqLeaves] using h, rfl, by simp⟩
    | cons =>
      simp only [eqLeaves] at h
      cases h1 : eqLeaf a b <;> simp [h1] at h
  | cons a' as' =>
    simp only [eqLeaves] at h
    cases h1 : eqLeaf a b with
    | none => simp [h1] at h
    | some x =>
      cases h2 : eqLeaves (a' :: as') bs with
      | none => simp [h1, h2] at h
      | some y => exact ⟨x, y, rfl, rfl, by simpa [h1, h2] using h.symm⟩

theorem eqLeaves_len : ∀ {as bs : List SV} {r : Bool}, eqLeaves as bs = some r → as.length = bs.length
  | [], [], _, _ => rfl
  | [], _ :: _, _, h => by simp [eqLeaves] at h
  | _ :: as, [], _, h => by cases as <;> simp [eqLeaves] at h
  | _ :: _, _ :: _, _, h => by
    obtain ⟨_, _, _, h2, _⟩ := eqLeaves_cons h
    simp [eqLeaves_len h2]

theorem eqLeaves_split : ∀ (n : Nat) {as bs : List SV} {r : Bool}, eqLeaves as bs = some r → ∃ x y, eqLeaves (as.take n) (bs.take n) = some x ∧ eqLeaves (as.drop n) (bs.drop n) = some y ∧ r = (x && y)
  | 0, as, bs, r, h => ⟨true, r, by simp [eqLeaves], by simpa using h, by simp⟩
  | n + 1, [], [], r, h => ⟨true, true, by simp [eqLeaves], by simp [eqLeaves], by simpa [eqLeaves] using h.symm⟩
  | n + 1, [], _ :: _, r, h => by simp [eqLeaves] at h
  | n + 1, _ :: as, [], r, h => by cases as <;> simp [eqLeaves] at h
  | n + 1, a :: as, b :: bs, r, h => by
    obtain ⟨x, y, h1, h2, rfl⟩ := eqLeaves_cons h
    obtain ⟨x', y', h3, h4, rfl⟩ := eqLeaves_split n h2
    refine ⟨x && x', y', ?_, by simpa using h4, by simp [Bool.and_assoc]⟩
    simp only [List.take_succ_cons]
    cases hta : as.take n with
    | nil =>
      cases htb : bs.take n with
      | nil =>
        rw [hta, htb] at h3
        simp [eqLeaves] at h3
        subst h3
        simpa [eqLeaves] using h1
      | cons => rw [hta, htb] at h3; simp [eqLeaves] at h3
    | cons a' as' =>
      rw [hta] at h3
      simp only [eqLeaves]
      rw [h1, h3]


theorem fitsAll_split : ∀ (l1 l2 : List TypeId) (cs : List SV), fitsAll P (l1 ++ l2) cs = true → fitsAll P l1 (cs.take l1.length) = true ∧ fitsAll P l2 (cs.drop l1.length) = true
  | [], l2, cs, h => by simpa [fitsAll] using h
  | u :: l1, l2, [], h => by simp [fitsAll] at h
  | u :: l1, l2, c :: cs, h => by
    simp only [List.cons_append, fitsAll, Bool.and_eq_true] at h
    have := fitsAll_split l1 l2 cs h.2
    simp [fitsAll, h.1, this]

theorem repL_len {α : Type} (n : Nat) (l : List α) : (repL n l).length = n * l.length := by
  induction n with
  | zero => simp [repL]
  | succ n ih => simp [repL, ih, Nat.succ_mul]; omega

theorem fieldsEq_len {rec : TypeId → Bool} {lv : TypeId → List TypeId} (hrec : ∀ t, rec t = true → (lv t).length = P.cellsOf t) : ∀ (fs : List Field) (o n : Nat), fieldsEq P rec fs o n = true → o + (fs.flatMap fun f => lv f.type).length = n
  | [], o, n, h => by simpa [fieldsEq] using h
  | f :: fs, o, n, h => by
    simp only [fieldsEq, Bool.and_eq_true] at h
    have := fieldsEq_len hrec fs _ n h.2
    have h2 := hrec f.type h.1.2
    simp only [List.flatMap_cons, List.length_append]
    omega

theorem leaves_len : ∀ (d : Nat) (t : TypeId), plainEq P d t = true → (leaves P d t).length = P.cellsOf t
  | 0, t, h => by simp [plainEq] at h
  | d + 1, t, h => by
    unfold plainEq at h
    unfold leaves
    cases hu : P.underlying t with
    | none => simp [hu] at h
    | some k =>
      cases k <;> simp only [hu] at h <;> first
        | (simpa using (Nat.eq_of_beq_eq_true h).symm)
        | (cases h; done)
        | skip
      · rename_i n e
        simp only [Bool.and_eq_true] at h
        rw [repL_len, leaves_len d e h.1]
        exact Nat.eq_of_beq_eq_true h.2
      · rename_i fs
        simp only [Bool.and_eq_true] at h
        have := fieldsEq_len (fun t ht => leaves_len d t ht) fs.toList 0 _ h.2
        simpa using this

theorem ikEq_eq {k k' : IntKind} (h : ikEq k k' = true) : k = k' := by cases k <;> cases k' <;> first | rfl | simp [ikEq] at h


/-- A value of type t, by its cells. -/
def TRel (P : Program) (ω : Nat → Value) (w : World) (Im : Nat → Prop) (θ : Th) (t : TypeId) (as : List SV) (u : Value) : Prop :=
  (isAggT P t = true ∧ ∃ xs : Array Value, u = .agg xs ∧ LRel P ω w Im θ as xs.toList) ∨ (isAggT P t = false ∧ ∃ a, as = [a] ∧ VRel P ω w Im θ a u)

/-- One part of a row, as the model's '==' takes it. -/
theorem part_rel {w : World} {Im : Nat → Prop} {θ : Th} {t : TypeId} {k : TypeDesc} (hu : P.underlying t = some k) {as : List SV} {us : Array Value} (hl : LRel P ω w Im θ as us.toList) {off : Nat} (hlen : off + P.cellsOf t ≤ as.length)
    (h1 : isAggT P t = false → P.cellsOf t = 1) :
    ∃ u, (part t us off).run P w = .ok u w ∧ TRel P ω w Im θ t ((as.drop off).take (P.cellsOf t)) u := by
  obtain ⟨i, hi⟩ := Go.info_of_underlying hu
  by_cases hd : isAggT P t = true
  · refine ⟨.agg (us.extract off (off + P.cellsOf t)), ?_, .inl ⟨hd, _, rfl, ?_⟩⟩
    · unfold part
      simp [run_isAgg hu, hd, run_sizeOf' hi]
    · have := hl.part off (P.cellsOf t)
      have e : (us.extract off (off + P.cellsOf t)).toList = (us.toList.drop off).take (P.cellsOf t) := by
        rw [Array.toList_extract]; simp [List.extract]
      rw [e]; exact this
  · have hf : isAggT P t = false := by simpa using hd
    have hc := h1 hf
    have hlt0 : off < as.length := by omega
    have hlt : off < us.size := by have := hl.len; simp at this; omega
    refine ⟨us[off], ?_, .inr ⟨hf, as[off], ?_, hl.at_ off _ _ (by simp [hlt0]) (by simp [hlt])⟩⟩
    · unfold part
      simp [run_isAgg hu, hf, hlt]
    · rw [hc, List.drop_eq_getElem_cons hlt0]; rfl

theorem run_eqLeaf {w : World} {Im : Nat → Prop} {θ : Th} {t : TypeId} {a b : SV} {u v : Value} {r : Bool} {D : Nat} (hf : fitsLeaf P t a = true) (hg : fitsLeaf P t b = true) (h : eqLeaf a b = some r) (ha : VRel P ω w Im θ a u) (hb : VRel P ω w Im θ b v) :
    (Op.equalIn (D + 1) t u v).run P w = .ok r w := by
  unfold eqLeaf at h
  split at h
  · cases ha; cases hb
    simp only [Option.some.injEq] at h; subst h
    unfold fitsLeaf at hf
    cases hu : P.underlying t with
    | none => simp [hu] at hf
    | some k => cases k <;> simp [hu] at hf; exact run_equalIn_bool' w D t _ _ hu
  · cases ha; cases hb
    simp only [Option.some.injEq] at h; subst h
    unfold fitsLeaf at hf hg
    cases hu : P.underlying t with
    | none => simp [hu] at hf
    | some k =>
      cases k <;> simp [hu] at hf hg
      have e1 := ikEq_eq hf
      have e2 := ikEq_eq hg
      subst e1; subst e2
      exact run_equalIn_int w D t _ _ _ _ hu
  · rename_i x y
    cases ha with
    | str h1 => cases hb with
      | str h2 =>
        simp only [Option.some.injEq] at h; subst h
        unfold fitsLeaf at hf
        cases hu : P.underlying t with
        | none => simp [hu] at hf
        | some k =>
          cases k <;> simp [hu] at hf
          rw [run_equalIn_string w D t _ _ hu]
          rw [ByteArray.toList_eq, ByteArray.toList_eq, h1, h2]
  · cases h

theorem run_eqFields_rel {w : World} {Im : Nat → Prop} {θ : Th} {d D : Nat} {xs ys : Array Value} {as bs : List SV} (hA : LRel P ω w Im θ as xs.toList) (hB : LRel P ω w Im θ bs ys.toList)
    (ih : ∀ t, plainEq P d t = true → ∀ (as bs : List SV) (u v : Value) (r : Bool), fitsAll P (leaves P d t) as = true → fitsAll P (leaves P d t) bs = true → TRel P ω w Im θ t as u → TRel P ω w Im θ t bs v → eqLeaves as bs = some r → (Op.equalIn D t u v).run P w = .ok r w) :
    ∀ (fs : List Field) (o n : Nat) (r : Bool), fieldsEq P (plainEq P d) fs o n = true → n ≤ as.length → n ≤ bs.length →
      fitsAll P (fs.flatMap fun f => leaves P d f.type) ((as.drop o).take (n - o)) = true → fitsAll P (fs.flatMap fun f => leaves P d f.type) ((bs.drop o).take (n - o)) = true →
      eqLeaves ((as.drop o).take (n - o)) ((bs.drop o).take (n - o)) = some r → (Op.eqFields D xs ys fs).run P w = .ok r w
  | [], o, n, r, h, _, _, _, _, hr => by
    have : o = n := by simpa [fieldsEq] using h
    subst this
    simp [eqLeaves] at hr
    subst hr
    simp [Op.eqFields]
  | f :: fs, o, n, r, h, ha, hb, hfa, hfb, hr => by
    have hh := h
    simp only [fieldsEq, Bool.and_eq_true] at h
    obtain ⟨⟨⟨h1, h2⟩, h3⟩, h4⟩ := h
    have ho : f.offset = o := Nat.eq_of_beq_eq_true h2
    have hn := fieldsEq_len (fun t ht => leaves_len d t ht) fs _ _ h4
    have hll := leaves_len d f.type h3
    have hne : f.name ≠ "_" := by simpa using h1
    have hun : ∃ k, P.underlying f.type = some k := by
      cases d with
      | zero => simp [plainEq] at h3
      | succ d =>
        unfold plainEq at h3
        cases hu : P.underlying f.type with
        | none => simp [hu] at h3
        | some k => exact ⟨k, rfl⟩
    obtain ⟨k, hk⟩ := hun
    have hone : isAggT P f.type = false → P.cellsOf f.type = 1 := by
      intro hf
      cases d with
      | zero => simp [plainEq] at h3
      | succ d =>
        unfold plainEq at h3
        unfold isAggT at hf
        rw [hk] at h3 hf
        cases k <;> simp at h3 hf <;> first | exact h3 | skip
    obtain ⟨u, hu1, hu2⟩ := part_rel hk hA (off := o) (by omega) hone
    obtain ⟨v, hv1, hv2⟩ := part_rel hk hB (off := o) (by omega) hone
    simp only [List.flatMap_cons] at hfa hfb
    have fa := fitsAll_split _ _ _ hfa
    have fb := fitsAll_split _ _ _ hfb
    rw [hll] at fa fb
    obtain ⟨x, y, e1, e2, rfl⟩ := eqLeaves_split (P.cellsOf f.type) hr
    have hmin : min (P.cellsOf f.type) (n - o) = P.cellsOf f.type := by omega
    rw [List.take_take, hmin] at fa fb e1
    rw [List.take_take, hmin] at e1
    have hsub : n - o - P.cellsOf f.type = n - (o + P.cellsOf f.type) := by omega
    rw [List.drop_take, List.drop_drop, hsub] at fa fb e2
    rw [List.drop_take, List.drop_drop, hsub] at e2
    have r1 := ih f.type h3 _ _ u v x fa.1 fb.1 hu2 hv2 e1
    have r2 := run_eqFields_rel hA hB ih fs _ n y h4 ha hb fa.2 fb.2 e2
    simp only [Op.eqFields, hne, ne_eq, not_false_eq_true, if_true, Sem.run_bind, ho, hu1, hv1, r1, Result.andThen_ok]
    cases x
    · simp
    · simpa using r2

theorem run_eqItems_rel {w : World} {Im : Nat → Prop} {θ : Th} {D : Nat} {e : TypeId} {k : TypeDesc} (hk : P.underlying e = some k) (hone : isAggT P e = false → P.cellsOf e = 1) {lv : List TypeId} (hlv : lv.length = P.cellsOf e) {xs ys : Array Value} {as bs : List SV}
    (hA : LRel P ω w Im θ as xs.toList) (hB : LRel P ω w Im θ bs ys.toList)
    (ih : ∀ (as bs : List SV) (u v : Value) (r : Bool), fitsAll P lv as = true → fitsAll P lv bs = true → TRel P ω w Im θ e as u → TRel P ω w Im θ e bs v → eqLeaves as bs = some r → (Op.equalIn D e u v).run P w = .ok r w) :
    ∀ (m i : Nat) (r : Bool), (i + m) * P.cellsOf e ≤ as.length → (i + m) * P.cellsOf e ≤ bs.length →
      fitsAll P (repL m lv) ((as.drop (i * P.cellsOf e)).take (m * P.cellsOf e)) = true → fitsAll P (repL m lv) ((bs.drop (i * P.cellsOf e)).take (m * P.cellsOf e)) = true →
      eqLeaves ((as.drop (i * P.cellsOf e)).take (m * P.cellsOf e)) ((bs.drop (i * P.cellsOf e)).take (m * P.cellsOf e)) = some r → (Op.eqItems D e (P.cellsOf e) xs ys (List.range' i m)).run P w = .ok r w
  | 0, i, r, _, _, _, _, hr => by
    simp [eqLeaves] at hr
    subst hr
    simp [Op.eqItems]
  | m + 1, i, r, ha, hb, hfa, hfb, hr => by
    have hmul : (i + (m + 1)) * P.cellsOf e = i * P.cellsOf e + P.cellsOf e + m * P.cellsOf e := by
      rw [Nat.add_mul, Nat.succ_mul]; omega
    have hmul1 : (m + 1) * P.cellsOf e = P.cellsOf e + m * P.cellsOf e := by rw [Nat.succ_mul]; omega
    have hmul2 : (i + 1) * P.cellsOf e = i * P.cellsOf e + P.cellsOf e := by rw [Nat.succ_mul]
    obtain ⟨u, hu1, hu2⟩ := part_rel hk hA (off := i * P.cellsOf e) (by omega) hone
    obtain ⟨v, hv1, hv2⟩ := part_rel hk hB (off := i * P.cellsOf e) (by omega) hone
    simp only [repL] at hfa hfb
    have fa := fitsAll_split _ _ _ hfa
    have fb := fitsAll_split _ _ _ hfb
    rw [hlv] at fa fb
    obtain ⟨x, y, e1, e2, rfl⟩ := eqLeaves_split (P.cellsOf e) hr
    have hmin : min (P.cellsOf e) ((m + 1) * P.cellsOf e) = P.cellsOf e := by omega
    rw [List.take_take, hmin] at fa fb e1
    rw [List.take_take, hmin] at e1
    have hsub : (m + 1) * P.cellsOf e - P.cellsOf e = m * P.cellsOf e := by omega
    rw [List.drop_take, List.drop_drop, hsub, ← hmul2] at fa fb e2
    rw [List.drop_take, List.drop_drop, hsub, ← hmul2] at e2
    have r1 := ih _ _ u v x fa.1 fb.1 hu2 hv2 e1
    have r2 := run_eqItems_rel hk hone hlv hA hB ih m (i + 1) y (by have : i + 1 + m = i + (m + 1) := by omega
                                                                    rw [this]; exact ha) (by have : i + 1 + m = i + (m + 1) := by omega
                                                                                             rw [this]; exact hb) fa.2 fb.2 e2
    simp only [List.range'_succ, Op.eqItems, Sem.run_bind, hu1, hv1, r1, Result.andThen_ok]
    cases x
    · simp
    · simpa using r2

theorem fitsAll_len : ∀ {l : List TypeId} {cs : List SV}, fitsAll P l cs = true → cs.length = l.length
  | [], [], _ => rfl
  | [], _ :: _, h => by simp [fitsAll] at h
  | _ :: _, [], h => by simp [fitsAll] at h
  | _ :: l, _ :: cs, h => by
    simp only [fitsAll, Bool.and_eq_true] at h
    simp [fitsAll_len h.2]

theorem run_equalIn_plain {w : World} {Im : Nat → Prop} {θ : Th} : ∀ (d D : Nat) (t : TypeId), d ≤ D → plainEq P d t = true → ∀ (as bs : List SV) (u v : Value) (r : Bool), fitsAll P (leaves P d t) as = true → fitsAll P (leaves P d t) bs = true →
    TRel P ω w Im θ t as u → TRel P ω w Im θ t bs v → eqLeaves as bs = some r → (Op.equalIn D t u v).run P w = .ok r w
  | 0, _, t, _, h, _, _, _, _, _, _, _, _, _, _ => by simp [plainEq] at h
  | d + 1, 0, t, hd, _, _, _, _, _, _, _, _, _, _, _ => by omega
  | d + 1, D + 1, t, hd, h, as, bs, u, v, r, hfa, hfb, hA, hB, hr => by
    have hll := leaves_len (d + 1) t h
    unfold plainEq at h
    cases hu : P.underlying t with
    | none => simp [hu] at h
    | some k =>
      have leafcase : isAggT P t = false → leaves P (d + 1) t = [t] → (Op.equalIn (D + 1) t u v).run P w = .ok r w := by
        intro hag hlv
        rcases hA with ⟨hc, _⟩ | ⟨_, a, rfl, ha⟩
        · rw [hag] at hc; cases hc
        rcases hB with ⟨hc, _⟩ | ⟨_, b, rfl, hb⟩
        · rw [hag] at hc; cases hc
        rw [hlv] at hfa hfb
        simp only [fitsAll, Bool.and_true] at hfa hfb
        exact run_eqLeaf hfa hfb (by simpa [eqLeaves] using hr) ha hb
      cases k <;> simp only [hu] at h <;> first
        | (refine leafcase ?_ ?_ <;> (simp [isAggT, leaves, hu]; done))
        | (cases h; done)
        | skip
      · rename_i n e
        simp only [Bool.and_eq_true] at h
        have hne : n * P.cellsOf e = P.cellsOf t := Nat.eq_of_beq_eq_true h.2
        have hagg : isAggT P t = true := by simp [isAggT, hu]
        rcases hA with ⟨_, xs, rfl, hA⟩ | ⟨hc, _⟩
        · rcases hB with ⟨_, ys, rfl, hB⟩ | ⟨hc, _⟩
          · have hun : ∃ k, P.underlying e = some k := by
              cases d with
              | zero => simp [plainEq] at h
              | succ d =>
                have h1 := h.1
                unfold plainEq at h1
                cases hue : P.underlying e with
                | none => simp [hue] at h1
                | some k => exact ⟨k, rfl⟩
            obtain ⟨k, hk⟩ := hun
            have hone : isAggT P e = false → P.cellsOf e = 1 := by
              intro hf
              cases d with
              | zero => simp [plainEq] at h
              | succ d =>
                have h1 := h.1
                unfold plainEq at h1
                unfold isAggT at hf
                rw [hk] at h1 hf
                cases k <;> simp at h1 hf <;> first | exact h1 | skip
            obtain ⟨i, hi⟩ := Go.info_of_underlying hk
            rw [run_equalIn_array w D xs ys hu hi, List.range_eq_range']
            have hlv : leaves P (d + 1) t = repL n (leaves P d e) := by simp [leaves, hu]
            rw [hlv] at hfa hfb hll
            have la := fitsAll_len hfa
            have lb := fitsAll_len hfb
            refine run_eqItems_rel hk hone (leaves_len d e h.1) hA hB (fun as bs u v r => run_equalIn_plain d D e (by omega) h.1 as bs u v r) n 0 r (by simp; omega) (by simp; omega) ?_ ?_ ?_
            · simpa [hne, ← hll, ← la] using hfa
            · simpa [hne, ← hll, ← lb] using hfb
            · have e1 : n * P.cellsOf e = as.length := by omega
              have e2 : n * P.cellsOf e = bs.length := by omega
              simp only [Nat.zero_mul, List.drop_zero]
              rw [show as.take (n * P.cellsOf e) = as by rw [e1]; simp, show bs.take (n * P.cellsOf e) = bs by rw [e2]; simp]
              exact hr
          · rw [hagg] at hc; cases hc
        · rw [hagg] at hc; cases hc
      · rename_i fs
        simp only [Bool.and_eq_true] at h
        have hagg : isAggT P t = true := by simp [isAggT, hu]
        rcases hA with ⟨_, xs, rfl, hA⟩ | ⟨hc, _⟩
        · rcases hB with ⟨_, ys, rfl, hB⟩ | ⟨hc, _⟩
          · have hfo : P.fieldsOf t = fs := by simp [Program.fieldsOf, hu]
            rw [run_equalIn_struct w D t xs ys (by rw [hfo]; exact hu) (by simpa using h.1), hfo]
            have hlv : leaves P (d + 1) t = fs.toList.flatMap fun f => leaves P d f.type := by simp [leaves, hu]
            rw [hlv] at hfa hfb hll
            have la := fitsAll_len hfa
            have lb := fitsAll_len hfb
            refine run_eqFields_rel hA hB (fun t ht => run_equalIn_plain d D t (by omega) ht) fs.toList 0 (P.cellsOf t) r h.2 (by omega) (by omega) ?_ ?_ ?_
            · simpa [show (P.cellsOf t) = as.length by omega] using hfa
            · simpa [show (P.cellsOf t) = bs.length by omega] using hfb
            · simp only [List.drop_zero, Nat.sub_zero]
              rw [show as.take (P.cellsOf t) = as by rw [show P.cellsOf t = as.length by omega]; simp, show bs.take (P.cellsOf t) = bs by rw [show P.cellsOf t = bs.length by omega]; simp]
              exact hr
          · rw [hagg] at hc; cases hc
        · rw [hagg] at hc; cases hc

end Go.Am
