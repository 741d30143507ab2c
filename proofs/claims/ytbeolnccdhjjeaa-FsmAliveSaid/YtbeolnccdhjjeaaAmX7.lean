/- The abstract machine: stores into lists, maps. -/
import Derived.Test.YtbeolnccdhjjeaaAmX6
namespace Go.Am
variable {P : Program} {ω : Nat → Value}

theorem setRow_put {w : World} {b : Nat} {cs cs' : Array Value} {T : TypeId} {fr : Nat × Nat} (hb : w.heap[b]? = some (.cells cs T fr)) : w.setRow b cs' = w.putObj b (.cells cs' T fr) := by
  have hlt : b < w.heap.size := heap_lt hb
  have hv : w.heap[b] = .cells cs T fr := (Array.getElem?_eq_some_iff.1 hb).2
  unfold World.setRow World.putObj
  congr 1
  apply Array.ext
  · simp
  · intro i h1 h2
    simp only [Array.getElem_modify]
    by_cases h : b = i
    · subst h; simp [hv]
    · rw [if_neg h]; exact (Array.getElem_setIfInBounds_ne (by simpa using h2) h).symm

theorem seg_get {α : Type} (l vs : List α) (o : Nat) (h : o + vs.length ≤ l.length) (j : Nat) : (l.take o ++ vs ++ l.drop (o + vs.length))[j]? = if o ≤ j ∧ j < o + vs.length then vs[j - o]? else l[j]? := by
  have h1 : (l.take o).length = o := by simp; omega
  by_cases hj : j < o
  · rw [if_neg (by omega), List.append_assoc, List.getElem?_append_left (by omega), List.getElem?_take, if_pos hj]
  · by_cases hj2 : j < o + vs.length
    · rw [if_pos ⟨by omega, hj2⟩, List.append_assoc, List.getElem?_append_right (by omega), List.getElem?_append_left (by omega), h1]
    · rw [if_neg (by omega), List.getElem?_append_right (by simp; omega), List.getElem?_drop]
      congr 1
      simp; omega

section
variable {w : World} {Im : Nat → Prop} {θ : Th} {h : HpF}

theorem run_storeX {t : TypeId} {a v : SV} {nx nx' : Nat} {r : SV} {ups : List (Nat × Option Chunk)} {rs : List Nat} (hr : HRel P ω w Im θ h) (hm : mrun h (storeX P t a v nx) = some (r, ups, nx', rs)) {ua uv : Value} (hx : VRel P ω w Im θ a ua) (hv : VRel P ω w Im θ v uv) :
    ∃ w' Im', (Instr.storeAt t ua uv).run P w = .ok () w' ∧ r = .junk ∧ nx' = nx ∧ Ext (fun _ => False) h w Im θ (updF ups h) w' Im' θ ∧ HRel P ω w' Im' θ (updF ups h) := by
  unfold storeX at hm
  split at hm
  case h_2 => simp [mrun] at hm
  rename_i y sz k off
  have hb0 := bif_fail hm; clear hm; obtain ⟨hkt, hm⟩ := hb0
  obtain ⟨it, hit⟩ := known_info hkt
  have hb0 := get_run hm; clear hm; obtain ⟨c, rs', hy, hm, rfl⟩ := hb0
  cases c with
  | seq e es =>
    have hb0 := bif_fail hm; clear hm; obtain ⟨hk, hm⟩ := hb0
    have : sz = P.cellsOf e := Nat.eq_of_beq_eq_true hk
    subst this
    split at hm
    case h_2 => simp [mrun] at hm
    rename_i cs hcs
    obtain ⟨v', ys, rs1, hm, f1, f2, f3, f4⟩ := frzM_run hr hv hm
    split at hm
    case h_2 => simp [mrun] at hm
    rename_i vs hvs
    have hb0 := bif_fail hm; clear hm; obtain ⟨hk2, hm⟩ := hb0
    simp only [Bool.and_eq_true, Bool.not_eq_true'] at hk2
    split at hm
    case h_2 => simp [mrun] at hm
    rename_i cs' hcs'
    split at hm
    case h_2 => simp [mrun] at hm
    rename_i nw hnw
    have hb0 := bif_fail hm; clear hm; obtain ⟨hk3, hm⟩ := hb0
    simp only [Bool.and_eq_true] at hk3
    have hb0 := mrun_ite_fail' hm; clear hm; obtain ⟨hkl0, hm⟩ := hb0
    obtain ⟨rfl, rfl, rfl, rfl⟩ := mrun_done hm
    have hkl : k < es.length := of_decide_eq_true hkl0
    have hvl : vs.length = P.cellsOf t := Nat.eq_of_beq_eq_true hk2.1
    have hys : y ∉ ys := fun hh => by rw [(memN_iff' _ _).2 hh] at hk2; exact absurd hk2.2 (by simp)
    have hcl : cs'.length = P.cellsOf e := Nat.eq_of_beq_eq_true hk3.2
    obtain ⟨hE1, hH1⟩ := drop_step hr (new := fun _ => False) ys
    have hy1 : updF (drops ys) h y = some (.seq e es) := updF_drops_some.2 ⟨hys, hy⟩
    cases hx with
    | qp hθ =>
      rename_i b N
      rcases hH1.at_ y _ hy1 with ⟨_, h3⟩ | ⟨b', N', ca, T, fr, us, h3, h4, h5, h6, h7, h8, h9⟩
      · rw [h3] at hθ; cases hθ
      · rw [hθ] at h3
        simp only [Option.some.injEq, Prod.mk.injEq] at h3
        obtain ⟨rfl, rfl⟩ := h3
        have hget : es[k]? = some es[k] := by simp [hkl]
        obtain ⟨g1, g2, g3⟩ := h9 k es[k] hget
        have hex : expand P e (es.getD k .junk) = es[k] := by
          have : es.getD k .junk = es[k] := by simp [List.getD_eq_getElem?_getD, hget]
          rw [this, h8 _ (List.getElem_mem hkl)]
        rw [hex] at hcs
        obtain ⟨hle, rfl⟩ := splice_spec _ _ _ _ hcs'
        have hcr := cells_rel g1 hcs
        have hvr := cells_rel f1 hvs
        have hul : uv.cells.toList.length = vs.length := hvr.len.symm
        have hcsl : cs.length = P.cellsOf e := by
          have h1 := hcr.len
          simp only [Array.length_toList] at h1
          omega
        have hkb : (k + 1) * P.cellsOf e ≤ es.length * P.cellsOf e := Nat.mul_le_mul_right _ hkl
        have hkb2 : (k + 1) * P.cellsOf e = k * P.cellsOf e + P.cellsOf e := by rw [Nat.add_mul]; omega
        have hone : ∀ u ∈ uv.cells.toList, u.oneCell' = true := hvr.one (oneS_one hvs)
        have hroom : k * P.cellsOf e + off + uv.cells.toList.length ≤ ca.size := by omega
        have hst := run_storeCells_fine P b (k * P.cellsOf e + off) T fr uv.cells.toList 0 ca w h4 h5 (by simpa using hroom) hone
        simp only [Nat.add_zero] at hst
        generalize hcells : (ca.toList.take (k * P.cellsOf e + off) ++ uv.cells.toList ++ ca.toList.drop (k * P.cellsOf e + off + uv.cells.toList.length)).toArray = cells at hst
        have hcsz : cells.size = ca.size := by
          rw [← hcells]
          simp only [List.size_toArray, List.length_append, List.length_take, List.length_drop, Array.length_toList] at hroom ⊢
          omega
        rw [setRow_put h4] at hst
        -- the new element
        have hnl := ((hcr.takeL off).append hvr).append (hcr.dropL (off + vs.length))
        have hnew : ∃ u', VRel P om0 w (frozenBy Im θ h ys) noTh nw u' ∧ u'.cells.size = P.cellsOf e ∧ ∀ (d : Nat) (c : Value), u'.cells[d]? = some c → ((us k).cells.toList.take off ++ uv.cells.toList ++ (us k).cells.toList.drop (off + vs.length))[d]? = some c := by
          cases ha : isAggT P e with
          | true =>
            rw [ha] at hnw
            simp only [cond_true, Option.some.injEq] at hnw
            subst hnw
            refine ⟨.agg ((us k).cells.toList.take off ++ uv.cells.toList ++ (us k).cells.toList.drop (off + vs.length)).toArray, .agg (by simpa using hnl.len) (fun i v u hv hu => hnl.at_ i v u hv (by simpa using hu)), ?_, fun d c hd => by simpa [Value.cells] using hd⟩
            have := hnl.len
            rw [hcl] at this
            simpa [Value.cells] using this.symm
          | false =>
            rw [ha] at hnw
            simp only [cond_false] at hnw
            cases h1 : Nat.beq (P.cellsOf e) 1 with
            | false => simp [h1] at hnw
            | true =>
              simp only [h1, cond_true, nth?_eq] at hnw
              have h1' : P.cellsOf e = 1 := Nat.eq_of_beq_eq_true h1
              have hlen2 := hnl.len
              rw [hcl, h1'] at hlen2
              obtain ⟨u', hu'⟩ : ∃ u', ((us k).cells.toList.take off ++ uv.cells.toList ++ (us k).cells.toList.drop (off + vs.length))[0]? = some u' := by
                rw [List.getElem?_eq_getElem (by omega)]; exact ⟨_, rfl⟩
              have hrel := hnl.at_ 0 nw u' hnw hu'
              have hf := hk3.1
              unfold fits at hf
              rw [ha] at hf
              simp only [cond_false] at hf
              have hc1 := cells_one (one_of_oneS hrel (expandLeaf_fits hf).2)
              refine ⟨u', hrel, by rw [hc1, h1']; rfl, fun d c hd => ?_⟩
              rw [hc1] at hd
              cases d with
              | zero => simp at hd; subst hd; exact hu'
              | succ d => simp at hd
        obtain ⟨u', n1, n2, n3⟩ := hnew
        have hfn := (fits_free (ω' := om0) (θ' := noTh) hk3.1 n1).2
        obtain ⟨hE2, hH2⟩ := put_block hH1 hy1 hθ (.cells cells T fr) (some (.seq e (es.set k nw))) (fun hI d hd => by
          cases hd
          refine .inr ⟨b, N, cells, T, fr, fun i => if i = k then u' else us i, hθ, World.putObj_heap_same (heap_lt h4), by rw [hcsz]; exact h5, ⟨by rw [hcsz, h6.1], h6.2⟩, by simpa using h7, fun v hv => ?_, fun i v hv => ?_⟩
          · rcases List.mem_or_eq_of_mem_set hv with hv | rfl
            · exact h8 v hv
            · exact hfn
          · rw [List.getElem?_set] at hv
            by_cases hik : k = i
            · subst hik
              rw [if_pos rfl, if_pos hkl, Option.some.injEq] at hv
              subst hv
              simp only [if_true]
              refine ⟨n1.mono hI (fun _ _ h => h), n2, fun d c hd => ?_⟩
              have hdl : d < P.cellsOf e := by
                rw [← n2]
                rcases Nat.lt_or_ge d u'.cells.size with h1 | h1
                · exact h1
                · simp [Array.getElem?_eq_none h1] at hd
              have := n3 d c hd
              rw [← hul] at this
              rw [seg_get _ _ _ (by simp only [Array.length_toList]; have := hcr.len; simp only [Array.length_toList] at this; omega)] at this
              rw [← hcells]
              simp only [List.getElem?_toArray]
              rw [seg_get _ _ _ (by simpa using hroom)]
              by_cases hc : off ≤ d ∧ d < off + uv.cells.toList.length
              · rw [if_pos hc] at this
                rw [if_pos (by omega)]
                rw [← this]; congr 1; omega
              · rw [if_neg hc] at this
                rw [if_neg (by omega)]
                simpa using g3 d c (by simpa using this)
            · rw [if_neg hik] at hv
              have hik' : ¬ i = k := fun e => hik e.symm
              simp only [if_neg hik']
              obtain ⟨q1, q2, q3⟩ := h9 i v hv
              refine ⟨q1.mono hI (fun _ _ h => h), q2, fun d c hd => ?_⟩
              have hdl : d < P.cellsOf e := by
                rw [← q2]
                rcases Nat.lt_or_ge d (us i).cells.size with h1 | h1
                · exact h1
                · simp [Array.getElem?_eq_none h1] at hd
              rw [← hcells]
              simp only [List.getElem?_toArray]
              rw [seg_get _ _ _ (by simpa using hroom), if_neg]
              · simpa using q3 d c hd
              · intro hc
                rcases Nat.lt_or_gt_of_ne hik' with h1 | h1
                · have : (i + 1) * P.cellsOf e ≤ k * P.cellsOf e := Nat.mul_le_mul_right _ h1
                  rw [Nat.add_mul] at this
                  omega
                · have : (k + 1) * P.cellsOf e ≤ i * P.cellsOf e := Nat.mul_le_mul_right _ h1
                  rw [Nat.add_mul] at this
                  omega)
        have hsz : (sizeOf t).run P w = .ok (P.cellsOf t) w := run_sizeOf' hit w
        refine ⟨w.putObj b (.cells cells T fr), frozenBy Im θ h ys, ?_, rfl, rfl, by rw [updF_app]; exact hE1.trans hE2, by rw [updF_app]; exact hH2⟩
        simp [Instr.storeAt, Instr.sureAddr, storeVar, hsz, f3, hst]
  | cells => simp [mrun] at hm
  | loopr => simp [mrun] at hm
  | mpc => simp [mrun] at hm

/- Maps. -/
theorem findM_run {key : SV} {hit : Nat → OpM} {miss : OpM} {res : SV × List (Nat × Option Chunk) × Nat × List Nat} : ∀ (xs : List SV) (i : Nat), mrun h (findM key hit miss xs i) = some res →
    (∃ j x, xs[j]? = some x ∧ keyEq key x = some true ∧ (∀ j' x', j' < j → xs[j']? = some x' → keyEq key x' = some false) ∧ mrun h (hit (i + j)) = some res) ∨ ((∀ x ∈ xs, keyEq key x = some false) ∧ mrun h miss = some res)
  | [], i, hm => .inr ⟨(fun x hx => by cases hx), hm⟩
  | x :: xs, i, hm => by
    simp only [findM] at hm
    cases hk : keyEq key x with
    | none => simp [hk, mrun] at hm
    | some b =>
      simp only [hk, mrun] at hm
      cases b with
      | true => exact .inl ⟨0, x, rfl, hk, fun j' x' hj => by omega, by simpa using hm⟩
      | false =>
        simp only [Bool.false_eq_true, if_false] at hm
        rcases findM_run xs (i + 1) hm with ⟨j, y, h1, h2, h3, h4⟩ | ⟨h1, h2⟩
        · refine .inl ⟨j + 1, y, by simpa using h1, h2, fun j' x' hj hx => ?_, by rw [show i + (j + 1) = i + 1 + j by omega]; exact h4⟩
          cases j' with
          | zero => simp at hx; subst hx; exact hk
          | succ j' => exact h3 j' x' (by omega) (by simpa using hx)
        · refine .inr ⟨fun y hy => ?_, h2⟩
          rcases List.mem_cons.1 hy with rfl | hy
          · exact hk
          · exact h1 y hy

theorem keyT_is {kt : TypeId} {k : SV} (hk : keyT P kt k = true) {u : Value} (hv : VRel P ω w Im θ k u) : ∃ d, P.underlying kt = some d ∧ MapKept.IsKey d u := by
  unfold keyT at hk
  split at hk
  · rename_i a b n hu
    cases hv
    have : a = b := by cases a <;> cases b <;> first | rfl | (simp [ikEq] at hk)
    subst this
    exact ⟨_, hu, by simp [MapKept.IsKey]⟩
  · rename_i hu; cases hv; exact ⟨_, hu, by simp [MapKept.IsKey]⟩
  · rename_i hu; cases hv; exact ⟨_, hu, by simp [MapKept.IsKey]⟩
  · cases hk

theorem keyEq_now {d : TypeDesc} {k x : SV} {u v : Value} {b : Bool} (hu : VRel P ω w Im θ k u) (hv : VRel P ω w Im θ x v) (hk : MapKept.IsKey d u) (h : keyEq k x = some b) : Instr.sameNow d u v = some b ∧ (b = true → u = v) := by
  unfold keyEq at h
  split at h
  · rename_i k1 a k2 c
    cases hu
    cases hv
    cases hb : ikEq k1 k2 with
    | false => simp [hb] at h
    | true =>
      have : k1 = k2 := by cases k1 <;> cases k2 <;> first | rfl | (simp [ikEq] at hb)
      subst this
      simp only [hb, cond_true, Option.some.injEq] at h
      subst h
      cases d <;> simp [MapKept.IsKey] at hk
      subst hk
      exact ⟨by simp [Instr.sameNow], fun h => by simp at h; rw [h]⟩
  · rename_i a c
    cases hu with
    | str h1 =>
      cases hv with
      | str h2 =>
        rename_i s1 s2
        simp only [Option.some.injEq] at h
        subst h
        cases d <;> simp [MapKept.IsKey] at hk
        have hiff : (s1 == s2) = (a == c) := by
          rw [Bool.eq_iff_iff, MapKept.bytes_beq]
          simp only [beq_iff_eq]
          rw [← h1, ← h2]
          constructor
          · intro e; rw [e]
          · intro e
            obtain ⟨x⟩ := s1
            obtain ⟨y⟩ := s2
            congr 1
            exact Array.ext' e
        refine ⟨by simp [Instr.sameNow, hiff], fun h => ?_⟩
        rw [← hiff, MapKept.bytes_beq] at h
        rw [h]
  · rename_i a c
    cases hu
    cases hv
    simp only [Option.some.injEq] at h
    subst h
    cases d <;> simp [MapKept.IsKey] at hk
    exact ⟨by simp [Instr.sameNow], fun h => by simp at h; rw [h]⟩
  · cases h

theorem findNow_hit {d : TypeDesc} {k : SV} {u : Value} (hu : VRel P ω w Im θ k u) (hk : MapKept.IsKey d u) : ∀ (es : List MapEntry) (ks : List SV) (i j : Nat) (x : SV), LRel P ω w Im θ ks (es.map (·.key)) → ks[j]? = some x → keyEq k x = some true → (∀ j' x', j' < j → ks[j']? = some x' → keyEq k x' = some false) →
    ∃ e, es[j]? = some e ∧ e.key = u ∧ Instr.findNow d u es i = some (some (i + j, e.val))
  | [], ks, i, j, x, hl, hj, _, _ => by have := hl.len; simp at this; subst this; simp at hj
  | e :: es, [], i, j, x, hl, hj, _, _ => by simp at hj
  | e :: es, k0 :: ks, i, j, x, hl, hj, ht, hf => by
    have h0 := hl.at_ 0 k0 e.key rfl rfl
    have hl' : LRel P ω w Im θ ks (es.map (·.key)) := ⟨by have := hl.len; simpa using this, fun i v u hv hu => hl.at_ (i + 1) v u (by simpa using hv) (by simpa using hu)⟩
    cases j with
    | zero =>
      simp at hj
      subst hj
      obtain ⟨h1, h2⟩ := keyEq_now hu h0 hk ht
      exact ⟨e, rfl, (h2 rfl).symm, by simp [Instr.findNow, h1]⟩
    | succ j =>
      obtain ⟨h1, _⟩ := keyEq_now hu h0 hk (hf 0 k0 (by omega) rfl)
      obtain ⟨e', g1, g2, g3⟩ := findNow_hit hu hk es ks (i + 1) j x hl' (by simpa using hj) ht (fun j' x' hj' hx' => hf (j' + 1) x' (by omega) (by simpa using hx'))
      refine ⟨e', by simpa using g1, g2, ?_⟩
      simp only [Instr.findNow, h1, g3]
      congr 3
      omega
theorem findNow_miss {d : TypeDesc} {k : SV} {u : Value} (hu : VRel P ω w Im θ k u) (hk : MapKept.IsKey d u) : ∀ (es : List MapEntry) (ks : List SV) (i : Nat), LRel P ω w Im θ ks (es.map (·.key)) → (∀ x ∈ ks, keyEq k x = some false) → Instr.findNow d u es i = some none
  | [], ks, i, hl, _ => rfl
  | e :: es, [], i, hl, _ => by have := hl.len; simp at this
  | e :: es, k0 :: ks, i, hl, hf => by
    have h0 := hl.at_ 0 k0 e.key rfl rfl
    have hl' : LRel P ω w Im θ ks (es.map (·.key)) := ⟨by have := hl.len; simpa using this, fun i v u hv hu => hl.at_ (i + 1) v u (by simpa using hv) (by simpa using hu)⟩
    obtain ⟨h1, _⟩ := keyEq_now hu h0 hk (hf k0 (by simp))
    simp only [Instr.findNow, h1]
    exact findNow_miss hu hk es ks (i + 1) hl' (fun x hx => hf x (by simp [hx]))

theorem setN_eq {α : Type} : ∀ (l : List α) (i : Nat) (v : α), setN l i v = l.set i v
  | [], _, _ => rfl
  | _ :: _, 0, _ => rfl
  | x :: l, i + 1, v => by simp [setN, setN_eq l i v]

theorem sameBits_key {d : TypeDesc} {u : Value} (hk : MapKept.IsKey d u) : Instr.sameBits 10000 u u = true := by
  have : (10000 : Nat) = 9999 + 1 := rfl
  rw [this]
  cases d <;> cases u <;> simp [MapKept.IsKey] at hk <;> simp [Instr.sameBits]
  exact (MapKept.bytes_beq _ _).2 rfl

theorem run_mapSetX {t : TypeId} {m k v : SV} {nx nx' : Nat} {r : SV} {ups : List (Nat × Option Chunk)} {rs : List Nat} (hr : HRel P ω w Im θ h) (hm : mrun h (mapSetX P t m k v nx) = some (r, ups, nx', rs)) {um uk uv : Value} (h1 : VRel P ω w Im θ m um) (h2 : VRel P ω w Im θ k uk) (h3 : VRel P ω w Im θ v uv) :
    ∃ w', (Instr.mapUpdate t um uk uv).run P w = .ok () w' ∧ r = .junk ∧ nx' = nx ∧ Ext (fun _ => False) h w Im θ (updF ups h) w' Im θ ∧ HRel P ω w' Im θ (updF ups h) := by
  unfold mapSetX at hm
  split at hm
  case h_2 => simp [mrun] at hm
  rename_i kt et y hu
  have hb0 := bif_fail hm; clear hm; obtain ⟨hkt, hm⟩ := hb0
  obtain ⟨d, hd, hkey⟩ := keyT_is hkt h2
  have hb0 := get_run hm; clear hm; obtain ⟨c, rs', hy, hm, rfl⟩ := hb0
  cases c with
  | mpc ks vs =>
    have hb0 := bif_fail hm; clear hm; obtain ⟨hlen0, hm⟩ := hb0
    have hlen : ks.length = vs.length := Nat.eq_of_beq_eq_true hlen0
    cases h1 with
    | mp hθ =>
      rename_i b N
      obtain ⟨b', N', es, cl, g1, g2, g3, g4, g5⟩ := hr.at_ y _ hy
      rw [hθ] at g1
      simp only [Option.some.injEq, Prod.mk.injEq] at g1
      obtain ⟨rfl, rfl⟩ := g1
      have hck := MapKept.run_checkKey (P := P) (w := w) hd hkey false 9999
      have hel : es.toList.length = vs.length := by have := g4.len; simp at this ⊢; omega
      rcases findM_run ks 0 hm with ⟨j, x, f1, f2, f3, hm2⟩ | ⟨f1, hm2⟩
      · obtain ⟨rfl, rfl, rfl, _⟩ := mrun_done hm2
        obtain ⟨e, e1, e2, e3⟩ := findNow_hit h2 hkey es.toList ks 0 j x g3 f1 f2 f3
        have hfk := MapKept.run_findKey (P := P) (w := w) hd e3
        have hj : j < es.size := by
          rcases Nat.lt_or_ge j es.size with h5 | h5
          · exact h5
          · simp [Array.getElem?_eq_none h5] at e1
        have hej : es[j]? = some e := by simpa using e1
        have hsame : (Instr.keyThatStays (((es[j]?).map (·.key)).getD uk) uk).run P w = .ok uk w := by
          simp [hej, e2, Instr.keyThatStays, sameBits_key hkey]
        refine ⟨w.putObj b (.map (es.modify j fun e => { e with key := uk, val := uv }) cl), ?_, rfl, rfl, ?_⟩
        · have hset := MapKept.run_setObj_map (P := P) (.map (es.modify j fun e => { e with key := uk, val := uv }) cl) g2
          simp only [Nat.zero_add] at hfk
          have hck' : (Instr.checkKey false 10000 kt uk).run P w = .ok () w := hck
          simp [Instr.mapUpdate, run_underlying hu, MapKept.run_getObj_map g2, hck', hfk, hsame, hset, World.putObj]
        · refine put_block hr hy hθ _ _ (fun hI d hd => ?_)
          cases hd
          have hmod : (es.modify j fun e => { e with key := uk, val := uv }).toList = es.toList.set j { e with key := uk, val := uv } := by
            apply List.ext_getElem?
            intro i
            simp only [Array.getElem?_toList, Array.getElem?_modify, List.getElem?_set]
            by_cases hij : j = i
            · subst hij
              have hje : es[j] = e := (Array.getElem?_eq_some_iff.1 hej).2
              simp [hj, hje]
            · simp [hij]
          refine ⟨b, N, _, cl, hθ, World.putObj_heap_same (heap_lt g2), ?_, ?_, ?_⟩
          · rw [hmod, List.map_set]
            have : (es.toList.map (·.key)).set j uk = es.toList.map (·.key) := by
              apply List.ext_getElem?
              intro i
              rw [List.getElem?_set]
              by_cases hij : j = i
              · subst hij
                have hjl : j < (es.toList.map (·.key)).length := by simpa using hj
                rw [if_pos rfl, if_pos hjl]
                simp [hej, e2]
              · rw [if_neg hij]
            simp only [this]
            exact g3.mono hI (fun _ _ h => h)
          · rw [hmod, List.map_set]
            rw [Nat.zero_add, setN_eq]
            refine ⟨by simpa using g4.len, fun i v' u' hv hu' => ?_⟩
            rw [List.getElem?_set] at hv hu'
            by_cases hij : j = i
            · subst hij
              have h6 : j < vs.length := by have : j < es.toList.length := by simpa using hj
                                            omega
              have h7 : j < (es.toList.map (·.val)).length := by simpa using hj
              rw [if_pos rfl, if_pos h6, Option.some.injEq] at hv
              rw [if_pos rfl, if_pos h7, Option.some.injEq] at hu'
              subst hv; subst hu'
              exact h3.mono hI (fun _ _ h => h)
            · rw [if_neg hij] at hv hu'
              exact (g4.at_ i v' u' hv hu').mono hI (fun _ _ h => h)
          · intro x hx
            rw [hmod] at hx
            rcases List.mem_or_eq_of_mem_set hx with hx | rfl
            · exact g5 x hx
            · exact g5 e (List.mem_of_getElem? e1)
      · obtain ⟨rfl, rfl, rfl, _⟩ := mrun_done hm2
        have hfk := MapKept.run_findKey (P := P) (w := w) hd (findNow_miss h2 hkey es.toList ks 0 g3 f1)
        refine ⟨w.putObj b (.map (es.push { key := uk, val := uv, born := cl }) (cl + 1)), ?_, rfl, rfl, ?_⟩
        · have hset := MapKept.run_setObj_map (P := P) (.map (es.push { key := uk, val := uv, born := cl }) (cl + 1)) g2
          have hck' : (Instr.checkKey false 10000 kt uk).run P w = .ok () w := hck
          simp [Instr.mapUpdate, run_underlying hu, MapKept.run_getObj_map g2, hck', hfk, hset, World.putObj]
        · refine put_block hr hy hθ _ _ (fun hI d hd => ?_)
          cases hd
          have one : ∀ {v : SV} {u : Value}, VRel P ω w Im θ v u → LRel P ω w Im θ [v] [u] := fun hv => ⟨rfl, fun i v u h1 h2 => by
            cases i with
            | zero => simp at h1 h2; subst h1; subst h2; exact hv
            | succ i => simp at h1⟩
          refine ⟨b, N, _, cl + 1, hθ, World.putObj_heap_same (heap_lt g2), ?_, ?_, ?_⟩
          · simp only [Array.toList_push, List.map_append, List.map_cons, List.map_nil]
            exact (g3.append (one h2)).mono hI (fun _ _ h => h)
          · simp only [Array.toList_push, List.map_append, List.map_cons, List.map_nil]
            exact (g4.append (one h3)).mono hI (fun _ _ h => h)
          · intro x hx
            simp only [Array.toList_push, List.mem_append, List.mem_singleton] at hx
            rcases hx with hx | rfl
            · have := g5 x hx; omega
            · simp
  | cells => simp [mrun] at hm
  | loopr => simp [mrun] at hm
  | seq => simp [mrun] at hm

theorem run_lookupX {t : TypeId} {m k : SV} {ok : Bool} {nx nx' : Nat} {r : SV} {ups : List (Nat × Option Chunk)} {rs : List Nat} (hr : HRel P ω w Im θ h) (hm : mrun h (lookupX P t m k ok nx) = some (r, ups, nx', rs)) {um uk : Value} (h1 : VRel P ω w Im θ m um) (h2 : VRel P ω w Im θ k uk) :
    ∃ v, (Instr.lookup t um uk ok).run P w = .ok v w ∧ VRel P ω w Im θ r v ∧ ups = [] ∧ nx' = nx := by
  have pair : ∀ {v : SV} {u : Value} (b : Bool), VRel P ω w Im θ v u → VRel P ω w Im θ (bif ok then .tup [v, .bool b] else v) (if ok = true then .tuple #[u, .bool b] else u) := by
    intro v u b hv
    cases ok with
    | false => simpa using hv
    | true =>
      refine .tup rfl (fun i x y hx hy => ?_)
      match i, hx, hy with
      | 0, hx, hy => cases hx; cases hy; exact hv
      | 1, hx, hy => cases hx; cases hy; exact .bool
  have hzero : ∀ {et : TypeId} {z : SV}, zeroS P et = some z → ∃ uz, (zeroValue et).run P w = .ok uz w ∧ VRel P ω w Im θ z uz := by
    intro et z hz
    unfold zeroS at hz
    cases hi : P.info? et with
    | none => simp [hi] at hz
    | some i =>
      simp only [hi] at hz
      cases hzz : i.zero with
      | none => simp [hzz] at hz
      | some zv =>
        simp only [hzz, Option.some.injEq] at hz
        subst hz
        exact ⟨zv, by simp [zeroValue, typeInfo, hi, hzz], ofValue_rel (ω := ω) w Im θ zv⟩
  unfold lookupX at hm
  split at hm
  · rename_i kt et y hu
    have hb0 := bif_fail hm; clear hm; obtain ⟨hkt, hm⟩ := hb0
    obtain ⟨d, hd, hkey⟩ := keyT_is hkt h2
    split at hm
    case h_2 => simp [mrun] at hm
    rename_i z hz
    obtain ⟨uz, hz1, hz2⟩ := hzero hz
    have hb0 := get_run hm; clear hm; obtain ⟨c, rs', hy, hm, rfl⟩ := hb0
    cases c with
    | mpc ks vs =>
      cases h1 with
      | mp hθ =>
        rename_i b N
        obtain ⟨b', N', es, cl, g1, g2, g3, g4, g5⟩ := hr.at_ y _ hy
        rw [hθ] at g1
        simp only [Option.some.injEq, Prod.mk.injEq] at g1
        obtain ⟨rfl, rfl⟩ := g1
        have hck : (Instr.checkKey es.isEmpty 10000 kt uk).run P w = .ok () w := MapKept.run_checkKey (P := P) (w := w) hd hkey es.isEmpty 9999
        rcases findM_run ks 0 hm with ⟨j, x, f1, f2, f3, hm2⟩ | ⟨f1, hm2⟩
        · obtain ⟨e, e1, e2, e3⟩ := findNow_hit h2 hkey es.toList ks 0 j x g3 f1 f2 f3
          have hfk := MapKept.run_findKey (P := P) (w := w) hd e3
          simp only [nth?_eq, Nat.zero_add] at hm2
          split at hm2
          case h_2 => simp [mrun] at hm2
          rename_i v hv
          obtain ⟨rfl, rfl, rfl, _⟩ := mrun_done hm2
          have hval := g4.at_ j v e.val hv (by simp [e1])
          refine ⟨_, ?_, pair true hval, rfl, rfl⟩
          simp [Instr.lookup, run_underlying hu, MapKept.run_getObj_map g2, hck, hfk]
        · obtain ⟨rfl, rfl, rfl, _⟩ := mrun_done hm2
          have hfk := MapKept.run_findKey (P := P) (w := w) hd (findNow_miss h2 hkey es.toList ks 0 g3 f1)
          refine ⟨_, ?_, pair false hz2, rfl, rfl⟩
          simp [Instr.lookup, run_underlying hu, MapKept.run_getObj_map g2, hck, hfk, hz1]
    | cells => simp [mrun] at hm
    | loopr => simp [mrun] at hm
    | seq => simp [mrun] at hm
  · rename_i kt et hu
    have hb0 := bif_fail hm; clear hm; obtain ⟨hkt, hm⟩ := hb0
    obtain ⟨d, hd, hkey⟩ := keyT_is hkt h2
    split at hm
    case h_2 => simp [mrun] at hm
    rename_i z hz
    obtain ⟨uz, hz1, hz2⟩ := hzero hz
    obtain ⟨rfl, rfl, rfl, rfl⟩ := mrun_done hm
    cases h1
    have hck : ∀ b, (Instr.checkKey b 10000 kt uk).run P w = .ok () w := fun b => MapKept.run_checkKey (P := P) (w := w) hd hkey b 9999
    have hfk := MapKept.run_findKey (P := P) (w := w) (k := uk) (l := []) (a := none) hd rfl
    refine ⟨_, ?_, pair false hz2, rfl, rfl⟩
    simp [Instr.lookup, run_underlying hu, hck, hfk, hz1]
  · simp [mrun] at hm
end
end Go.Am
