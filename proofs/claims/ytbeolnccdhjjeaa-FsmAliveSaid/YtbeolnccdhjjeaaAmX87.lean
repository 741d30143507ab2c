/- The abstract machine: copy onto a grown list; bytes that nobody knows. -/
import Derived.Test.YtbeolnccdhjjeaaAmX85
import Derived.Lib.MakeNoZero
namespace Go.Am
variable {P : Program} {ω : Nat → Value}

theorem flat_one {us : Nat → Value} {m : Nat} (h : ∀ i, i < m → (us i).cells.size = 1) {i : Nat} (hi : i < m) {c : Value} (hc : (us i).cells[0]? = some c) : (flat us m)[i]? = some c := by
  have hl := flat_len m h
  have hlt : i < (flat us m).length := by omega
  have h1 : (us i).cells[0]? = some (flat us m)[i] := flat_at (us := us) (sz := 1) (m := m) h (at_ := fun k => (us k).cells[0]?) (fun k hk d c hd => by
    have hdl : d < 1 := by
      rw [← h k hk]
      rcases Nat.lt_or_ge d (us k).cells.size with h1 | h1
      · exact h1
      · simp [Array.getElem?_eq_none h1] at hd
    have : d = 0 := by omega
    subst this
    simpa using hd) i (flat us m)[i] (by simp [hlt])
  rw [hc] at h1
  rw [h1]
  simp [hlt]

section
variable {w : World} {Im : Nat → Prop} {θ : Th} {h : HpF}

theorem frozen_nil {b : Nat} (hb : frozenBy Im θ h [] b) : Im b := by
  rcases hb with hb | ⟨y, hy, _⟩
  · exact hb
  · cases hy

theorem run_copyX {t t' : TypeId} {d s : SV} {nx nx' : Nat} {r : SV} {ups : List (Nat × Option Chunk)} {rs : List Nat} (hr : HRel P ω w Im θ h) (hm : mrun h (copyX P t t' d s nx) = some (r, ups, nx', rs)) {ud us : Value} (hd : VRel P ω w Im θ d ud) (hs : VRel P ω w Im θ s us)
    {tys : Array TypeId} {ty : TypeId} {args : Array Value} (h0 : tys[0]? = some t) (ha : args = #[ud, us]) :
    ∃ v w', (Builtin.copy_ tys ty args).run P w = .ok v w' ∧ Ext (fun _ => False) h w Im θ (updF ups h) w' Im θ ∧ VRel P ω w' Im θ r v ∧ HRel P ω w' Im θ (updF ups h) ∧ nx' = nx := by
  unfold copyX at hm
  split at hm
  case h_2 => simp [mrun] at hm
  rename_i e y sz l m hu
  have hb0 := bif_fail hm; clear hm; obtain ⟨hk, hm⟩ := hb0
  simp only [Bool.and_eq_true] at hk
  have h1c : P.cellsOf e = 1 := Nat.eq_of_beq_eq_true hk.1.2
  have : sz = 1 := Nat.eq_of_beq_eq_true hk.2
  subst this
  have hpl := hk.1.1.2
  obtain ⟨xs, ys, rs1, uf, hm1, hel, hsrc⟩ := elemsM_run hr hpl hs hm
  clear hm
  split at hm1
  case h_2 => simp [mrun] at hm1
  have hb0 := get_run hm1; clear hm1; obtain ⟨c, rs', hy, hm, rfl⟩ := hb0
  cases c <;> try (simp [mrun] at hm; done)
  rename_i e' es
  have hb0 := bif_fail hm; clear hm; obtain ⟨hk2, hm⟩ := hb0
  have : e' = e := Nat.eq_of_beq_eq_true hk2
  subst this
  have hb0 := mrun_ite_fail' hm; clear hm; obtain ⟨hc, hm⟩ := hb0
  simp only [Bool.and_eq_true, decide_eq_true_eq] at hc
  obtain ⟨hxm, hle⟩ := hc
  obtain ⟨rfl, rfl, rfl, -⟩ := mrun_done hm
  have hne : P.cellsOf e' ≠ 0 := by rw [h1c]; decide
  obtain ⟨i, hi⟩ := info_of_cells hne
  have hisz : i.size = 1 := by simpa [Program.cellsOf, hi] using h1c
  have hsz1 : ∀ j, j < xs.length → (uf j).cells.size = 1 := by intro j hj; rw [← h1c]; exact hel.size j hj
  have hfl := flat_len xs.length hsz1
  rw [Nat.mul_one] at hfl
  have hlen := hsrc.len w
  have hcells := hsrc.cells w rfl
  rw [h1c] at hcells
  have hmin : Nat.min xs.length m = xs.length := Nat.min_eq_left hxm
  cases hd with
  | qsnil hm0 =>
    rename_i p
    subst hm0
    have hx0 : xs = [] := List.eq_nil_of_length_eq_zero (by omega)
    subst hx0
    have hrun : (Builtin.copy_ tys ty args).run P w = .ok (goInt 0) w := by
      subst ha
      simp only [List.length_nil, flat] at hcells hlen
      cases p <;> simp [Builtin.copy_, h0, run_underlying hu, hlen, sizeOf, typeInfo, hi, hisz, hcells, storeCells]
    have he : (es.take l ++ [] ++ es.drop (l + 0)) = es := by simp
    refine ⟨_, w, hrun, ?_, .int, ?_, rfl⟩
    · simp only [List.length_nil, he]
      have : updF [(y, some (Chunk.seq e' es))] h = h := by funext x; simp only [updF]; by_cases hx : x = y <;> simp [hx, hy]
      rw [this]
      exact Ext.refl _
    · simp only [List.length_nil, he]
      have : updF [(y, some (Chunk.seq e' es))] h = h := by funext x; simp only [updF]; by_cases hx : x = y <;> simp [hx, hy]
      rw [this]
      exact hr
  | qs hθ g1 g2 =>
    rename_i b N cap
    rw [Nat.mul_one] at g1
    rcases hr.at_ y _ hy with ⟨_, h3⟩ | ⟨b', N', cs, T, fr, uo, h3, h4, h5, ⟨h6, rfl⟩, h7, h8, h9⟩
    · rw [h3] at hθ; cases hθ
    · rw [h3] at hθ
      simp only [Option.some.injEq, Prod.mk.injEq] at hθ
      obtain ⟨rfl, rfl⟩ := hθ
      have hones : ∀ u ∈ flat uf xs.length, u.oneCell' = true := by
        intro u hu
        obtain ⟨k, hk, huk⟩ := flat_mem _ u hu
        have hrel := (hel.rel k xs[k] (by simp [hk])).1
        exact (plain_cells hpl (hel.fit _ (List.getElem_mem hk)) hrel).1 u huk
      have hroom : l + (flat uf xs.length).length ≤ cs.toList.length := by rw [hfl]; simp only [Array.length_toList]; omega
      have hst := run_storeCells_fine P b' l T fr (flat uf xs.length) 0 cs w h4 h5 (by simpa using hroom) hones
      simp only [Nat.add_zero] at hst
      generalize hcells' : (cs.toList.take l ++ flat uf xs.length ++ cs.toList.drop (l + (flat uf xs.length).length)).toArray = cells at hst
      have hcsz : cells.size = cs.size := by
        rw [← hcells']
        simp only [List.size_toArray, List.length_append, List.length_take, List.length_drop, Array.length_toList] at hroom ⊢
        omega
      rw [setRow_put h4] at hst
      have hrun : (Builtin.copy_ tys ty args).run P w = .ok (goInt xs.length) (w.putObj b' (.cells cells T fr)) := by
        subst ha
        simp [Builtin.copy_, h0, run_underlying hu, hlen, sizeOf, typeInfo, hi, hisz, hmin, hcells, hst]
      have hget : ∀ j, cells[j]? = if l ≤ j ∧ j < l + xs.length then (flat uf xs.length)[j - l]? else cs[j]? := by
        intro j
        rw [← hcells']
        simp only [List.getElem?_toArray]
        rw [seg_get _ _ _ hroom, hfl]
        simp
      have hone : ∀ {z : Value} {d : Nat} {c : Value}, z.cells.size = P.cellsOf T → z.cells[d]? = some c → d = 0 := by
        intro z d c hz hd
        rcases Nat.lt_or_ge d z.cells.size with h1 | h1
        · omega
        · simp [Array.getElem?_eq_none h1] at hd
      obtain ⟨hE, hH⟩ := put_block hr hy h3 (.cells cells T fr) (some (.seq T (es.take l ++ xs ++ es.drop (l + xs.length)))) (fun hI d hd => by
        cases hd
        refine .inr ⟨b', N', cells, T, fr, fun j => if l ≤ j ∧ j < l + xs.length then uf (j - l) else uo j, h3, World.putObj_heap_same (heap_lt h4), by rw [hcsz]; exact h5, ⟨by rw [hcsz, h6], rfl⟩, ?_, fun v hv => ?_, fun j v hv => ?_⟩
        · rw [h1c] at h7 ⊢
          simp only [List.length_append, List.length_take, List.length_drop]
          omega
        · rcases List.mem_append.1 hv with hv | hv
          · rcases List.mem_append.1 hv with hv | hv
            · exact h8 v (List.mem_of_mem_take hv)
            · exact hel.fit v hv
          · exact h8 v (List.mem_of_mem_drop hv)
        · have htl : (es.take l).length = l := by simp; omega
          by_cases hj : l ≤ j ∧ j < l + xs.length
          · have hv' : xs[j - l]? = some v := by
              rw [List.append_assoc, List.getElem?_append_right (by omega), htl, List.getElem?_append_left (by omega)] at hv
              exact hv
            obtain ⟨q1, q2⟩ := hel.rel (j - l) v hv'
            simp only [if_pos hj]
            refine ⟨q1.mono (fun b hb => hI b (frozen_nil hb)) (fun _ _ h => h), q2, fun d c hd => ?_⟩
            have := hone q2 hd
            subst this
            rw [h1c, Nat.mul_one, Nat.add_zero, hget, if_pos hj]
            exact flat_one hsz1 (by omega) hd
          · have hv' : es[j]? = some v := by
              rcases Nat.lt_or_ge j l with h1 | h1
              · rw [List.append_assoc, List.getElem?_append_left (by omega), List.getElem?_take, if_pos h1] at hv
                exact hv
              · rw [List.getElem?_append_right (by rw [List.length_append, htl]; omega), List.length_append, htl, List.getElem?_drop] at hv
                rw [← hv]
                congr 1
                omega
            obtain ⟨q1, q2, q3⟩ := h9 j v hv'
            simp only [if_neg hj]
            refine ⟨q1.mono hI (fun _ _ h => h), q2, fun d c hd => ?_⟩
            have hq := q3 d c hd
            have := hone q2 hd
            subst this
            rw [h1c, Nat.mul_one, Nat.add_zero] at hq ⊢
            rw [hget, if_neg hj]
            exact hq)
      exact ⟨_, _, hrun, hE, .int, hH, rfl⟩

theorem run_rawX {ts : List TypeId} {args : List SV} {nx nx' : Nat} {r : SV} {ups : List (Nat × Option Chunk)} {rs : List Nat} (hr : HRel P ω w Im θ h) (hfr : ∀ x, nx ≤ x → x < nx' → θ x = none ∧ h x = none) (hm : mrun h (rawX P ts args nx) = some (r, ups, nx', rs)) {us : Array Value} (hl : LRel P ω w Im θ args us.toList) (ps : Array TypeId) :
    ∃ v w' θ' Im', (Extern.BytealgMakeNoZero.makeNoZero ps ts.toArray us).run P w = .ok v w' ∧ Ext (fun x => nx ≤ x ∧ x < nx') h w Im θ (updF ups h) w' Im' θ' ∧ VRel P ω w' Im' θ' r v ∧ HRel P ω w' Im' θ' (updF ups h) := by
  unfold rawX at hm
  split at hm
  case h_2 => simp [mrun] at hm
  rename_i t n
  split at hm
  case h_2 => simp [mrun] at hm
  rename_i e hu
  have hb0 := bif_fail hm; clear hm; obtain ⟨hk, hm⟩ := hb0
  have h1c : P.cellsOf e = 1 := Nat.eq_of_beq_eq_true hk
  have hb0 := mrun_ite_fail' hm; clear hm; obtain ⟨hc, hm⟩ := hb0
  simp only [Bool.and_eq_true, decide_eq_true_eq] at hc
  obtain ⟨c1, c2⟩ := hc
  obtain ⟨rfl, rfl, rfl, -⟩ := mrun_done hm
  obtain ⟨k, rfl⟩ : ∃ k : Nat, n = k := ⟨n.toNat, by omega⟩
  have hlen := hl.len
  match hus : us.toList, hlen with
  | [a], _ =>
    rw [hus] at hl
    have eus : us = #[a] := Array.ext' hus
    subst eus
    have ha := hl.at_ 0 _ a rfl rfl
    cases ha
    obtain ⟨cs, q1, q2, -⟩ := Lib.run_makeNoZero (P := P) w ps t _ hu k (by omega)
    obtain ⟨f1, f2⟩ := hfr nx (Nat.le_refl _) (Nat.lt_succ_self _)
    obtain ⟨θ', Im', g1, g2, g3⟩ := new_step hr f1 f2 (w' := w.drew.drew.alloc (.cells cs e)) (N := cs.size) (by simp) (fun d hd => alloc_old w.drew.drew _ d hd) rfl rfl rfl (.seq e []) (fun θ' a => by
      refine .inr ⟨_, _, cs, e, (0, 0), fun _ => undef, a, alloc_new w.drew.drew _, fun i _ hh => by omega, ⟨rfl, rfl⟩, by simp, (fun v hv => by cases hv), (fun i v hv => by simp at hv)⟩)
    refine ⟨_, _, θ', Im', q1, g1, ?_, g2⟩
    have := VRel'.qs (P := P) (ω := ω) (w := w.drew.drew.alloc (.cells cs e)) (Im := Im') (θ := θ') (x := nx) (sz := 1) (l := 0) (n := k) (cap := cs.size) g3 (by simp) q2
    simpa using this
theorem find_raw {fn : Func} (hn : fn.name = "internal/bytealg.MakeNoZero") (ho : fn.origin = "") : Extern.find fn = some (Extern.BytealgMakeNoZero.makeNoZero fn.params fn.resultTypes) ∧ Extern.findNext fn = none := by
  have a1 : Extern.allGenericRows.lookup "internal/bytealg.MakeNoZero" = none := by kernel_rfl
  have a2 : Extern.allTypedRows.lookup "internal/bytealg.MakeNoZero" = some Extern.BytealgMakeNoZero.makeNoZero := by kernel_rfl
  have a4 : Extern.allNextRows.lookup "internal/bytealg.MakeNoZero" = none := by kernel_rfl
  have a5 : Extern.allNextRows.lookup "" = none := by kernel_rfl
  exact ⟨by simp [Extern.find, hn, a1, a2], by simp [Extern.findNext, hn, ho, a4, a5]⟩
theorem run_externX {g : Nat} {args : List SV} {nx nx' : Nat} {r : SV} {ups : List (Nat × Option Chunk)} {rs : List Nat} (hr : HRel P ω w Im θ h) (hfr : ∀ x, nx ≤ x → x < nx' → θ x = none ∧ h x = none) (hm : mrun h (externX P g args nx) = some (r, ups, nx', rs)) {us : Array Value} (hl : LRel P ω w Im θ args us.toList) :
    ∃ v w' θ' Im', (callFunc g us).run P w = .ok (.value v) w' ∧ Ext (fun x => nx ≤ x ∧ x < nx') h w Im θ (updF ups h) w' Im' θ' ∧ VRel P ω w' Im' θ' r v ∧ HRel P ω w' Im' θ' (updF ups h) := by
  unfold externX at hm
  split at hm
  case h_2 => simp [mrun] at hm
  rename_i fn hfn
  have hb0 := bif_fail hm; clear hm; obtain ⟨hk, hm⟩ := hb0
  simp only [Bool.and_eq_true] at hk
  have ho : fn.origin = "" := by simpa using hk.2
  cases h1 : fn.name == "internal/bytealg.IndexByteString" with
  | true =>
    rw [h1] at hm
    simp only [cond_true] at hm
    have hname : fn.name = "internal/bytealg.IndexByteString" := by simpa using h1
    obtain ⟨q1, q2⟩ := find_index hname ho
    split at hm
    case h_2 => simp [mrun] at hm
    rename_i l c
    obtain ⟨rfl, rfl, rfl, -⟩ := mrun_done hm
    have hlen := hl.len
    match hus : us.toList, hlen with
    | [a, b], _ =>
      rw [hus] at hl
      have e : us = #[a, b] := Array.ext' hus
      have ha := hl.at_ 0 _ a rfl rfl
      have hb := hl.at_ 1 _ b rfl rfl
      cases ha with
      | str hs =>
        cases hb
        subst e
        refine ⟨_, w, θ, Im, ?_, Ext.refl _, .int, hr⟩
        rw [← hs]
        rw [run_callFunc_standIn hfn (by rw [hname]; rfl) hk.1 q2 q1, Lib.run_indexByteString]
        rfl
  | false =>
    rw [h1] at hm
    simp only [cond_false] at hm
    cases h2 : fn.name == "internal/abi.NoEscape" with
    | false =>
      rw [h2] at hm
      simp only [cond_false] at hm
      have hb0 := bif_fail hm; clear hm; obtain ⟨h3, hm⟩ := hb0
      have hname : fn.name = "internal/bytealg.MakeNoZero" := by simpa using h3
      obtain ⟨q1, q2⟩ := find_raw hname ho
      obtain ⟨v, w', θ', Im', g1, g2, g3, g4⟩ := run_rawX hr hfr hm hl fn.params
      refine ⟨v, w', θ', Im', ?_, g2, g3, g4⟩
      have e : fn.resultTypes.toList.toArray = fn.resultTypes := by simp
      rw [e] at g1
      rw [run_callFunc_standIn hfn (by rw [hname]; rfl) hk.1 q2 q1, g1]
      rfl
    | true =>
    rw [h2] at hm
    simp only [cond_true] at hm
    have hname : fn.name = "internal/abi.NoEscape" := by simpa using h2
    obtain ⟨q1, q2⟩ := find_noEscape hname ho
    split at hm
    case h_2 => simp [mrun] at hm
    rename_i x
    obtain ⟨rfl, rfl, rfl, -⟩ := mrun_done hm
    have hlen := hl.len
    match hus : us.toList, hlen with
    | [a], _ =>
      rw [hus] at hl
      have e : us = #[a] := Array.ext' hus
      subst e
      exact ⟨a, w, θ, Im, by rw [run_callFunc_standIn hfn (by rw [hname]; rfl) hk.1 q2 q1, Lib.run_noEscape]; rfl, Ext.refl _, hl.at_ 0 _ a rfl rfl, hr⟩
end
end Go.Am
