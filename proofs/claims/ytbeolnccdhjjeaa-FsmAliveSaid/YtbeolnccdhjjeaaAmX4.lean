/- The abstract machine: 'append'. -/
import Derived.Test.YtbeolnccdhjjeaaAmX3
namespace Go.Am
variable {P : Program} {ω : Nat → Value}

theorem listLike_or {t : TypeId} (h : listLike P t = true) : (∃ e, P.underlying t = some (.slice e)) ∨ P.underlying t = some .string := by
  unfold listLike at h
  split at h
  · rename_i e hu; exact .inl ⟨e, hu⟩
  · rename_i hu; exact .inr hu
  · cases h

section
variable {w : World} {t t2 e : TypeId} {i : TypeInfo} {z : Value} {tys : Array TypeId} {args : Array Value} {ty : TypeId}

theorem append_in (h0 : tys[0]? = some t) (h1 : tys[1]? = some t2) (ht : P.underlying t = some (.slice e)) (ht2 : listLike P t2 = true) (hi : P.info? e = some i) {a : Addr} {n cap m : Nat} {x : Value} {news : List Value}
    (a0 : args[0]? = some (.slice (some a) n cap)) (a1 : args[1]? = some x) (hs : Src P w i.size x m news) (hle : n + m ≤ cap) {w' : World} (hst : (storeCells (a.add (n * i.size)) news).run P w = .ok () w') :
    (Builtin.append_ tys ty args).run P w = .ok (.slice (some a) (n + m) cap) w' := by
  have hl := hs.len w
  have hc := hs.cells w rfl
  rcases listLike_or ht2 with ⟨e2, hu⟩ | hu <;>
    simp [Builtin.append_, h0, h1, a0, a1, run_underlying ht, run_underlying hu, sizeOf, typeInfo, hi, hl, hle, hc, hst]

theorem append_none (h0 : tys[0]? = some t) (h1 : tys[1]? = some t2) (ht : P.underlying t = some (.slice e)) (ht2 : listLike P t2 = true) (hi : P.info? e = some i) {n cap m : Nat} {x : Value} {news : List Value}
    (a0 : args[0]? = some (.slice none n cap)) (a1 : args[1]? = some x) (hs : Src P w i.size x m news) (hle : n + m ≤ cap) :
    (Builtin.append_ tys ty args).run P w = .ok (.slice none (n + m) cap) w := by
  have hl := hs.len w
  have hc := hs.cells w rfl
  rcases listLike_or ht2 with ⟨e2, hu⟩ | hu <;>
    simp [Builtin.append_, h0, h1, a0, a1, run_underlying ht, run_underlying hu, sizeOf, typeInfo, hi, hl, hle, hc]

theorem append_out (h0 : tys[0]? = some t) (h1 : tys[1]? = some t2) (ht : P.underlying t = some (.slice e)) (ht2 : listLike P t2 = true) (hi : P.info? e = some i) (hz : i.zero = some z) {p : Option Addr} {n cap m : Nat} {x : Value} {news olds : List Value}
    (a0 : args[0]? = some (.slice p n cap)) (a1 : args[1]? = some x) (hs : Src P w i.size x m news) (ho : ∀ w' : World, w'.heap = w.heap → (Builtin.firstCells i.size n (.slice p n cap)).run P w' = .ok olds.toArray w') (hgt : cap < n + m)
    (h63 : n + m ≤ 9223372036854775807) (hb : (n + m) * i.bytes ≤ 140737488355328) :
    (Builtin.append_ tys ty args).run P w = .ok (.slice (some ⟨w.heap.size, 0, none⟩) (n + m) (grownCap w (n + m) cap e))
        (w.drew.alloc (.cells (olds.toArray ++ news.toArray ++ Builtin.zeroCells z.cells (grownCap w (n + m) cap e - (n + m))) e)) := by
  have hl := hs.len w
  have hc := hs.cells w.drew rfl
  have hco := ho w.drew rfl
  have hn : ¬ (n + m ≤ cap) := by omega
  have h63' : ¬ (9223372036854775807 < ((n : Int) + (m : Int))) := by omega
  have hfit := growslice_fits (need := n + m) (old := cap) (bytes := i.bytes) hgt hb
  have h48' : ¬ (281474976710656 < Builtin.nextslicecap (n + m) cap * i.bytes) := by omega
  rcases listLike_or ht2 with ⟨e2, hu⟩ | hu <;>
    simp [Builtin.append_, h0, h1, a0, a1, run_underlying ht, run_underlying hu, sizeOf, typeInfo, zeroValue, hi, hz, hl, hn, h63', h48', Question.forced, hc, hco, newRow, grownCap] <;> (congr 2; apply Array.ext'; simp)

/-- What is appended to. -/
inductive Dst (P : Program) (w : World) (θ : Th) (h : HpF) (e : TypeId) (dead : List Nat) (n : Nat) (uf : Nat → Value) : Value → Prop
  | none {p : Option Addr} : n = 0 → Dst P w θ h e dead n uf (.slice p 0 0)
  | row {b cap y : Nat} {c0 : Chunk} {N' : Nat} {cs : Array Value} {fr : Nat × Nat} : y ∈ dead → h y = some c0 → θ y = some (b, N') → w.heap[b]? = some (.cells cs e fr) → fine cs.size fr → n ≤ cap → cap * P.cellsOf e ≤ cs.size →
      (∀ i, i < n → ∀ (d : Nat) (c : Value), (uf i).cells[d]? = some c → cs[i * P.cellsOf e + d]? = some c) → Dst P w θ h e dead n uf (.slice (some ⟨b, 0, none⟩) n cap)

theorem apartN_spec : ∀ (l m : List Nat), apartN l m = true → ∀ x ∈ l, x ∉ m
  | [], _, _, x, hx => by cases hx
  | y :: l, m, h, x, hx => by
    simp only [apartN, Bool.and_eq_true, Bool.not_eq_true'] at h
    rcases List.mem_cons.1 hx with rfl | hx
    · intro hm; rw [(memN_iff' _ _).2 hm] at h; exact absurd h.1 (by simp)
    · exact apartN_spec l m h.2 x hx

/-- The cells of the list, grown. -/
theorem grown_cells {w : World} {Im : Nat → Prop} {e : TypeId} {es fs : List SV} {us vs : Nat → Value} (h : Elems P w Im e es us) (h' : Elems P w Im e fs vs) {cells : List Value}
    (hc : ∀ (j : Nat) (u : Value), (flat us es.length ++ flat vs fs.length)[j]? = some u → cells[j]? = some u) : ∀ (i : Nat) (v : SV), (es ++ fs)[i]? = some v →
      ∀ (d : Nat) (c : Value), ((fun i => if i < es.length then us i else vs (i - es.length)) i).cells[d]? = some c → cells[i * P.cellsOf e + d]? = some c := by
  intro i v hv d c hd
  have happ := h.append h'
  have hi : i < (es ++ fs).length := by
    rcases Nat.lt_or_ge i (es ++ fs).length with h1 | h1
    · exact h1
    · simp [List.getElem?_eq_none h1] at hv
  have hd' : d < P.cellsOf e := by
    rw [← happ.size i hi]
    rcases Nat.lt_or_ge d ((fun i => if i < es.length then us i else vs (i - es.length)) i).cells.size with h1 | h1
    · exact h1
    · simp [Array.getElem?_eq_none h1] at hd
  refine hc _ c ?_
  rw [← flat_add us vs es.length fs.length, ← List.length_append, flat_get _ happ.size i d hi hd']
  exact hd

theorem grow_run {w : World} {Im : Nat → Prop} {θ : Th} {h : HpF} (hr : HRel P ω w Im θ h) {nx : Nat} (hθ : θ nx = none) (hnx : h nx = none) {dead ys : List Nat} (hap : apartN dead ys = true) {es fs : List SV} {us vs : Nat → Value}
    (hes : Elems P w (frozenBy Im θ h ys) e es us) (hfs : Elems P w (frozenBy Im θ h ys) e fs vs) (hpl : plainE P e = true)
    (h0 : tys[0]? = some t) (h1 : tys[1]? = some t2) (ht : P.underlying t = some (.slice e)) (ht2 : listLike P t2 = true) (hi : P.info? e = some i) (hz : i.zero = some z) (hzs : z.cells.size = P.cellsOf e)
    {s x : Value} (a0 : args[0]? = some s) (a1 : args[1]? = some x) (hd : Dst P w θ h e dead es.length us s) (hsrc : Src P w (P.cellsOf e) x fs.length (flat vs fs.length))
    (h63 : es.length + fs.length ≤ 9223372036854775807) (hb : (es.length + fs.length) * i.bytes ≤ 140737488355328) :
    ∃ v' w' θ', (Builtin.append_ tys ty args).run P w = .ok v' w' ∧ Ext (fun x => nx ≤ x ∧ x < nx + 1) h w Im θ (updF (drops (dead ++ ys) ++ [(nx, some (.seq e (es ++ fs)))]) h) w' (frozenBy Im θ h ys) θ' ∧
      HRel P ω w' (frozenBy Im θ h ys) θ' (updF (drops (dead ++ ys) ++ [(nx, some (.seq e (es ++ fs)))]) h) ∧ VRel P ω w' (frozenBy Im θ h ys) θ' (.qs nx (P.cellsOf e) 0 (es.length + fs.length)) v' := by
  have hsize : i.size = P.cellsOf e := by simp [Program.cellsOf, hi]
  have hsub : ∀ y ∈ ys, y ∈ dead ++ ys := fun y hy => List.mem_append.2 (.inr hy)
  have happ := hes.append hfs
  have hfl := flat_len (us := us) es.length hes.size
  have hgl := flat_len (us := vs) fs.length hfs.size
  have hones : ∀ u ∈ flat vs fs.length, u.oneCell' = true := by
    intro u hu
    obtain ⟨k, hk, huk⟩ := flat_mem _ u hu
    have hrel := (hfs.rel k fs[k] (by simp [hk])).1
    exact (plain_cells hpl (hfs.fit _ (List.getElem_mem hk)) hrel).1 u huk
  -- out of place
  have out : ∀ {p : Option Addr} {cap : Nat}, s = .slice p es.length cap → (∀ w' : World, w'.heap = w.heap → (Builtin.firstCells i.size es.length (.slice p es.length cap)).run P w' = .ok (flat us es.length).toArray w') → cap < es.length + fs.length →
      ∃ v' w' θ', (Builtin.append_ tys ty args).run P w = .ok v' w' ∧ Ext (fun x => nx ≤ x ∧ x < nx + 1) h w Im θ (updF (drops (dead ++ ys) ++ [(nx, some (.seq e (es ++ fs)))]) h) w' (frozenBy Im θ h ys) θ' ∧
        HRel P ω w' (frozenBy Im θ h ys) θ' (updF (drops (dead ++ ys) ++ [(nx, some (.seq e (es ++ fs)))]) h) ∧ VRel P ω w' (frozenBy Im θ h ys) θ' (.qs nx (P.cellsOf e) 0 (es.length + fs.length)) v' := by
    intro p cap hs ho hgt
    subst hs
    have hge := grownCap_ge w (es.length + fs.length) cap e
    have hrun := append_out (args := args) (ty := ty) h0 h1 ht ht2 hi hz a0 a1 (by rw [hsize]; exact hsrc) ho hgt h63 hb
    generalize hcells : ((flat us es.length).toArray ++ (flat vs fs.length).toArray ++ Builtin.zeroCells z.cells (grownCap w (es.length + fs.length) cap e - (es.length + fs.length))) = cells at hrun
    have hcs : cells.size = grownCap w (es.length + fs.length) cap e * P.cellsOf e := by
      rw [← hcells]
      simp only [Array.size_append, List.size_toArray, hfl, hgl, size_zeroCells, hzs, ← Nat.add_mul]
      congr 1; omega
    obtain ⟨θ', hE, hH, hn⟩ := name_step hr hθ hnx hsub (ds := dead ++ ys) (w' := w.drew.alloc (.cells cells e)) (b := w.heap.size) (N := cells.size) (.inl ⟨Nat.le_refl _, by simp⟩) (by simp) (fun d _ hdl => alloc_old w.drew _ d hdl) rfl rfl rfl (.seq e (es ++ fs)) (fun θ' g1 g2 g3 => by
      refine .inr ⟨w.heap.size, cells.size, cells, e, (0, 0), _, g1, alloc_new w.drew _, fun i _ hh => by omega, ⟨rfl, rfl⟩, ?_, happ.fit, fun i v hv => ⟨((happ.mono g3).rel i v hv).1, (happ.rel i v hv).2, ?_⟩⟩
      · rw [hcs, List.length_append]; exact Nat.mul_le_mul_right _ hge
      · have := grown_cells hes hfs (cells := cells.toList) (fun j u hj => by
          rw [← hcells]
          simp only [Array.toList_append, List.append_assoc]
          rw [← List.append_assoc, List.getElem?_append_left]
          · exact hj
          · rcases Nat.lt_or_ge j (flat us es.length ++ flat vs fs.length).length with h3 | h3
            · exact h3
            · simp [List.getElem?_eq_none h3] at hj) i v hv
        intro d c hd
        have := this d c hd
        simpa using this)
    refine ⟨_, _, θ', hrun, hE, hH, ?_⟩
    have := VRel'.qs (P := P) (ω := ω) (w := w.drew.alloc (.cells cells e)) (Im := frozenBy Im θ h ys) (θ := θ') (x := nx) (sz := P.cellsOf e) (l := 0) (n := es.length + fs.length) (cap := grownCap w (es.length + fs.length) cap e) hn (by rw [hcs]; simp) hge
    simpa using this
  cases hd with
  | none hn0 =>
    rename_i p
    have hes0 : es = [] := List.eq_nil_of_length_eq_zero hn0
    subst hes0
    by_cases hm : fs.length = 0
    · have hfs0 : fs = [] := List.eq_nil_of_length_eq_zero hm
      subst hfs0
      obtain ⟨hE, hH⟩ := none_step hr hθ hsub e (ds := dead ++ ys)
      refine ⟨.slice p 0 0, w, θ, ?_, by simpa using hE, by simpa using hH, .qsnil (by simp)⟩
      cases p with
      | none => exact append_none h0 h1 ht ht2 hi a0 a1 (by rw [hsize]; exact hsrc) (by simp)
      | some a => exact append_in h0 h1 ht ht2 hi a0 a1 (by rw [hsize]; exact hsrc) (by simp) (w' := w) (by simp [flat, storeCells])
    · exact out (p := p) (cap := 0) rfl (fun w' _ => (src_none (P := P) (w := w) (sz := i.size) (cap := 0) (p := p)).cells w' ‹_›) (by simp; omega)
  | row hy hyh hyθ hheap hfine hle hcap hcells =>
    rename_i b cap y c0 N' cs fr
    have hsrc0 : Src P w i.size (.slice (some ⟨b, 0, none⟩) es.length cap) es.length (flat us es.length) := by
      refine src_slice (by rw [hsize]; exact hfl) (flat_at hes.size (fun i hi d c hd => ?_))
      rw [add_off]
      simp only [World.cell?, hheap, Nat.zero_add]
      simpa using hcells i hi d c hd
    by_cases hfit : es.length + fs.length ≤ cap
    · have hroom : es.length * P.cellsOf e + (flat vs fs.length).length ≤ cs.size := by
        rw [hgl, ← Nat.add_mul]
        exact Nat.le_trans (Nat.mul_le_mul_right _ hfit) hcap
      have hst := run_storeCells_fine P b (es.length * P.cellsOf e) e fr (flat vs fs.length) 0 cs w hheap hfine (by simpa using hroom) hones
      simp only [Nat.add_zero] at hst
      have hrun := append_in (args := args) (ty := ty) h0 h1 ht ht2 hi a0 a1 (by rw [hsize]; exact hsrc) hfit (w' := w.setRow b (cs.toList.take (es.length * P.cellsOf e) ++ flat vs fs.length ++ cs.toList.drop (es.length * P.cellsOf e + (flat vs fs.length).length)).toArray) (by rw [add_off, hsize, Nat.zero_add]; exact hst)
      generalize hcells' : (cs.toList.take (es.length * P.cellsOf e) ++ flat vs fs.length ++ cs.toList.drop (es.length * P.cellsOf e + (flat vs fs.length).length)).toArray = cells at hrun
      have hcs : cells.size = cs.size := by
        rw [← hcells']
        simp only [List.size_toArray, List.length_append, List.length_take, List.length_drop, Array.length_toList]
        omega
      have hyys : y ∉ ys := apartN_spec _ _ hap y hy
      obtain ⟨θ', hE, hH, hn⟩ := name_step hr hθ hnx hsub (ds := dead ++ ys) (w' := w.setRow b cells) (b := b) (N := cells.size) (.inr ⟨y, c0, N', List.mem_append.2 (.inl hy), hyys, hyh, hyθ⟩) (by simp [World.setRow]) (fun d hd _ => setRow_other w b d _ hd) rfl rfl rfl (.seq e (es ++ fs)) (fun θ' g1 g2 g3 => by
        refine .inr ⟨b, cells.size, cells, e, fr, _, g1, setRow_heap w b cs _ e fr hheap, by rw [hcs]; exact hfine, ⟨rfl, rfl⟩, ?_, happ.fit, fun i v hv => ⟨((happ.mono g3).rel i v hv).1, (happ.rel i v hv).2, ?_⟩⟩
        · rw [hcs, List.length_append]; exact Nat.le_trans (Nat.mul_le_mul_right _ hfit) hcap
        · have := grown_cells hes hfs (cells := cells.toList) (fun j u hj => by
            rw [← hcells']
            simp only []
            have htake : cs.toList.take (es.length * P.cellsOf e) = flat us es.length := by
              apply List.ext_getElem?
              intro k
              by_cases hk : k < es.length * P.cellsOf e
              · rw [List.getElem?_take, if_pos hk]
                have hk2 : k < (flat us es.length).length := by rw [hfl]; exact hk
                have e1 : (flat us es.length)[k]? = some (flat us es.length)[k] := by simp [hk2]
                rw [e1]
                have := flat_at (us := us) (m := es.length) hes.size (at_ := fun j => cs[j]?) (fun i hi d c hd => hcells i hi d c hd) k _ e1
                simpa using this
              · rw [List.getElem?_take, if_neg hk, List.getElem?_eq_none (by rw [hfl]; omega)]
            rw [htake, List.getElem?_append_left]
            · exact hj
            · rcases Nat.lt_or_ge j (flat us es.length ++ flat vs fs.length).length with h3 | h3
              · exact h3
              · simp [List.getElem?_eq_none h3] at hj) i v hv
          intro d c hd
          have := this d c hd
          simpa using this)
      refine ⟨_, _, θ', hrun, hE, hH, ?_⟩
      have := VRel'.qs (P := P) (ω := ω) (w := w.setRow b cells) (Im := frozenBy Im θ h ys) (θ := θ') (x := nx) (sz := P.cellsOf e) (l := 0) (n := es.length + fs.length) (cap := cap) hn (by rw [hcs]; simpa using hcap) hfit
      simpa using this
    · exact out (p := some ⟨b, 0, none⟩) (cap := cap) rfl (fun w' hw => hsrc0.cells w' hw) (by omega)
end
end Go.Am
