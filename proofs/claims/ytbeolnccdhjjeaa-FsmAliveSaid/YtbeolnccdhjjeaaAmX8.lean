/- The abstract machine: the further operations, each of them. -/
import Derived.Lib.Builder
import Derived.Lib.UnsafeStr
import Derived.Test.YtbeolnccdhjjeaaAmX7
namespace Go.Am
variable {P : Program} {ω : Nat → Value}

section
variable {w : World} {Im : Nat → Prop} {θ : Th} {h : HpF}

/-- A new name, nothing dropped. -/
theorem new_step {w' : World} (hr : HRel P ω w Im θ h) {nx : Nat} (hθ : θ nx = none) (hnx : h nx = none) {N : Nat} (hsz : w'.heap.size = w.heap.size + 1) (hold : ∀ d, d < w.heap.size → w'.heap[d]? = w.heap[d]?)
    (hos : w'.os = w.os) (hou : w'.output = w.output) (hta : w'.tape = w.tape) (c : Chunk)
    (hc : ∀ θ' : Th, θ' nx = some (w.heap.size, N) → CRel P ω w' (frozenBy Im θ h []) θ' nx c) :
    ∃ θ' Im' , Ext (fun x => nx ≤ x ∧ x < nx + 1) h w Im θ (updF [(nx, some c)] h) w' Im' θ' ∧ HRel P ω w' Im' θ' (updF [(nx, some c)] h) ∧ θ' nx = some (w.heap.size, N) := by
  obtain ⟨θ', h1, h2, h3⟩ := name_step hr hθ hnx (ds := []) (ys := []) (fun y hy => by cases hy) (w' := w') (b := w.heap.size) (N := N) (.inl ⟨Nat.le_refl _, by omega⟩) (by omega) (fun d _ hd => hold d hd) hos hou hta c (fun θ' a _ _ => hc θ' a)
  exact ⟨θ', _, by simpa [drops] using h1, by simpa [drops] using h2, h3⟩

theorem run_makeMapX {t kt et : TypeId} (_hu : P.underlying t = some (.map kt et)) (hr : HRel P ω w Im θ h) {nx : Nat} (hθ : θ nx = none) (hnx : h nx = none) :
    ∃ v w' θ' Im', (Instr.makeMap t none).run P w = .ok v w' ∧ Ext (fun x => nx ≤ x ∧ x < nx + 1) h w Im θ (updF [(nx, some (.mpc [] []))] h) w' Im' θ' ∧ VRel P ω w' Im' θ' (.mp nx) v ∧ HRel P ω w' Im' θ' (updF [(nx, some (.mpc [] []))] h) := by
  have nilL : ∀ {w : World} {Im : Nat → Prop} {θ : Th}, LRel P ω w Im θ [] [] := ⟨rfl, fun i v u h => by simp at h⟩
  obtain ⟨θ', Im', h1, h2, h3⟩ := new_step hr hθ hnx (w' := w.alloc (.map #[] 0)) (N := 0) (by simp) (fun d hd => alloc_old w _ d hd) rfl rfl rfl (.mpc [] []) (fun θ' a => ⟨_, _, #[], 0, a, alloc_new w _, nilL, nilL, fun e he => by simp at he⟩)
  exact ⟨.map (some w.heap.size), _, θ', Im', by simp [Instr.makeMap], h1, .mp h3, h2⟩

theorem fr_cells {y : Nat} {T : TypeId} {cs : List SV} (hr : HRel P ω w Im θ h) (hy : h y = some (.cells T cs)) : ∃ b, θ y = some (b, cs.length) ∧ w.shape? b = some (T, cs.length) := by
  obtain ⟨b, ca, fr, g1, g2, g3, g4⟩ := hr.at_ y _ hy
  refine ⟨b, g1, ?_⟩
  have := g4.len
  simp only [Array.length_toList] at this
  simp [World.shape?, g2, this]
theorem run_convU {s d : TypeId} {x : SV} {nx nx' : Nat} {r : SV} {ups : List (Nat × Option Chunk)} {rs : List Nat} (hr : HRel P ω w Im θ h) (hm : mrun h (convU P s d x nx) = some (r, ups, nx', rs)) {u : Value} (hx : VRel P ω w Im θ x u) :
    (convert s d u).run P w = .ok u w ∧ VRel P ω w Im θ r u ∧ ups = [] ∧ nx' = nx := by
  unfold convU at hm
  split at hm
  · rename_i t y o h1 h2
    cases hb : Nat.beq (P.cellsOf t) 0 with
    | true => rw [hb] at hm; simp [mrun] at hm
    | false =>
      rw [hb] at hm
      simp only [cond_false] at hm
      have hne : P.cellsOf t ≠ 0 := by intro e; rw [e] at hb; cases hb
      obtain ⟨i, hi⟩ := info_of_cells hne
      have hsz : i.size ≠ 0 := by simpa [Program.cellsOf, hi] using hne
      have hb0 := get_run hm; clear hm; obtain ⟨c, rs', hy, hm, rfl⟩ := hb0
      cases c <;> try (simp [mrun] at hm; done)
      rename_i T cs
      have hb0 := bif_fail hm; clear hm; obtain ⟨hlt, hm⟩ := hb0
      obtain ⟨rfl, rfl, rfl, -⟩ := mrun_done hm
      obtain ⟨b, g1, g2⟩ := fr_cells hr hy
      cases hx with
      | ptr hθ =>
        rw [g1] at hθ
        simp only [Option.some.injEq, Prod.mk.injEq] at hθ
        obtain ⟨rfl, rfl⟩ := hθ
        exact ⟨Lib.run_to_unsafe w _ h1 h2 hi hsz g2 (by rw [Nat.blt_eq] at hlt; exact hlt), .ptr g1, rfl, rfl⟩
  · rename_i t y o h1 h2
    have hb0 := get_run hm; clear hm; obtain ⟨c, rs', hy, hm, rfl⟩ := hb0
    cases c <;> try (simp [mrun] at hm; done)
    rename_i T cs
    have hb0 := bif_fail hm; clear hm; obtain ⟨hk, hm⟩ := hb0
    simp only [Bool.and_eq_true] at hk
    obtain ⟨i, hi⟩ := known_info hk.1
    obtain ⟨rfl, rfl, rfl, -⟩ := mrun_done hm
    obtain ⟨b, g1, g2⟩ := fr_cells hr hy
    cases hx with
    | ptr hθ =>
      rw [g1] at hθ
      simp only [Option.some.injEq, Prod.mk.injEq] at hθ
      obtain ⟨rfl, rfl⟩ := hθ
      exact ⟨Lib.run_from_unsafe w _ h1 h2 hi g2 hk.2, .ptr g1, rfl, rfl⟩
  · simp [mrun] at hm
theorem run_convX {s d : TypeId} {x : SV} {nx nx' : Nat} {r : SV} {ups : List (Nat × Option Chunk)} {rs : List Nat} (hr : HRel P ω w Im θ h) (hfr : ∀ x, nx ≤ x → x < nx' → θ x = none ∧ h x = none) (hm : mrun h (convX P s d x nx) = some (r, ups, nx', rs)) {u : Value} (hx : VRel P ω w Im θ x u) :
    ∃ v w' θ' Im', (convert s d u).run P w = .ok v w' ∧ Ext (fun x => nx ≤ x ∧ x < nx') h w Im θ (updF ups h) w' Im' θ' ∧ VRel P ω w' Im' θ' r v ∧ HRel P ω w' Im' θ' (updF ups h) := by
  unfold convX at hm
  split at hm
  · rename_i e h1 h2
    split at hm
    case h_2 => simp [mrun] at hm
    rename_i l hu
    have hb0 := bif_fail hm; clear hm; obtain ⟨hk, hm⟩ := hb0
    have h1c : P.cellsOf e = 1 := Nat.eq_of_beq_eq_true hk
    obtain ⟨rfl, rfl, rfl, rfl⟩ := mrun_done hm
    cases hx with
    | str hs =>
      rename_i bs
      have hrun := run_bytes_of_string (P := P) w s d e bs h1 h2 hu
      generalize hcells : bytesRow bs (grownCap w bs.size 0 e) = cells at hrun
      have hge := grownCap_ge w bs.size 0 e
      have hcs : cells.size = grownCap w bs.size 0 e := by
        rw [← hcells]
        have : bs.data.size = bs.size := rfl
        simp [bytesRow, this]
        omega
      have hls : l.length = bs.size := (bytes_size hs).symm
      obtain ⟨f1, f2⟩ := hfr nx (Nat.le_refl _) (Nat.lt_succ_self _)
      have hagg : isAggT P e = false := by simp [isAggT, hu]
      obtain ⟨θ', Im', g1, g2, g3⟩ := new_step hr f1 f2 (w' := w.drew.alloc (.cells cells e (cells.size, cells.size + 1))) (N := cells.size) (by simp) (fun d hd => alloc_old w.drew _ d hd) rfl rfl rfl (.seq e (l.map byteSV)) (fun θ' a => by
        refine .inr ⟨_, _, cells, e, _, fun i => .int .u8 ((l.getD i 0).toNat), a, alloc_new w.drew _, fun i hi hh => by simp only at hh; omega, ⟨rfl, rfl⟩, by rw [h1c, List.length_map]; omega, fun v hv => ?_, fun i v hv => ?_⟩
        · obtain ⟨b, _, rfl⟩ := List.mem_map.1 hv
          unfold expand
          rw [hagg]
          simp only [cond_false, expandLeaf, hu, byteSV, asI]
        · simp only [List.getElem?_map, Option.map_eq_some_iff] at hv
          obtain ⟨b, hb, rfl⟩ := hv
          have e1 : l.getD i 0 = b := by simp [List.getD_eq_getElem?_getD, hb]
          simp only [e1]
          refine ⟨.int, by simp [Value.cells, h1c], fun d c hd => ?_⟩
          cases d with
          | succ d => simp [Value.cells] at hd
          | zero =>
            simp [Value.cells] at hd
            subst hd
            have hil : i < l.length := by
              rcases Nat.lt_or_ge i l.length with h5 | h5
              · exact h5
              · simp [List.getElem?_eq_none h5] at hb
            have hib : i < bs.data.size := by show i < bs.size; omega
            have hbd : bs.data[i] = b := by
              have : bs.data.toList[i]? = some b := by rw [hs]; exact hb
              rw [Array.getElem?_toList, Array.getElem?_eq_getElem hib] at this
              exact Option.some.inj this
            rw [h1c, ← hcells]
            simp only [bytesRow, Nat.mul_one, Nat.add_zero]
            rw [Array.getElem?_append_left (by simpa using hib)]
            simp only [Array.getElem?_map, Option.map_eq_some_iff]
            exact ⟨b, by rw [Array.getElem?_eq_getElem hib, hbd], rfl⟩)
      refine ⟨_, _, θ', Im', hrun, g1, ?_, g2⟩
      have := VRel'.qs (P := P) (ω := ω) (w := w.drew.alloc (.cells cells e (cells.size, cells.size + 1))) (Im := Im') (θ := θ') (x := nx) (sz := 1) (l := 0) (n := bs.size) (cap := grownCap w bs.size 0 e) g3 (by rw [hcs]; simp) hge
      rw [hls]
      simpa using this
  · rename_i e h1 h2
    split at hm
    case h_2 => simp [mrun] at hm
    rename_i hu
    have hb0 := bif_fail hm; clear hm; obtain ⟨hk, hm⟩ := hb0
    simp only [Bool.and_eq_true] at hk
    have h1c : P.cellsOf e = 1 := Nat.eq_of_beq_eq_true hk.1
    have hagg : isAggT P e = false := by simp [isAggT, hu]
    split at hm
    · simp [mrun] at hm
    rename_i hns
    obtain ⟨es, zs, rs', uf, g1, g2, g3⟩ := elemsM_run hr hk.2 hx hm
    cases zs with
    | cons z zs => simp [mrun] at g1
    | nil =>
      simp only [] at g1
      obtain ⟨rfl, rfl, rfl, _⟩ := mrun_done g1
      have hint : ∀ i, i < es.length → ∃ n, uf i = .int .u8 n ∧ byteOf (es.getD i .junk) = UInt8.ofNat n.toNat := by
        intro i hi
        have hget : es[i]? = some es[i] := by simp [hi]
        obtain ⟨q1, q2⟩ := g2.rel i es[i] hget
        have q3 := g2.fit es[i] (List.getElem_mem hi)
        unfold expand at q3
        rw [hagg] at q3
        simp only [cond_false, expandLeaf, hu] at q3
        have hgd : es.getD i .junk = es[i] := by simp [List.getD_eq_getElem?_getD, hget]
        rw [hgd, ← q3]
        rw [← q3] at q1
        generalize uf i = z at q1
        cases q1
        exact ⟨_, rfl, rfl⟩
      have hflat : ∀ m, m ≤ es.length → ∃ ns : List Int, ns.length = m ∧ flat uf m = ns.map (Value.int .u8) ∧ ns.map (fun n => UInt8.ofNat n.toNat) = (es.map byteOf).take m := by
        intro m
        induction m with
        | zero => intro _; exact ⟨[], rfl, rfl, by simp⟩
        | succ m ih =>
          intro hm
          obtain ⟨ns, a1, a2, a3⟩ := ih (by omega)
          obtain ⟨n, b1, b2⟩ := hint m (by omega)
          have hml : m < (es.map byteOf).length := by simp; omega
          have hml' : m < es.length := by omega
          refine ⟨ns ++ [n], by simp [a1], by simp [flat, a2, b1, Value.cells], ?_⟩
          rw [List.map_append, a3, List.take_succ_eq_append_getElem hml]
          congr 1
          have hgd : es.getD m .junk = es[m] := by simp [List.getD_eq_getElem?_getD, hml']
          rw [hgd] at b2
          simp [b2]
      obtain ⟨ns, a1, a2, a3⟩ := hflat es.length (Nat.le_refl _)
      rw [← List.length_map (f := byteOf), List.take_length] at a3
      have hcells := g3.cells w rfl
      rw [a2] at hcells
      have hlen := g3.len w
      have hE : Ext (fun x => nx ≤ x ∧ x < nx) h w Im θ (updF [] h) w Im θ := Ext.refl _
      have fin : ∀ bs : ByteArray, bs.data.toList = es.map byteOf → (convert s d u).run P w = .ok (.string bs) w →
          ∃ v w' θ' Im', (convert s d u).run P w = .ok v w' ∧ Ext (fun x => nx ≤ x ∧ x < nx) h w Im θ (updF [] h) w' Im' θ' ∧ VRel P ω w' Im' θ' (.str (es.map byteOf)) v ∧ HRel P ω w' Im' θ' (updF [] h) :=
        fun bs hbs hrun => ⟨_, _, θ, Im, hrun, hE, .str hbs, hr⟩
      have sl : ∀ (p : Option Addr) (n cap : Nat), u = .slice p n cap → (convert s d u).run P w = .ok (.string (ns.foldl (fun r n => r.push (UInt8.ofNat n.toNat)) ByteArray.empty)) w := by
        intro p n cap hue
        subst hue
        rw [run_convert_bytes_string w s d e p n cap h1 hu h2]
        have hn : n = es.length := by simpa [Builtin.lenOf] using hlen
        subst hn
        cases p with
        | none =>
          simp only [Builtin.firstCells, Sem.run_pure, Result.ok.injEq, and_true] at hcells
          have : ns = [] := by
            have h9 := congrArg Array.size hcells
            simp at h9
            exact List.eq_nil_of_length_eq_zero (by omega)
          subst this
          simp [Conv.bytesToString]
        | some a =>
          simp only [Builtin.firstCells, h1c, Nat.mul_one] at hcells
          exact run_bytesToString w a _ cap ns hcells
      have hdata : (ns.foldl (fun r n => r.push (UInt8.ofNat n.toNat)) ByteArray.empty).data.toList = es.map byteOf := by
        rw [← a3]
        have key : ∀ (ns : List Int) (r : ByteArray), (ns.foldl (fun r n => r.push (UInt8.ofNat n.toNat)) r).data.toList = r.data.toList ++ ns.map (fun n => UInt8.ofNat n.toNat) := by
          intro ns
          induction ns with
          | nil => intro r; simp
          | cons n ns ih => intro r; rw [List.foldl_cons, ih]; simp [ByteArray.push]
        rw [key]
        rfl
      have hsl : ∃ p n cap, u = .slice p n cap := by
        cases hx <;> first
          | exact ⟨_, _, _, rfl⟩
          | (simp [elemsM, mrun] at hm; done)
          | (exact absurd rfl (hns _))
      obtain ⟨p, n, cap, hue⟩ := hsl
      exact fin _ hdata (sl p n cap hue)
  · obtain ⟨q1, q2, rfl, rfl⟩ := run_convU hr hm hx
    exact ⟨u, w, θ, Im, q1, Ext.refl _, q2, hr⟩

theorem run_lenX {t : TypeId} {x : SV} {nx nx' : Nat} {r : SV} {ups : List (Nat × Option Chunk)} {rs : List Nat} (hr : HRel P ω w Im θ h) (hm : mrun h (lenX P t x nx) = some (r, ups, nx', rs)) {tys : Array TypeId} {ty : TypeId} {us : Array Value} {u : Value} (h1 : tys[0]? = some t) (h2 : us[0]? = some u) (hx : VRel P ω w Im θ x u) :
    ∃ v, (Builtin.len_ tys ty us).run P w = .ok v w ∧ VRel P ω w Im θ r v ∧ ups = [] ∧ nx' = nx := by
  unfold lenX at hm
  split at hm
  · rename_i hu
    obtain ⟨rfl, rfl, rfl, rfl⟩ := mrun_done hm
    cases hx with
    | qs _ _ _ => exact ⟨_, by simp [Builtin.len_, h1, h2, run_underlying hu, goInt], .int, rfl, rfl⟩
    | qsnil h0 => subst h0; exact ⟨_, by simp [Builtin.len_, h1, h2, run_underlying hu, goInt], .int, rfl, rfl⟩
  · rename_i hu
    obtain ⟨rfl, rfl, rfl, rfl⟩ := mrun_done hm
    cases hx
    exact ⟨_, by simp [Builtin.len_, h1, h2, run_underlying hu, goInt], .int, rfl, rfl⟩
  · rename_i hu
    obtain ⟨rfl, rfl, rfl, rfl⟩ := mrun_done hm
    cases hx with
    | pnn h =>
      cases h with
      | psl us' e1 e0 e2 e3 e4 => exact ⟨_, by simp [Builtin.len_, h1, h2, run_underlying hu, goInt, e1], .int, rfl, rfl⟩
  · rename_i y hu
    have hb0 := get_run hm; clear hm; obtain ⟨c, rs', hy, hm, rfl⟩ := hb0
    cases c with
    | mpc ks vs =>
      obtain ⟨rfl, rfl, rfl, rfl⟩ := mrun_done hm
      cases hx with
      | mp hθ =>
        obtain ⟨b', N', es, cl, g1, g2, g3, g4, g5⟩ := hr.at_ y _ hy
        rw [hθ] at g1
        simp only [Option.some.injEq, Prod.mk.injEq] at g1
        obtain ⟨rfl, rfl⟩ := g1
        have := g3.len
        simp at this
        exact ⟨_, by simp [Builtin.len_, h1, h2, run_underlying hu, goInt, MapKept.run_getObj_map g2, ← this], .int, rfl, rfl⟩
    | cells => simp [mrun] at hm
    | loopr => simp [mrun] at hm
    | seq => simp [mrun] at hm
  · simp [mrun] at hm

theorem run_minMaxX {mx : Bool} {x y : SV} {nx nx' : Nat} {r : SV} {ups : List (Nat × Option Chunk)} {rs : List Nat} (hm : mrun h (minMaxX mx x y nx) = some (r, ups, nx', rs)) {ux uy : Value} (hx : VRel P ω w Im θ x ux) (hy : VRel P ω w Im θ y uy) {tys : Array TypeId} {ty : TypeId} {us : Array Value} (hus : us.toList = [ux, uy]) :
    ∃ v, (bif mx then Builtin.max_ tys ty us else Builtin.min_ tys ty us).run P w = .ok v w ∧ VRel P ω w Im θ r v ∧ ups = [] ∧ nx' = nx := by
  unfold minMaxX at hm
  split at hm
  · rename_i k a k' b
    cases hx
    cases hy
    have hb0 := bif_fail hm; clear hm; obtain ⟨hk, hm⟩ := hb0
    cases mx with
    | true =>
      simp only [cond_true] at hm ⊢
      obtain ⟨rfl, rfl, rfl, rfl⟩ := mrun_done hm
      refine ⟨_, ?_, .int, rfl, rfl⟩
      simp only [Builtin.max_, hus, List.foldlM_cons, List.foldlM_nil, Builtin.max2, Sem.run_bind, Sem.run_pure, Result.andThen_ok]
      congr 2
      by_cases h : a < b
      · have h2 : decide (a < b) = true := by simpa using h
        simp [h]
      · simp [h]
    | false =>
      simp only [cond_false] at hm ⊢
      obtain ⟨rfl, rfl, rfl, rfl⟩ := mrun_done hm
      refine ⟨_, ?_, .int, rfl, rfl⟩
      simp only [Builtin.min_, hus, List.foldlM_cons, List.foldlM_nil, Builtin.min2, Sem.run_bind, Sem.run_pure, Result.andThen_ok]
      congr 2
      by_cases h : b < a
      · simp [h]
      · simp [h]
  · simp [mrun] at hm
end
end Go.Am
