/- The abstract machine: slices, elements, loads, stores. -/
import Derived.Test.YtbeolnccdhjjeaaAmX5
namespace Go.Am
variable {P : Program} {ω : Nat → Value}

section
variable {w : World} {Im : Nat → Prop} {θ : Th} {h : HpF}

/-- Each part of what is known by content is so too. -/
theorem psl_part {e : TypeId} {es : List SV} {p : Option Addr} {n cap : Nat} {l k : Nat} (hv : VRel P ω w Im θ (.psl e es) (.slice p n cap)) (hlk : l + k ≤ es.length) :
    VRel P ω w Im θ (.psl e ((es.drop l).take k)) (.slice (if cap = l then p else p.map (·.add (l * P.cellsOf e))) k (cap - l)) := by
  cases hv with
  | psl us h1 h0 h2 h3 h4 =>
    have hlen : ((es.drop l).take k).length = k := by simp; omega
    by_cases hk0 : k = 0
    · subst hk0
      simp only [List.take_zero]
      refine .psl (fun _ => undef) rfl ⟨Nat.zero_le _, fun hp => ?_⟩ (fun v hv => by cases hv) (fun i v hv => by simp at hv) (fun hn => absurd rfl hn)
      by_cases hcl : cap = l
      · omega
      · rw [if_neg hcl] at hp
        have := h0.2 (by simpa using hp)
        omega
    · have hn0 : n ≠ 0 := by omega
      obtain ⟨a, off, rfl, ha, hc⟩ := h4 hn0
      have hcl : ¬ cap = l := by omega
      rw [if_neg hcl]
      simp only [Option.map_some, add_off]
      refine .psl (fun i => us (l + i)) hlen ⟨by omega, by simp⟩ (fun v hv => h2 v (List.mem_of_mem_drop (List.mem_of_mem_take hv))) (fun i v hv => ?_) (fun _ => ⟨a, _, rfl, ha, fun i hi => ?_⟩)
      · rw [List.getElem?_take] at hv
        split at hv
        · rw [List.getElem?_drop] at hv; exact h3 _ v hv
        · cases hv
      · obtain ⟨g1, g2⟩ := hc (l + i) (by omega)
        refine ⟨g1, fun d c hd => ?_⟩
        have := g2 d c hd
        rw [Nat.add_mul] at this
        rw [← this]
        congr 2
        omega

theorem mrun_ite_either {h : HpF} {b : Bool} {m m' : OpM} {res : SV × List (Nat × Option Chunk) × Nat × List Nat} (hm : mrun h (.ite b m m') = some res) : (b = true ∧ mrun h m = some res) ∨ (b = false ∧ mrun h m' = some res) := by
  cases b
  · exact .inr ⟨rfl, by simpa [mrun] using hm⟩
  · exact .inl ⟨rfl, by simpa [mrun] using hm⟩
theorem run_bounds3 {w : World} {n cap : Nat} {lu hu mu : Option Value} {l h k : Int} (hl : (lu = none ∧ l = 0) ∨ ∃ q, lu = some (.int q l)) (hh : ∃ q, hu = some (.int q h)) (hm : ∃ q, mu = some (.int q k)) (h1 : 0 ≤ l) (h2 : l ≤ h) (h3 : h ≤ k) (h4 : k ≤ (n : Int)) (h5 : n ≤ cap) :
    (Instr.sliceBounds true n cap lu hu mu).run P w = .ok (l.toNat, h.toNat, k.toNat) w := by
  obtain ⟨q1, rfl⟩ := hh
  obtain ⟨q2, rfl⟩ := hm
  have a0 : 0 ≤ k := by omega
  have a1 : 0 ≤ h := by omega
  have a2 : k ≤ (cap : Int) := by omega
  have a3 : l ≤ (h.toNat : Int) := by omega
  have a4 : h ≤ (k.toNat : Int) := by omega
  have a5 : h ≤ max k 0 := by omega
  have a6 : l ≤ max h 0 := by omega
  rcases hl with ⟨rfl, rfl⟩ | ⟨q3, rfl⟩ <;> simp [Instr.sliceBounds, Instr.sliceBound, asIntOf, *]
theorem run_slc3X {t e : TypeId} (hu : P.underlying t = some (.slice e)) {ie : TypeInfo} (hie : P.info? e = some ie) {x : SV} {l hh k : Int} {nx nx' : Nat} {r : SV} {ups : List (Nat × Option Chunk)} {rs : List Nat} (hm : mrun h (slc3X P e x l hh k nx) = some (r, ups, nx', rs)) {u : Value} {ul uh um : Option Value} (hx : VRel P ω w Im θ x u)
    (bl : (ul = none ∧ l = 0) ∨ ∃ q, ul = some (.int q l)) (bh : ∃ q, uh = some (.int q hh)) (bm : ∃ q, um = some (.int q k)) :
    ∃ v, (Instr.sliceAt t u ul uh um).run P w = .ok v w ∧ VRel P ω w Im θ r v ∧ ups = [] ∧ nx' = nx := by
  unfold slc3X at hm
  split at hm
  case h_2 => simp [mrun] at hm
  rename_i y sz i n
  have hb0 := bif_fail hm; clear hm; obtain ⟨hk, hm⟩ := hb0
  have : sz = P.cellsOf e := Nat.eq_of_beq_eq_true hk
  subst this
  have hb0 := mrun_ite_fail' hm; clear hm; obtain ⟨hc, hm⟩ := hb0
  simp only [Bool.and_eq_true, decide_eq_true_eq] at hc
  obtain ⟨⟨⟨c1, c2⟩, c3⟩, c4⟩ := hc
  obtain ⟨rfl, rfl, rfl, -⟩ := mrun_done hm
  cases hx with
  | qs hθ g1 g2 =>
    rename_i b N cap
    have hb := run_bounds3 (P := P) (w := w) bl bh bm c1 c2 c3 c4 g2
    by_cases hcl : k.toNat = l.toNat
    · have hz : hh.toNat - l.toNat = 0 := by omega
      refine ⟨.slice (some ⟨b, i * P.cellsOf e, none⟩) 0 0, ?_, .qsnil hz, rfl, rfl⟩
      simp [Instr.sliceAt, Instr.slice, run_underlying hu, hb, run_sizeOf' hie, hz, hcl]
    · refine ⟨.slice (some ⟨b, (i + l.toNat) * P.cellsOf e, none⟩) (hh.toNat - l.toNat) (k.toNat - l.toNat), ?_, .qs hθ ?_ (by omega), rfl, rfl⟩
      · simp [Instr.sliceAt, Instr.slice, run_underlying hu, hb, run_sizeOf' hie, hcl, add_off, Nat.add_mul]
      · have : i + l.toNat + (k.toNat - l.toNat) ≤ i + cap := by omega
        exact Nat.le_trans (Nat.mul_le_mul_right _ this) g1
  | qsnil h0 =>
    rename_i p
    subst h0
    have hb := run_bounds3 (P := P) (w := w) (cap := 0) bl bh bm c1 c2 c3 c4 (Nat.le_refl _)
    have hl0 : l = 0 := by omega
    have hh0 : hh = 0 := by omega
    have hk0 : k = 0 := by omega
    subst hl0
    subst hh0
    subst hk0
    refine ⟨.slice p 0 0, ?_, .qsnil (by simp), rfl, rfl⟩
    simp [Instr.sliceAt, Instr.slice, run_underlying hu, hb, run_sizeOf' hie]
theorem run_slcX {t : TypeId} {x : SV} {lo hi mx : Option SV} {nx nx' : Nat} {r : SV} {ups : List (Nat × Option Chunk)} {rs : List Nat} (hr : HRel P ω w Im θ h) (hm : mrun h (slcX P t x lo hi mx nx) = some (r, ups, nx', rs)) {u : Value} {ul uh um : Option Value} (hx : VRel P ω w Im θ x u)
    (l1 : lo = none → ul = none) (l2 : ∀ v, lo = some v → ∃ x, ul = some x ∧ VRel P ω w Im θ v x) (i1 : hi = none → uh = none) (i2 : ∀ v, hi = some v → ∃ x, uh = some x ∧ VRel P ω w Im θ v x) (m1 : mx = none → um = none) (m2 : ∀ v, mx = some v → ∃ x, um = some x ∧ VRel P ω w Im θ v x) :
    ∃ v, (Instr.sliceAt t u ul uh um).run P w = .ok v w ∧ VRel P ω w Im θ r v ∧ ups = [] ∧ nx' = nx := by
  unfold slcX at hm
  split at hm
  · obtain rfl := m1 rfl
    split at hm
    · -- a string
      rename_i s hu
      split at hm
      case h_2 => simp [mrun] at hm
      rename_i l hh hl' hh'
      have hb0 := mrun_ite_fail' hm; clear hm; obtain ⟨hc, hm⟩ := hb0
      simp only [Bool.and_eq_true, decide_eq_true_eq] at hc
      obtain ⟨⟨c1, c2⟩, c3⟩ := hc
      obtain ⟨rfl, rfl, rfl, rfl⟩ := mrun_done hm
      have bl := bound_rel hl' l1 l2
      have bh := bound_rel hh' i1 i2
      cases hx with
      | str hs =>
        rename_i bs
        rw [← bytes_size hs] at bh c3
        have hb := run_boundsA (P := P) (w := w) bl bh c1 c2 c3
        refine ⟨.string (bs.extract l.toNat hh.toNat), ?_, .str ?_, rfl, rfl⟩
        · simp [Instr.sliceAt, Instr.slice, run_underlying hu, hb]
        · rw [ByteArray.data_extract, Array.toList_extract, hs, List.extract_eq_take_drop]
    · -- known by content
      rename_i e e' es hu
      split at hm
      case h_2 => simp [mrun] at hm
      rename_i l hh hl' hh'
      have hb0 := bif_fail hm; clear hm; obtain ⟨hk, hm⟩ := hb0
      simp only [Bool.and_eq_true] at hk
      have : e = e' := Nat.eq_of_beq_eq_true hk.1
      subst this
      obtain ⟨ie, hie⟩ := known_info hk.2
      have hb0 := mrun_ite_fail' hm; clear hm; obtain ⟨hc, hm⟩ := hb0
      simp only [Bool.and_eq_true, decide_eq_true_eq] at hc
      obtain ⟨⟨c1, c2⟩, c3⟩ := hc
      obtain ⟨rfl, rfl, rfl, rfl⟩ := mrun_done hm
      have bl := bound_rel hl' l1 l2
      have bh := bound_rel hh' i1 i2
      have hx2 := hx
      cases hx with
      | psl us h1 h0 h2 h3 h4 =>
        rename_i p n cap
        rw [h1] at bh c3
        have hb := run_bounds (P := P) (w := w) bl bh c1 c2 c3 h0.1
        refine ⟨_, ?_, psl_part (l := l.toNat) (k := hh.toNat - l.toNat) hx2 (by omega), rfl, rfl⟩
        simp [Instr.sliceAt, Instr.slice, run_underlying hu, hb, run_sizeOf' hie]
    · -- a list that has grown
      rename_i e y sz k n hu
      split at hm
      case h_2 => simp [mrun] at hm
      rename_i l hh hl' hh'
      have hb0 := bif_fail hm; clear hm; obtain ⟨hk, hm⟩ := hb0
      simp only [Bool.and_eq_true] at hk
      have : sz = P.cellsOf e := Nat.eq_of_beq_eq_true hk.1
      subst this
      obtain ⟨ie, hie⟩ := known_info hk.2
      have hb0 := mrun_ite_fail' hm; clear hm; obtain ⟨hc, hm⟩ := hb0
      simp only [Bool.and_eq_true, decide_eq_true_eq] at hc
      obtain ⟨⟨c1, c2⟩, c3⟩ := hc
      obtain ⟨rfl, rfl, rfl, rfl⟩ := mrun_done hm
      have bl := bound_rel hl' l1 l2
      have bh := bound_rel hh' i1 i2
      cases hx with
      | qs hθ g1 g2 =>
        rename_i b N cap
        have hb := run_bounds (P := P) (w := w) bl bh c1 c2 c3 g2
        by_cases hcl : cap = l.toNat
        · have hz : hh.toNat - l.toNat = 0 := by omega
          refine ⟨.slice (some ⟨b, k * P.cellsOf e, none⟩) 0 0, ?_, .qsnil hz, rfl, rfl⟩
          subst hcl
          simp [Instr.sliceAt, Instr.slice, run_underlying hu, hb, run_sizeOf' hie, hz]
        · refine ⟨.slice (some ⟨b, (k + l.toNat) * P.cellsOf e, none⟩) (hh.toNat - l.toNat) (cap - l.toNat), ?_, .qs hθ ?_ (by omega), rfl, rfl⟩
          · simp [Instr.sliceAt, Instr.slice, run_underlying hu, hb, run_sizeOf' hie, hcl, add_off, Nat.add_mul]
          · have : k + l.toNat + (cap - l.toNat) = k + cap := by omega
            rw [this]; exact g1
      | qsnil h0 =>
        rename_i p
        subst h0
        have hb := run_bounds (P := P) (w := w) (cap := 0) bl bh c1 c2 c3 (Nat.le_refl _)
        have hl0 : l = 0 := by omega
        have hh0 : hh = 0 := by omega
        subst hl0
        subst hh0
        refine ⟨.slice p 0 0, ?_, .qsnil (by simp), rfl, rfl⟩
        simp [Instr.sliceAt, Instr.slice, run_underlying hu, hb, run_sizeOf' hie]
    · rename_i e hu
      split at hm
      case h_2 => simp [mrun] at hm
      rename_i l hh hl' hh'
      have hb0 := bif_fail hm; clear hm; obtain ⟨hk, hm⟩ := hb0
      obtain ⟨ie, hie⟩ := known_info hk
      have hb0 := mrun_ite_fail' hm; clear hm; obtain ⟨hc, hm⟩ := hb0
      simp only [Bool.and_eq_true, decide_eq_true_eq] at hc
      obtain ⟨rfl, rfl⟩ := hc
      obtain ⟨rfl, rfl, rfl, rfl⟩ := mrun_done hm
      have bl := bound_rel hl' l1 l2
      have bh := bound_rel hh' i1 i2
      cases hx
      have hb := run_bounds (P := P) (w := w) (n := 0) (cap := 0) bl bh (Int.le_refl _) (Int.le_refl _) (Int.le_refl _) (Nat.le_refl _)
      refine ⟨.slice none 0 0, ?_, .nils, rfl, rfl⟩
      simp [Instr.sliceAt, Instr.slice, run_underlying hu, hb, run_sizeOf' hie]
    · exact run_sliceArr hr hm hx l1 l2 i1 i2 (fun h => rfl)
    · simp [mrun] at hm
  · rename_i m
    obtain ⟨xm, rfl, hxm⟩ := m2 m rfl
    split at hm
    case h_2 => simp [mrun] at hm
    rename_i e l hh k hu hl' hh' hk'
    have hb0 := bif_fail hm; clear hm; obtain ⟨hk, hm⟩ := hb0
    simp only [Bool.and_eq_true] at hk
    obtain ⟨ie, hie⟩ := known_info hk.1
    have bl := bound_rel hl' l1 l2
    have bm0 : ∃ q, some xm = some (.int q k) := by
      cases m <;> simp only [boundS] at hk' <;> try (cases hk'; done)
      simp only [Option.some.injEq] at hk'
      subst hk'
      cases hxm
      exact ⟨_, rfl⟩
    have bh0 : ∃ q, uh = some (.int q hh) := by
      cases hi with
      | none => simp at hk
      | some v =>
        obtain ⟨x, rfl, hv⟩ := i2 v rfl
        cases v <;> simp only [boundS] at hh' <;> try (cases hh'; done)
        simp only [Option.some.injEq] at hh'
        subst hh'
        cases hv
        exact ⟨_, rfl⟩
    have hm2 := mrun_ite_either hm
    clear hm
    rcases hm2 with ⟨hc, hm⟩ | ⟨hc, hm⟩
    case inr => exact run_slc3X hu hie hm hx bl bh0 bm0
    simp only [Bool.and_eq_true, decide_eq_true_eq] at hc
    obtain ⟨⟨rfl, rfl⟩, rfl⟩ := hc
    have bm : ∃ kk, xm = .int kk 0 := by
      cases m <;> simp only [boundS] at hk' <;> try (cases hk'; done)
      simp only [Option.some.injEq] at hk'
      subst hk'
      cases hxm
      exact ⟨_, rfl⟩
    have bh : ∃ kk, uh = some (.int kk 0) := by
      cases hi with
      | none => simp at hk
      | some v =>
        obtain ⟨x, rfl, hv⟩ := i2 v rfl
        cases v <;> simp only [boundS] at hh' <;> try (cases hh'; done)
        simp only [Option.some.injEq] at hh'
        subst hh'
        cases hv
        exact ⟨_, rfl⟩
    obtain ⟨km, rfl⟩ := bm
    obtain ⟨kh, rfl⟩ := bh
    have hb : ∀ n cap, (Instr.sliceBounds true n cap ul (some (.int kh 0)) (some (.int km 0))).run P w = .ok (0, 0, 0) w := by
      intro n cap
      rcases bl with ⟨rfl, _⟩ | ⟨kl, rfl⟩ <;> simp [Instr.sliceBounds, Instr.sliceBound, asIntOf]
    have key : ∀ (p : Option Addr) (n cap : Nat), (Instr.sliceAt t (.slice p n cap) ul (some (.int kh 0)) (some (.int km 0))).run P w = .ok (.slice p 0 0) w := by
      intro p n cap
      simp [Instr.sliceAt, Instr.slice, run_underlying hu, hb, run_sizeOf' hie]
    split at hm
    · obtain ⟨rfl, rfl, rfl, rfl⟩ := mrun_done hm
      cases hx
      exact ⟨_, key _ _ _, .nils, rfl, rfl⟩
    · obtain ⟨rfl, rfl, rfl, rfl⟩ := mrun_done hm
      cases hx
      exact ⟨_, key _ _ _, .emp, rfl, rfl⟩
    · obtain ⟨rfl, rfl, rfl, rfl⟩ := mrun_done hm
      cases hx
      exact ⟨_, key _ _ _, .emp, rfl, rfl⟩
    · obtain ⟨rfl, rfl, rfl, rfl⟩ := mrun_done hm
      cases hx
      exact ⟨_, key _ _ _, .emp, rfl, rfl⟩
    · obtain ⟨rfl, rfl, rfl, rfl⟩ := mrun_done hm
      cases hx <;> exact ⟨_, key _ _ _, .emp, rfl, rfl⟩
    · obtain ⟨rfl, rfl, rfl, rfl⟩ := mrun_done hm
      cases hx <;> exact ⟨_, key _ _ _, .emp, rfl, rfl⟩
    · simp [mrun] at hm

/- Elements. -/
theorem run_indexAddrX {t : TypeId} {x ix : SV} {nx nx' : Nat} {r : SV} {ups : List (Nat × Option Chunk)} {rs : List Nat} (hm : mrun h (indexAddrX P t x ix nx) = some (r, ups, nx', rs)) {u ui : Value} (hx : VRel P ω w Im θ x u) (hi : VRel P ω w Im θ ix ui) :
    ∃ v, (Instr.indexAt t u ui).run P w = .ok v w ∧ VRel P ω w Im θ r v ∧ ups = [] ∧ nx' = nx := by
  unfold indexAddrX at hm
  split at hm
  · rename_i k i e e' es hu
    cases hi
    have hb0 := bif_fail hm; clear hm; obtain ⟨hk, hm⟩ := hb0
    simp only [Bool.and_eq_true] at hk
    have : e = e' := Nat.eq_of_beq_eq_true hk.1
    subst this
    obtain ⟨ie, hie⟩ := known_info hk.2
    obtain ⟨hb, rfl, rfl, rfl⟩ := mrun_ite_fail hm
    have hb' := inB_iff.1 hb
    cases hx with
    | psl us h1 h0 h2 h3 h4 =>
      rename_i p n cap
      have hil : i.toNat < es.length := by omega
      obtain ⟨a, off, rfl, ha, hc⟩ := h4 (by omega)
      obtain ⟨g1, g2⟩ := hc i.toNat (by omega)
      have hget : es[i.toNat]? = some es[i.toNat] := by simp [hil]
      refine ⟨.pointer (some ⟨a, off + i.toNat * P.cellsOf e + 0, none⟩), ?_, .pel ?_ ha g2, rfl, rfl⟩
      · have hin : 0 ≤ i ∧ i < (n : Int) := by omega
        simp [Instr.indexAt, asIntOf, run_underlying hu, hin, run_sizeOf' hie, add_off]
      · have : es.getD i.toNat .junk = es[i.toNat] := by simp [List.getD_eq_getElem?_getD, hget]
        rw [this, h2 _ (List.getElem_mem hil)]
        exact h3 _ _ hget
  · rename_i k i e y sz l n hu
    cases hi
    have hb0 := bif_fail hm; clear hm; obtain ⟨hk, hm⟩ := hb0
    simp only [Bool.and_eq_true] at hk
    have : sz = P.cellsOf e := Nat.eq_of_beq_eq_true hk.1
    subst this
    obtain ⟨ie, hie⟩ := known_info hk.2
    obtain ⟨hb, rfl, rfl, rfl⟩ := mrun_ite_fail hm
    have hb' := inB_iff.1 hb
    cases hx with
    | qs hθ g1 g2 =>
      rename_i b N cap
      refine ⟨.pointer (some ⟨b, (l + i.toNat) * P.cellsOf e + 0, none⟩), ?_, .qp hθ, rfl, rfl⟩
      simp [Instr.indexAt, asIntOf, run_underlying hu, hb', run_sizeOf' hie, add_off, Nat.add_mul]
    | qsnil h0 => exfalso; omega
  · rename_i k i n e v off hu
    cases hi
    have hb0 := bif_fail hm; clear hm; obtain ⟨hk, hm⟩ := hb0
    obtain ⟨ie, hie⟩ := known_info hk
    obtain ⟨hb, rfl, rfl, rfl⟩ := mrun_ite_fail hm
    have hb' := inB_iff.1 hb
    cases hx with
    | pel h1 h2 h3 =>
      refine ⟨_, ?_, .pel h1 h2 h3, rfl, rfl⟩
      simp [Instr.indexAt, asIntOf, run_underlying hu, Instr.sureAddr, hb', run_sizeOf' hie, add_off, Nat.add_assoc]
  · rename_i k i n e y sz l off hu
    cases hi
    have hb0 := bif_fail hm; clear hm; obtain ⟨hk, hm⟩ := hb0
    obtain ⟨ie, hie⟩ := known_info hk
    obtain ⟨hb, rfl, rfl, rfl⟩ := mrun_ite_fail hm
    have hb' := inB_iff.1 hb
    cases hx with
    | qp hθ =>
      refine ⟨_, ?_, .qp hθ, rfl, rfl⟩
      simp [Instr.indexAt, asIntOf, run_underlying hu, Instr.sureAddr, hb', run_sizeOf' hie, add_off, Nat.add_assoc]
  · simp [mrun] at hm

/-- A part of a value that lies in memory. -/
theorem run_loadVar_at {θ' : Th} {a base off : Nat} {us : List Value} {vs : List SV} {t : TypeId} {v : SV} (hmem : ∀ (d : Nat) (c : Value), us[d]? = some c → w.cell? ⟨a, base + d, none⟩ = some c) (hl : LRel P ω w Im θ' vs us) (hp : partS P t vs off = some v) :
    ∃ u, (loadVar t ⟨a, base + off, none⟩).run P w = .ok u w ∧ VRel P ω w Im θ' v u := by
  obtain ⟨u, hu, hc⟩ := part_val hl hp
  refine ⟨u, ?_, hu⟩
  have hun : ∃ d, P.underlying t = some d := by
    unfold partS at hp
    cases h : P.underlying t with
    | none => simp [h] at hp
    | some d => exact ⟨d, rfl⟩
  obtain ⟨d, hd⟩ := hun
  obtain ⟨i, hi⟩ := info_of_underlying hd
  rcases hc with ⟨h1, rfl, h2⟩ | ⟨h1, h2⟩
  · have hload := run_loadCells_list (P := P) w ⟨a, base + off, none⟩ ((us.drop off).take (P.cellsOf t)) (fun j v hj => by
      rw [List.getElem?_take] at hj
      split at hj
      · rw [List.getElem?_drop] at hj
        rw [add_off, Nat.add_assoc]
        exact hmem _ _ hj
      · cases hj)
    have hn : ((us.drop off).take (P.cellsOf t)).length = P.cellsOf t := by simp; omega
    rw [hn] at hload
    unfold loadVar
    simp [run_isAgg hd, h1, run_sizeOf' hi, hload]
  · have hc := hmem off u h2
    unfold loadVar
    simp [run_isAgg hd, h1, hc]

theorem VRel.names {θ' : Th} {v : SV} {u : Value} (hv : VRel P om0 w Im noTh v u) (hn : noOpq v = true) : VRel P ω w Im θ' v u := (VRel.om hv hn).mono (fun b hb => ⟨hb, rfl⟩) (fun x p hp => by simp [noTh] at hp)

theorem run_loadX {t : TypeId} {a : SV} {nx nx' : Nat} {r : SV} {ups : List (Nat × Option Chunk)} {rs : List Nat} (hr : HRel P ω w Im θ h) (hm : mrun h (loadX P t a nx) = some (r, ups, nx', rs)) {u : Value} (hx : VRel P ω w Im θ a u) :
    ∃ v, (Instr.loadAt t u).run P w = .ok v w ∧ VRel P ω w Im θ r v ∧ ups = [] ∧ nx' = nx := by
  unfold loadX at hm
  split at hm
  · rename_i v off
    split at hm
    case h_2 => simp [mrun] at hm
    rename_i cs hcs
    split at hm
    case h_2 => simp [mrun] at hm
    rename_i z hz
    have hb0 := bif_fail hm; clear hm; obtain ⟨hno, hm⟩ := hb0
    obtain ⟨rfl, rfl, rfl, rfl⟩ := mrun_done hm
    cases hx with
    | pel h1 h2 h3 =>
      rename_i uu a base
      obtain ⟨q, hq1, hq2⟩ := run_loadVar_at (t := t) (off := off) (us := uu.cells.toList) (fun d c hd => h3 d c (by simpa using hd)) (cells_rel h1 hcs) hz
      exact ⟨q, by simp [Instr.loadAt, Instr.sureAddr, hq1], hq2.names hno, rfl, rfl⟩
  · rename_i y sz k off
    have hb0 := get_run hm; clear hm; obtain ⟨c, rs', hy, hm, rfl⟩ := hb0
    cases c with
    | seq e es =>
      have hb0 := bif_fail hm; clear hm; obtain ⟨hk, hm⟩ := hb0
      have : sz = P.cellsOf e := Nat.eq_of_beq_eq_true hk
      subst this
      split at hm
      case h_2 => simp [mrun] at hm
      rename_i cs hcs
      split at hm
      case h_2 => simp [mrun] at hm
      rename_i z hz
      have hb0 := bif_fail hm; clear hm; obtain ⟨hno, hm⟩ := hb0
      obtain ⟨hb, rfl, rfl, rfl⟩ := mrun_ite_fail hm
      have hkl : k < es.length := of_decide_eq_true hb
      cases hx with
      | qp hθ =>
        rename_i b N
        rcases hr.at_ y _ hy with ⟨_, h3⟩ | ⟨b', N', ca, T, fr, us, h3, h4, h5, h6, h7, h8, h9⟩
        · rw [h3] at hθ; cases hθ
        · rw [hθ] at h3
          simp only [Option.some.injEq, Prod.mk.injEq] at h3
          obtain ⟨rfl, rfl⟩ := h3
          have hget : es[k]? = some es[k] := by simp [hkl]
          obtain ⟨g1, g2, g3⟩ := h9 k es[k] hget
          have hex : expand P e (es.getD k .junk) = es[k] := by
            have : es.getD k .junk = es[k] := by simp [List.getD_eq_getElem?_getD, hget]
            rw [this, h8 _ (List.getElem_mem hkl)]
          rw [hex] at hcs
          obtain ⟨q, hq1, hq2⟩ := run_loadVar_at (t := t) (a := b) (base := k * P.cellsOf e) (off := off) (us := (us k).cells.toList) (fun d c hd => by
            have := g3 d c (by simpa using hd)
            simp only [World.cell?, h4]
            simpa using this) (cells_rel g1 hcs) hz
          exact ⟨q, by simp [Instr.loadAt, Instr.sureAddr, hq1], hq2.names hno, rfl, rfl⟩
    | cells => simp [mrun] at hm
    | loopr => simp [mrun] at hm
    | mpc => simp [mrun] at hm
  · simp [mrun] at hm
end
end Go.Am
