/- The abstract machine: indices, lengths. -/
import Derived.Test.YtbeolnccdhjjeaaAmOps
namespace Go.Am
variable {P : Program} {ω : Nat → Value}

theorem inB_iff {i : Int} {n : Nat} : inB i n = true ↔ 0 ≤ i ∧ i < (n : Int) := by simp [inB]
theorem known_info {e : TypeId} (h : knownT P e = true) : ∃ i, P.info? e = some i := Option.isSome_iff_exists.1 h
theorem mrun_ite_fail {h : HpF} {b : Bool} {r0 r : SV} {ups : List (Nat × Option Chunk)} {nx nx' : Nat} {rs : List Nat} (hm : mrun h (.ite b (.done r0 [] nx) .fail) = some (r, ups, nx', rs)) : b = true ∧ r = r0 ∧ ups = [] ∧ nx' = nx := by
  cases b
  · simp [mrun] at hm
  · simp only [mrun, if_true, Option.some.injEq, Prod.mk.injEq] at hm
    exact ⟨rfl, hm.1.symm, hm.2.1.symm, hm.2.2.1.symm⟩

theorem bytes_size {bs : ByteArray} {s : List UInt8} (hs : bs.data.toList = s) : bs.size = s.length := by
  subst hs
  exact (Array.length_toList (xs := bs.data)).symm
theorem bytes_get {bs : ByteArray} {s : List UInt8} (hs : bs.data.toList = s) {i : Nat} (h : i < s.length) : bs[i]? = some (s.getD i 0) := by
  have h2 : i < bs.size := by rw [bytes_size hs]; exact h
  rw [getElem?_pos bs i h2]
  subst hs
  have h3 : i < bs.data.size := h2
  show some (bs.data[i]) = _
  rw [List.getD_eq_getElem?_getD, Array.getElem?_toList, Array.getElem?_eq_getElem h3]
  rfl

theorem run_indexAddr {h : HpF} {t : TypeId} {x ix : SV} {nx nx' : Nat} {r : SV} {ups : List (Nat × Option Chunk)} {rs : List Nat} (hm : mrun h (indexAddrS P t x ix nx) = some (r, ups, nx', rs)) {w : World} {Im : Nat → Prop} {θ : Th} {u ui : Value} (hx : VRel P ω w Im θ x u) (hi : VRel P ω w Im θ ix ui) :
    ∃ v, (Instr.indexAt t u ui).run P w = .ok v w ∧ VRel P ω w Im θ r v ∧ ups = [] ∧ nx' = nx := by
  unfold indexAddrS at hm
  split at hm
  · rename_i k i n e y off hu
    cases hi
    cases hx with
    | ptr hθ =>
      cases hk : knownT P e with
      | false => rw [hk] at hm; simp [mrun] at hm
      | true =>
        rw [hk] at hm
        obtain ⟨hb, rfl, rfl, rfl⟩ := mrun_ite_fail hm
        obtain ⟨ie, hie⟩ := known_info hk
        have hb' := inB_iff.1 hb
        refine ⟨_, ?_, .ptr hθ, rfl, rfl⟩
        simp [Instr.indexAt, asIntOf, run_underlying hu, Instr.sureAddr, hb', run_sizeOf' hie, add_off]
  · rename_i k i e y sz off n hu
    cases hi
    cases hk : knownT P e with
    | false => rw [hk] at hm; simp [mrun] at hm
    | true =>
      rw [hk] at hm
      obtain ⟨hb, rfl, rfl, rfl⟩ := mrun_ite_fail hm
      obtain ⟨ie, hie⟩ := known_info hk
      have hb' := inB_iff.1 hb
      cases hx with
      | sl hθ h1 h2 =>
        refine ⟨_, ?_, .ptr hθ, rfl, rfl⟩
        simp [Instr.indexAt, asIntOf, run_underlying hu, hb', run_sizeOf' hie, add_off]
      | slnil => exfalso; have := hb'.2; omega
  · simp [mrun] at hm

theorem run_index {h : HpF} {t : TypeId} {x ix : SV} {nx nx' : Nat} {r : SV} {ups : List (Nat × Option Chunk)} {rs : List Nat} (hm : mrun h (indexS P t x ix nx) = some (r, ups, nx', rs)) {w : World} {Im : Nat → Prop} {θ : Th} {u ui : Value} (hx : VRel P ω w Im θ x u) (hi : VRel P ω w Im θ ix ui) :
    ∃ v, (Instr.index t u ui).run P w = .ok v w ∧ VRel P ω w Im θ r v ∧ ups = [] ∧ nx' = nx := by
  unfold indexS at hm
  split at hm
  · rename_i k i n e cs hu
    cases hi
    cases hx with
    | agg h1 h2 =>
      rename_i us
      cases hk : knownT P e with
      | false => rw [hk] at hm; simp [mrun] at hm
      | true =>
        rw [hk] at hm
        simp only [cond_true] at hm
        cases hp : partS P e cs (i.toNat * P.cellsOf e) with
        | none => rw [hp] at hm; simp [mrun] at hm
        | some v =>
          rw [hp] at hm
          obtain ⟨hb, rfl, rfl, rfl⟩ := mrun_ite_fail hm
          obtain ⟨ie, hie⟩ := known_info hk
          have hb' := inB_iff.1 hb
          have hl : LRel P ω w Im θ cs us.toList := ⟨by simpa using h1, fun i v u hv hu => h2 i v u hv (by simpa using hu)⟩
          obtain ⟨u, hru, hvu⟩ := run_part_rel hl hp
          refine ⟨u, ?_, hvu, rfl, rfl⟩
          simp [Instr.index, asIntOf, run_underlying hu, hb', run_sizeOf' hie, hru]
  · rename_i k i s hu
    cases hi
    cases hx with
    | str hs =>
      rename_i bs
      obtain ⟨hb, rfl, rfl, rfl⟩ := mrun_ite_fail hm
      have hb' := inB_iff.1 hb
      have e : bs[i.toNat]? = some (s.getD i.toNat 0) := bytes_get hs (by omega)
      refine ⟨_, ?_, .int, rfl, rfl⟩
      simp [Instr.index, asIntOf, run_underlying hu, hb'.1, e]
  · simp [mrun] at hm

theorem bound_rel {w : World} {Im : Nat → Prop} {θ : Th} {o : Option SV} {u : Option Value} {d l : Int} (hb : boundS o d = some l) (hn : o = none → u = none) (hs : ∀ v, o = some v → ∃ x, u = some x ∧ VRel P ω w Im θ v x) : (u = none ∧ l = d) ∨ ∃ k, u = some (.int k l) := by
  cases o with
  | none => simp only [boundS, Option.some.injEq] at hb; exact .inl ⟨hn rfl, hb.symm⟩
  | some v =>
    obtain ⟨x, rfl, hv⟩ := hs v rfl
    cases v <;> simp only [boundS] at hb <;> try (cases hb; done)
    simp only [Option.some.injEq] at hb
    subst hb
    cases hv
    exact .inr ⟨_, rfl⟩

theorem run_bounds {w : World} {n cap : Nat} {lu hu : Option Value} {l h : Int} (hl : (lu = none ∧ l = 0) ∨ ∃ k, lu = some (.int k l)) (hh : (hu = none ∧ h = (n : Int)) ∨ ∃ k, hu = some (.int k h)) (h1 : 0 ≤ l) (h2 : l ≤ h) (h3 : h ≤ (n : Int)) (h4 : n ≤ cap) :
    (Instr.sliceBounds true n cap lu hu none).run P w = .ok (l.toNat, h.toNat, cap) w := by
  have a1 : 0 ≤ h := by omega
  have a2 : h ≤ (cap : Int) := by omega
  have a3 : l ≤ (h.toNat : Int) := by omega
  rcases hl with ⟨rfl, rfl⟩ | ⟨k, rfl⟩ <;> rcases hh with ⟨rfl, rfl⟩ | ⟨k', rfl⟩ <;> simp [Instr.sliceBounds, Instr.sliceBound, asIntOf, *]
  all_goals (intro hx; exfalso; omega)

theorem run_slice {h : HpF} {t : TypeId} {x : SV} {lo hi mx : Option SV} {nx nx' : Nat} {r : SV} {ups : List (Nat × Option Chunk)} {rs : List Nat} (hm : mrun h (sliceS P t x lo hi mx nx) = some (r, ups, nx', rs)) {w : World} {Im : Nat → Prop} {θ : Th} {u : Value} {ul uh um : Option Value} (hx : VRel P ω w Im θ x u)
    (l1 : lo = none → ul = none) (l2 : ∀ v, lo = some v → ∃ x, ul = some x ∧ VRel P ω w Im θ v x) (i1 : hi = none → uh = none) (i2 : ∀ v, hi = some v → ∃ x, uh = some x ∧ VRel P ω w Im θ v x) (m1 : mx = none → um = none) :
    ∃ v, (Instr.sliceAt t u ul uh um).run P w = .ok v w ∧ VRel P ω w Im θ r v ∧ ups = [] ∧ nx' = nx := by
  unfold sliceS at hm
  split at hm
  case h_2 => simp [mrun] at hm
  rename_i e y sz off n hu
  obtain rfl := m1 rfl
  split at hm
  case h_2 => simp [mrun] at hm
  rename_i l hh hl' hh'
  cases hk : knownT P e && Nat.beq sz (P.cellsOf e) with
  | false => rw [hk] at hm; simp [mrun] at hm
  | true =>
    rw [hk] at hm
    simp only [cond_true] at hm
    simp only [Bool.and_eq_true] at hk
    obtain ⟨ie, hie⟩ := known_info hk.1
    have hsz : sz = P.cellsOf e := Nat.eq_of_beq_eq_true hk.2
    have bl := bound_rel hl' l1 l2
    have bh := bound_rel hh' i1 i2
    unfold slicedS at hm
    simp only [mrun] at hm
    split at hm
    case isFalse => cases hm
    rename_i hc
    simp only [Bool.and_eq_true, decide_eq_true_eq] at hc
    obtain ⟨⟨c1, c2⟩, c3⟩ := hc
    cases hx with
    | sl hθ h1 h2 =>
      rename_i b N cap
      have hb := run_bounds (P := P) (w := w) bl bh c1 c2 c3 h2
      split at hm
      · rename_i hc2
        simp only [Option.some.injEq, Prod.mk.injEq] at hm
        obtain ⟨rfl, rfl, rfl, _⟩ := hm
        simp only [Bool.or_eq_true, decide_eq_true_eq] at hc2
        refine ⟨.slice (some ⟨b, off + l.toNat * sz, none⟩) (hh.toNat - l.toNat) (cap - l.toNat), ?_, ?_, rfl, rfl⟩
        · by_cases hcl : cap = l.toNat
          · have h0 : l = 0 := by omega
            subst h0
            have hc0 : cap = 0 := by simpa using hcl
            subst hc0
            simp [Instr.sliceAt, Instr.slice, run_underlying hu, hb, run_sizeOf' hie]
          · simp [Instr.sliceAt, Instr.slice, run_underlying hu, hb, run_sizeOf' hie, hcl, add_off, hsz]
        · refine .sl hθ ?_ (by omega)
          have : (l.toNat + (cap - l.toNat)) * sz = cap * sz := by congr 1; omega
          rw [Nat.add_assoc, ← Nat.add_mul, this]; exact h1
      · rename_i hc2
        simp only [Option.some.injEq, Prod.mk.injEq] at hm
        obtain ⟨rfl, rfl, rfl, _⟩ := hm
        simp only [Bool.or_eq_true, decide_eq_true_eq, not_or] at hc2
        refine ⟨.slice (if cap = l.toNat then some ⟨b, off, none⟩ else some ⟨b, off + l.toNat * sz, none⟩) 0 (cap - l.toNat), ?_, .psl (fun _ => undef) rfl ⟨Nat.zero_le _, by intro h; split at h <;> cases h⟩ (fun v hv => by cases hv) (fun i v hv => by simp at hv) (fun hn => absurd rfl hn), rfl, rfl⟩
        have e0 : hh.toNat - l.toNat = 0 := by omega
        by_cases hcl : cap = l.toNat
        · subst hcl
          simp [Instr.sliceAt, Instr.slice, run_underlying hu, hb, run_sizeOf' hie, e0]
        · simp [Instr.sliceAt, Instr.slice, run_underlying hu, hb, run_sizeOf' hie, hcl, add_off, hsz, e0]
    | slnil =>
      have hb := run_bounds (P := P) (w := w) (cap := 0) bl bh c1 c2 c3 (Nat.le_refl _)
      have hl0 : l = 0 := by omega
      have hh0 : hh = 0 := by omega
      subst hl0
      subst hh0
      simp only [Int.ofNat_zero, decide_true, Bool.or_true, if_true, Option.some.injEq, Prod.mk.injEq] at hm
      obtain ⟨rfl, rfl, rfl, _⟩ := hm
      refine ⟨.slice none 0 0, ?_, ?_, rfl, rfl⟩
      · simp [Instr.sliceAt, Instr.slice, run_underlying hu, hb, run_sizeOf' hie]
      · simpa using VRel'.slnil

theorem run_boundsA {w : World} {n : Nat} {lu hu : Option Value} {l h : Int} (hl : (lu = none ∧ l = 0) ∨ ∃ k, lu = some (.int k l)) (hh : (hu = none ∧ h = (n : Int)) ∨ ∃ k, hu = some (.int k h)) (h1 : 0 ≤ l) (h2 : l ≤ h) (h3 : h ≤ (n : Int)) :
    (Instr.sliceBounds false n n lu hu none).run P w = .ok (l.toNat, h.toNat, n) w := by
  have a1 : 0 ≤ h := by omega
  have a3 : l ≤ (h.toNat : Int) := by omega
  rcases hl with ⟨rfl, rfl⟩ | ⟨k, rfl⟩ <;> rcases hh with ⟨rfl, rfl⟩ | ⟨k', rfl⟩ <;> simp [Instr.sliceBounds, Instr.sliceBound, asIntOf, *]
  all_goals (intro hx; exfalso; omega)

theorem run_len {h : HpF} {t : TypeId} {x : SV} {nx nx' : Nat} {r : SV} {ups : List (Nat × Option Chunk)} {rs : List Nat} (hm : mrun h (lenS P t x nx) = some (r, ups, nx', rs)) {w : World} {Im : Nat → Prop} {θ : Th} {tys : Array TypeId} {ty : TypeId} {us : Array Value} {u : Value} (h1 : tys[0]? = some t) (h2 : us[0]? = some u) (hx : VRel P ω w Im θ x u) :
    ∃ v, (Builtin.len_ tys ty us).run P w = .ok v w ∧ VRel P ω w Im θ r v ∧ ups = [] ∧ nx' = nx := by
  unfold lenS at hm
  split at hm <;> (try (simp [mrun] at hm; done)) <;> rename_i hu <;> simp only [mrun, Option.some.injEq, Prod.mk.injEq] at hm <;> obtain ⟨rfl, rfl, rfl, _⟩ := hm
  · cases hx with
    | str hs =>
      rename_i bs
      refine ⟨_, ?_, .int, rfl, rfl⟩
      simp [Builtin.len_, h1, h2, run_underlying hu, goInt, bytes_size hs]
  · exact ⟨_, by simp [Builtin.len_, h1, h2, run_underlying hu, goInt], .int, rfl, rfl⟩
  · cases hx <;> exact ⟨_, by simp [Builtin.len_, h1, h2, run_underlying hu, goInt], .int, rfl, rfl⟩
  · cases hx; exact ⟨_, by simp [Builtin.len_, h1, h2, run_underlying hu, goInt], .int, rfl, rfl⟩
  · cases hx with
    | psl us' e1 e0 e2 e3 e4 => exact ⟨_, by simp [Builtin.len_, h1, h2, run_underlying hu, goInt, e1], .int, rfl, rfl⟩
end Go.Am
