/- The abstract machine: slices, elements, loads. -/
import Derived.Test.YtbeolnccdhjjeaaAmX4
import Derived.Laws.IdiomStrings
import Derived.MapKept
namespace Go.Am
variable {P : Program} {ω : Nat → Value}

theorem chkM_run {h : HpF} {n : Nat} : ∀ {m : OpM} {rs0 : List Nat} {r : SV} {ups : List (Nat × Option Chunk)} {nx : Nat} {rs : List Nat}, mrun h (chkM n m rs0) = some (r, ups, nx, rs) →
    mrun h m = some (r, ups, nx, rs) ∧ n ≤ nx ∧ ∀ p ∈ ups, p.1 ∈ rs0 ∨ p.1 ∈ rs ∨ (n ≤ p.1 ∧ p.1 < nx)
  | .done r0 ups0 nx0, rs0, r, ups, nx, rs, hm => by
    simp only [chkM] at hm
    cases hb : Nat.ble n nx0 && keysOk rs0 n nx0 ups0 with
    | false => simp [hb, mrun] at hm
    | true =>
      simp only [hb, cond_true] at hm
      obtain ⟨rfl, rfl, rfl, rfl⟩ := mrun_done hm
      simp only [Bool.and_eq_true] at hb
      refine ⟨rfl, by have := hb.1; rwa [Nat.ble_eq] at this, fun p hp => ?_⟩
      have key : ∀ (l : List (Nat × Option Chunk)), keysOk rs0 n nx0 l = true → ∀ p ∈ l, p.1 ∈ rs0 ∨ (n ≤ p.1 ∧ p.1 < nx0) := by
        intro l
        induction l with
        | nil => intro _ p hp; cases hp
        | cons q l ih =>
          obtain ⟨y, c⟩ := q
          intro hk p hp
          simp only [keysOk, Bool.and_eq_true, Bool.or_eq_true] at hk
          rcases List.mem_cons.1 hp with rfl | hp
          · rcases hk.1 with h1 | h1
            · exact .inl ((memN_iff' _ _).1 h1)
            · rw [Nat.ble_eq, Nat.blt_eq] at h1; exact .inr h1
          · exact ih hk.2 p hp
      rcases key _ hb.2 p hp with h1 | h1
      · exact .inl h1
      · exact .inr (.inr h1)
  | .get x k, rs0, r, ups, nx, rs, hm => by
    simp only [chkM, mrun] at hm ⊢
    cases hx : h x with
    | none => simp [hx] at hm
    | some c =>
      simp only [hx] at hm ⊢
      cases hk : mrun h (chkM n (k c) (x :: rs0)) with
      | none => simp [hk] at hm
      | some q =>
        obtain ⟨r1, ups1, nx1, rs1⟩ := q
        simp only [hk, Option.some.injEq, Prod.mk.injEq] at hm
        obtain ⟨rfl, rfl, rfl, rfl⟩ := hm
        obtain ⟨h1, h2, h3⟩ := chkM_run hk
        refine ⟨by rw [h1], h2, fun p hp => ?_⟩
        rcases h3 p hp with h4 | h4 | h4
        · rcases List.mem_cons.1 h4 with h5 | h5
          · exact .inr (.inl (by simp [h5]))
          · exact .inl h5
        · exact .inr (.inl (by simp [h4]))
        · exact .inr (.inr h4)
  | .ite b t e, rs0, r, ups, nx, rs, hm => by
    simp only [chkM, mrun] at hm ⊢
    cases b
    · simp only [Bool.false_eq_true, if_false] at hm ⊢
      exact chkM_run hm
    · simp only [if_true] at hm ⊢
      exact chkM_run hm
  | .fail, _, _, _, _, _, hm => by simp [chkM, mrun] at hm

theorem mrun_ite_fail' {h : HpF} {b : Bool} {m : OpM} {res : SV × List (Nat × Option Chunk) × Nat × List Nat} (hm : mrun h (.ite b m .fail) = some res) : b = true ∧ mrun h m = some res := by
  cases b
  · simp [mrun] at hm
  · exact ⟨rfl, by simpa [mrun] using hm⟩
theorem bif_fail {h : HpF} {b : Bool} {m : OpM} {res : SV × List (Nat × Option Chunk) × Nat × List Nat} (hm : mrun h (bif b then m else .fail) = some res) : b = true ∧ mrun h m = some res := by
  cases b
  · simp [mrun] at hm
  · exact ⟨rfl, hm⟩
theorem get_run {h : HpF} {x : Nat} {k : Chunk → OpM} {r : SV} {ups : List (Nat × Option Chunk)} {nx : Nat} {rs : List Nat} (hm : mrun h (.get x k) = some (r, ups, nx, rs)) : ∃ c rs', h x = some c ∧ mrun h (k c) = some (r, ups, nx, rs') ∧ rs = x :: rs' := by
  simp only [mrun] at hm
  cases hx : h x with
  | none => simp [hx] at hm
  | some c =>
    simp only [hx] at hm
    cases hk : mrun h (k c) with
    | none => simp [hk] at hm
    | some q =>
      obtain ⟨r1, ups1, nx1, rs1⟩ := q
      simp only [hk, Option.some.injEq, Prod.mk.injEq] at hm
      obtain ⟨rfl, rfl, rfl, rfl⟩ := hm
      exact ⟨c, rs1, rfl, hk, rfl⟩

section
variable {w : World} {Im : Nat → Prop} {θ : Th} {h : HpF}

/- Slicing. -/
theorem run_sliceArr {t : TypeId} {x : SV} {lo hi mx : Option SV} {nx nx' : Nat} {r : SV} {ups : List (Nat × Option Chunk)} {rs : List Nat} (hr : HRel P ω w Im θ h) (hm : mrun h (sliceArrS P t x lo hi mx nx) = some (r, ups, nx', rs)) {u : Value} {ul uh um : Option Value} (hx : VRel P ω w Im θ x u)
    (l1 : lo = none → ul = none) (l2 : ∀ v, lo = some v → ∃ x, ul = some x ∧ VRel P ω w Im θ v x) (i1 : hi = none → uh = none) (i2 : ∀ v, hi = some v → ∃ x, uh = some x ∧ VRel P ω w Im θ v x) (m1 : mx = none → um = none) :
    ∃ v, (Instr.sliceAt t u ul uh um).run P w = .ok v w ∧ VRel P ω w Im θ r v ∧ ups = [] ∧ nx' = nx := by
  unfold sliceArrS at hm
  split at hm
  case h_2 => simp [mrun] at hm
  rename_i n e y off hu
  obtain rfl := m1 rfl
  split at hm
  case h_2 => simp [mrun] at hm
  rename_i l hh hl' hh'
  obtain ⟨c, rs', hy, hm, rfl⟩ := get_run hm
  cases c with
  | cells T vs =>
    obtain ⟨hk, hm⟩ := bif_fail hm
    simp only [Bool.and_eq_true] at hk
    obtain ⟨ie, hie⟩ := known_info hk.1
    have hle : off + n * P.cellsOf e ≤ vs.length := by have := hk.2; rwa [Nat.ble_eq] at this
    have bl := bound_rel hl' l1 l2
    have bh := bound_rel hh' i1 i2
    unfold slicedS at hm
    obtain ⟨hc, hm⟩ := mrun_ite_fail' hm
    simp only [Bool.and_eq_true, decide_eq_true_eq] at hc
    obtain ⟨⟨c1, c2⟩, c3⟩ := hc
    cases hx with
    | ptr hθ =>
      rename_i b N
      obtain ⟨b', cs, fr, g1, g2, g3, g4⟩ := hr.at_ y _ hy
      rw [hθ] at g1
      simp only [Option.some.injEq, Prod.mk.injEq] at g1
      obtain ⟨rfl, rfl⟩ := g1
      have hb := run_boundsA (P := P) (w := w) bl bh c1 c2 c3
      simp only [mrun] at hm
      split at hm
      · rename_i hc2
        simp only [Option.some.injEq, Prod.mk.injEq] at hm
        obtain ⟨rfl, rfl, rfl, _⟩ := hm
        simp only [Bool.or_eq_true, decide_eq_true_eq] at hc2
        refine ⟨.slice (some ⟨b, off + l.toNat * P.cellsOf e, none⟩) (hh.toNat - l.toNat) (n - l.toNat), ?_, .sl hθ ?_ (by omega), rfl, rfl⟩
        · by_cases hcl : n = l.toNat
          · have h0 : l = 0 := by omega
            subst h0
            have hc0 : n = 0 := by simpa using hcl
            subst hc0
            simp [Instr.sliceAt, run_underlying hu, hb, run_sizeOf' hie, Instr.sureAddr]
          · simp [Instr.sliceAt, run_underlying hu, hb, run_sizeOf' hie, hcl, add_off, Instr.sureAddr]
        · have : (l.toNat + (n - l.toNat)) * P.cellsOf e = n * P.cellsOf e := by congr 1; omega
          rw [Nat.add_assoc, ← Nat.add_mul, this]; exact hle
      · rename_i hc2
        simp only [Option.some.injEq, Prod.mk.injEq] at hm
        obtain ⟨rfl, rfl, rfl, _⟩ := hm
        simp only [Bool.or_eq_true, decide_eq_true_eq, not_or] at hc2
        have hnl : n = l.toNat := by omega
        refine ⟨.slice (some ⟨b, off, none⟩) 0 0, ?_, .psl (fun _ => undef) rfl ⟨Nat.zero_le _, by simp⟩ (fun v hv => by cases hv) (fun i v hv => by simp at hv) (fun hn => absurd rfl hn), rfl, rfl⟩
        have e0 : hh.toNat - l.toNat = 0 := by omega
        simp [Instr.sliceAt, run_underlying hu, hb, run_sizeOf' hie, ← hnl, Instr.sureAddr]
        omega
  | seq => simp [mrun] at hm
  | loopr => simp [mrun] at hm
  | mpc => simp [mrun] at hm
end
end Go.Am
