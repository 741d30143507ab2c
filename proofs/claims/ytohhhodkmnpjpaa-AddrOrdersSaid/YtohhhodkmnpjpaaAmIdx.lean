/- The abstract machine: indices, lengths. -/
import Derived.Test.YtohhhodkmnpjpaaAmOps
namespace Go.Am
variable {P : Program}

theorem inB_iff {i : Int} {n : Nat} : inB i n = true ↔ 0 ≤ i ∧ i < (n : Int) := by simp [inB]
theorem known_info {e : TypeId} (h : knownT P e = true) : ∃ i, P.info? e = some i := Option.isSome_iff_exists.1 h
theorem mrun_ite_fail {h : HpF} {b : Bool} {r0 r : SV} {ups : List (Nat × Option Chunk)} {nx nx' : Nat} {rs : List Nat} (hm : mrun h (.ite b (.done r0 [] nx) .fail) = some (r, ups, nx', rs)) : b = true ∧ r = r0 ∧ ups = [] ∧ nx' = nx := by
  cases b
  · simp [mrun] at hm
  · simp only [mrun, if_true, Option.some.injEq, Prod.mk.injEq] at hm
    exact ⟨rfl, hm.1.symm, hm.2.1.symm, hm.2.2.1.symm⟩

theorem bytes_size {bs : ByteArray} {s : List UInt8} (hs : bs.data.toList = s) : bs.size = s.length := by
  subst hs
  exact (Array.length_toList (xs := bs.data)).symm
theorem bytes_get {bs : ByteArray} {s : List UInt8} (hs : bs.data.toList = s) {i : Nat} (h : i < s.length) : bs[i]? = some (s.getD i 0) := by
  have h2 : i < bs.size := by rw [bytes_size hs]; exact h
  rw [getElem?_pos bs i h2]
  subst hs
  have h3 : i < bs.data.size := h2
  show some (bs.data[i]) = _
  rw [List.getD_eq_getElem?_getD, Array.getElem?_toList, Array.getElem?_eq_getElem h3]
  rfl

theorem run_indexAddr {h : HpF} {t : TypeId} {x ix : SV} {nx nx' : Nat} {r : SV} {ups : List (Nat × Option Chunk)} {rs : List Nat} (hm : mrun h (indexAddrS P t x ix nx) = some (r, ups, nx', rs)) {w : World} {Im : Nat → Prop} {θ : Th} {u ui : Value} (hx : VRel P w Im θ x u) (hi : VRel P w Im θ ix ui) :
    ∃ v, (Instr.indexAt t u ui).run P w = .ok v w ∧ VRel P w Im θ r v ∧ ups = [] ∧ nx' = nx := by
  unfold indexAddrS at hm
  split at hm
  · rename_i k i n e y off hu
    cases hi
    cases hx with
    | ptr hθ =>
      cases hk : knownT P e with
      | false => rw [hk] at hm; simp [mrun] at hm
      | true =>
        rw [hk] at hm
        obtain ⟨hb, rfl, rfl, rfl⟩ := mrun_ite_fail hm
        obtain ⟨ie, hie⟩ := known_info hk
        have hb' := inB_iff.1 hb
        refine ⟨_, ?_, .ptr hθ, rfl, rfl⟩
        simp [Instr.indexAt, asIntOf, run_underlying hu, Instr.sureAddr, hb', run_sizeOf' hie, add_off]
  · rename_i k i e y sz off n hu
    cases hi
    cases hk : knownT P e with
    | false => rw [hk] at hm; simp [mrun] at hm
    | true =>
      rw [hk] at hm
      obtain ⟨hb, rfl, rfl, rfl⟩ := mrun_ite_fail hm
      obtain ⟨ie, hie⟩ := known_info hk
      have hb' := inB_iff.1 hb
      cases hx with
      | sl hθ h1 h2 =>
        refine ⟨_, ?_, .ptr hθ, rfl, rfl⟩
        simp [Instr.indexAt, asIntOf, run_underlying hu, hb', run_sizeOf' hie, add_off]
      | slnil => exfalso; have := hb'.2; omega
  · simp [mrun] at hm

theorem run_index {h : HpF} {t : TypeId} {x ix : SV} {nx nx' : Nat} {r : SV} {ups : List (Nat × Option Chunk)} {rs : List Nat} (hm : mrun h (indexS P t x ix nx) = some (r, ups, nx', rs)) {w : World} {Im : Nat → Prop} {θ : Th} {u ui : Value} (hx : VRel P w Im θ x u) (hi : VRel P w Im θ ix ui) :
    ∃ v, (Instr.index t u ui).run P w = .ok v w ∧ VRel P w Im θ r v ∧ ups = [] ∧ nx' = nx := by
  unfold indexS at hm
  split at hm
  · rename_i k i n e cs hu
    cases hi
    cases hx with
    | agg h1 h2 =>
      rename_i us
      cases hk : knownT P e with
      | false => rw [hk] at hm; simp [mrun] at hm
      | true =>
        rw [hk] at hm
        simp only [cond_true] at hm
        cases hp : partS P e cs (i.toNat * P.cellsOf e) with
        | none => rw [hp] at hm; simp [mrun] at hm
        | some v =>
          rw [hp] at hm
          obtain ⟨hb, rfl, rfl, rfl⟩ := mrun_ite_fail hm
          obtain ⟨ie, hie⟩ := known_info hk
          have hb' := inB_iff.1 hb
          have hl : LRel P w Im θ cs us.toList := ⟨by simpa using h1, fun i v u hv hu => h2 i v u hv (by simpa using hu)⟩
          obtain ⟨u, hru, hvu⟩ := run_part_rel hl hp
          refine ⟨u, ?_, hvu, rfl, rfl⟩
          simp [Instr.index, asIntOf, run_underlying hu, hb', run_sizeOf' hie, hru]
  · rename_i k i s hu
    cases hi
    cases hx with
    | str hs =>
      rename_i bs
      obtain ⟨hb, rfl, rfl, rfl⟩ := mrun_ite_fail hm
      have hb' := inB_iff.1 hb
      have e : bs[i.toNat]? = some (s.getD i.toNat 0) := bytes_get hs (by omega)
      refine ⟨_, ?_, .int, rfl, rfl⟩
      simp [Instr.index, asIntOf, run_underlying hu, hb'.1, e]
  · simp [mrun] at hm

theorem run_len {h : HpF} {t : TypeId} {x : SV} {nx nx' : Nat} {r : SV} {ups : List (Nat × Option Chunk)} {rs : List Nat} (hm : mrun h (lenS P t x nx) = some (r, ups, nx', rs)) {w : World} {Im : Nat → Prop} {θ : Th} {tys : Array TypeId} {ty : TypeId} {us : Array Value} {u : Value} (h1 : tys[0]? = some t) (h2 : us[0]? = some u) (hx : VRel P w Im θ x u) :
    ∃ v, (Builtin.len_ tys ty us).run P w = .ok v w ∧ VRel P w Im θ r v ∧ ups = [] ∧ nx' = nx := by
  unfold lenS at hm
  split at hm <;> (try (simp [mrun] at hm; done)) <;> rename_i hu <;> simp only [mrun, Option.some.injEq, Prod.mk.injEq] at hm <;> obtain ⟨rfl, rfl, rfl, _⟩ := hm
  · cases hx with
    | str hs =>
      rename_i bs
      refine ⟨_, ?_, .int, rfl, rfl⟩
      simp [Builtin.len_, h1, h2, run_underlying hu, goInt, bytes_size hs]
  · exact ⟨_, by simp [Builtin.len_, h1, h2, run_underlying hu, goInt], .int, rfl, rfl⟩
  · cases hx <;> exact ⟨_, by simp [Builtin.len_, h1, h2, run_underlying hu, goInt], .int, rfl, rfl⟩
  · cases hx; exact ⟨_, by simp [Builtin.len_, h1, h2, run_underlying hu, goInt], .int, rfl, rfl⟩
  · cases hx with
    | psl us' e1 e2 e3 e4 => exact ⟨_, by simp [Builtin.len_, h1, h2, run_underlying hu, goInt, e1], .int, rfl, rfl⟩
end Go.Am
