/- Rows: arrays of integers, opened and shut. -/
import Derived.Test.YtohhhodkmnpjpaaAmPost
import Derived.ProofKit
import Derived.OpenShut
namespace Go.Am
open Go.ChangeShapes Go.WideShapes
section
variable {P : Program} {ω : Nat → Value} {H : Type} {enc : TypeId × Value → H} {w : World} {base : Nat} {spare : Nat → Bool} {held : Bool}
def zOf : Value → Int
  | .int _ z => z
  | _ => 0
theorem one_take (us : List Value) (i : Nat) (h : i < us.length) : (us.drop (i * 1)).take 1 = [us[i]] := by
  rw [Nat.mul_one, List.drop_eq_getElem_cons h]
  rfl
theorem open_int_array {r : Reach} {b0 : Nat} {t e : TypeId} {n : Nat} {k : IntKind} {v : Value} {d : DataW H} {p : List MemPlace} (hu : P.underlying t = some (.array n e)) (he : P.underlying e = some (.int k)) (h1 : P.cellsOf e = 1) (hn : P.cellsOf t = n)
    (hv : Value.okWide P w r b0 t v) (h : DataW.Trod enc P w base spare held t v d p) :
    ∃ zs : List Int, zs.length = n ∧ v = .agg (zs.map (Value.int k)).toArray ∧ d = .agg (zs.map fun z => .lit (.int k z)) ∧ p = [] ∧ ∀ z ∈ zs, (Lit.int k z).wf = true := by
  simp only [Value.okWide, hu] at hv
  obtain ⟨us, rfl, hsz, _⟩ := hv
  rw [hn] at hsz
  obtain ⟨fuel, hf⟩ := h
  obtain ⟨xs, m, rfl, hx, -, hxl, hat⟩ := DataW.trod_array hu hf
  simp only [Value.cells, h1] at hat
  have key : ∀ i (hi : i < us.size), ∃ z, us[i] = .int k z ∧ xs[i]? = some (.lit (.int k z), []) ∧ (Lit.int k z).wf = true := by
    intro i hi
    have h2 := hat i (by omega)
    rw [one_take us.toList i (by simpa using hi)] at h2
    have h3 : i < xs.length := by omega
    have h4 : xs[i]? = some xs[i] := by simp [h3]
    rw [h4] at h2
    obtain ⟨z, e1, e2, e3⟩ := DataW.trod_int he h2
    simp only [List.cons.injEq, and_true, Array.getElem_toList] at e1
    exact ⟨z, e1, by rw [h4, e2], e3⟩
  refine ⟨us.toList.map zOf, by simp [hsz], ?_, ?_, ?_, ?_⟩
  · congr 1
    apply Array.ext'
    simp only [List.map_map, List.toList_toArray]
    apply List.ext_getElem
    · simp
    · intro i hi1 hi2
      obtain ⟨z, e1, -, -⟩ := key i (by simpa using hi1)
      simp [e1, zOf]
  · have hxx : xs.map (·.1) = (us.toList.map zOf).map fun z => DataW.lit (.int k z) := by
      apply List.ext_getElem
      · simp [hxl, hsz]
      · intro i hi1 hi2
        have hi3 : i < xs.length := by simpa using hi1
        obtain ⟨z, e1, e2, -⟩ := key i (by omega)
        have e4 : xs[i] = (.lit (.int k z), []) := by
          have : xs[i]? = some xs[i] := by simp [hi3]
          rw [this] at e2; exact Option.some.inj e2
        simp [e4, e1, zOf]
    have := congrArg Prod.fst hx
    simp only at this
    rw [this, hxx]
  · have := congrArg Prod.snd hx
    simp only at this
    rw [this, List.flatMap_eq_nil_iff]
    intro x hxm
    obtain ⟨i, hi, rfl⟩ := List.mem_iff_getElem.1 hxm
    obtain ⟨z, -, e2, -⟩ := key i (by omega)
    have : xs[i]? = some xs[i] := by simp [hi]
    rw [this] at e2
    rw [Option.some.inj e2]
  · intro z hz
    obtain ⟨u, hu1, rfl⟩ := List.mem_map.1 hz
    obtain ⟨i, hi, rfl⟩ := List.mem_iff_getElem.1 hu1
    obtain ⟨z, e1, -, e3⟩ := key i (by simpa using hi)
    simp only [Array.getElem_toList, e1, zOf]
    exact e3

theorem shut_int_array {t e : TypeId} {n : Nat} {k : IntKind} (hu : P.underlying t = some (.array n e)) (he : P.underlying e = some (.int k)) (h1 : P.cellsOf e = 1) (hn : P.cellsOf t = n) {zs : List Int} (hl : zs.length = n) (hw : ∀ z ∈ zs, (Lit.int k z).wf = true) :
    DataW.Trod enc P w base spare held t (.agg (zs.map (Value.int k)).toArray) (.agg (zs.map fun z => .lit (.int k z))) [] := by
  refine ⟨2, ?_⟩
  unfold DataW.trod
  rw [hu]
  have hm : ∀ (L : List Nat), (∀ i ∈ L, i < zs.length) → L.mapM (fun i => DataW.trod enc P w base spare held 1 e ((((zs.map (Value.int k))).drop (i * 1)).take 1)) = some (L.map fun i => (DataW.lit (.int k (zs.getD i 0)), ([] : List MemPlace))) := by
    intro L
    induction L with
    | nil => intro _; rfl
    | cons i L ih =>
      intro hL
      have hi := hL i (by simp)
      rw [List.mapM_cons, ih (fun j hj => hL j (by simp [hj])), one_take _ i (by simpa using hi)]
      have hwf : (Lit.int k (zs[i])).wf = true := hw _ (List.getElem_mem hi)
      rw [List.getElem_map, trod_int_mk 0 he hwf]
      simp [List.getD_eq_getElem?_getD, hi]
  have hmm := hm (List.range n) (fun i hi => by rw [List.mem_range] at hi; omega)
  have hcells : (Value.agg (zs.map (Value.int k)).toArray).cells.toList = zs.map (Value.int k) := by simp [Value.cells]
  rw [hcells]
  simp only [h1, hn, List.length_map, hl, if_true, hmm, Option.map_some, Option.some.injEq, Prod.mk.injEq]
  refine ⟨?_, ?_⟩
  · congr 1
    apply List.ext_getElem
    · simp [hl]
    · intro i hi1 hi2
      have : i < zs.length := by simpa using hi2
      simp [List.getD_eq_getElem?_getD, this]
  · rw [List.flatMap_eq_nil_iff]
    intro x hx
    obtain ⟨i, _, rfl⟩ := List.mem_map.1 hx
    rfl
end
end Go.Am
