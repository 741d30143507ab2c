/- Rows: prefixes and identifiers, opened and shut. -/
import Derived.Test.YtohhhodkmnpjpaaLCovW
import Derived.Test.YtohhhodkmnpjpaaAmOpen
import Derived.ProofKit
import Derived.Lib.SmallJoins
namespace Go.Proofs.Ytohhhodkmnpjpaa
open Go.Am Go.ChangeShapes Go.WideShapes Go.ChangeAt Go.RowKit Go.Joins
theorem Try.own : ownKnob Try.prog.godebug = none := by kernel_rfl

section
variable {H : Type} {enc : TypeId × Value → H} {w : World} {base : Nat} {spare : Nat → Bool} {held : Bool}
abbrev pfx (a b : Int) : Value := .agg #[.int .u32 a, .int .i64 b]
theorem open_pfx {r : Reach} {b0 : Nat} {v : Value} {d : DataW H} {p : List MemPlace} (hv : Value.okWide Try.prog w r b0 25 v) (h : DataW.Trod enc Try.prog w base spare held 25 v d p) :
    ∃ a b, v = pfx a b ∧ d = .agg [.lit (.int .u32 a), .lit (.int .i64 b)] ∧ p = [] ∧ (Lit.int .u32 a).wf = true ∧ (Lit.int .i64 b).wf = true := by
  obtain ⟨v0, v1, y0, y1, n, rfl, rfl, rfl, t0, t1⟩ := open_agg2 Try.underlying25 (by kernel_rfl) (by kernel_rfl) hv h
  obtain ⟨a, ha, rfl, wa⟩ := DataW.trod_int Try.underlying23 t0
  obtain ⟨b, hb, rfl, wb⟩ := DataW.trod_int Try.underlying3 t1
  simp only [List.cons.injEq, and_true] at ha hb
  subst ha; subst hb
  exact ⟨a, b, rfl, rfl, rfl, wa, wb⟩
theorem shut_pfx {a b : Int} (wa : (Lit.int .u32 a).wf = true) (wb : (Lit.int .i64 b).wf = true) : DataW.Trod enc Try.prog w base spare held 25 (pfx a b) (.agg [.lit (.int .u32 a), .lit (.int .i64 b)]) [] :=
  shut_agg2 (y0 := (.lit (.int .u32 a), [])) (y1 := (.lit (.int .i64 b), [])) Try.underlying25 (by kernel_rfl) (by kernel_rfl) ⟨1, trod_int_mk 0 Try.underlying23 wa⟩ ⟨1, trod_int_mk 0 Try.underlying3 wb⟩
end
theorem rel_pfx {ω : Nat → Value} {w : World} {Im : Nat → Prop} {θ : Th} (a b : Int) : VRel Try.prog ω w Im θ (.agg [.int .u32 a, .int .i64 b]) (pfx a b) := by
  refine .agg rfl (fun i v u hv hu => ?_)
  match i, hv, hu with
  | 0, hv, hu => cases hv; cases hu; exact .int
  | 1, hv, hu => cases hv; cases hu; exact .int
theorem lrel_nil {ω : Nat → Value} {w : World} {Im : Nat → Prop} {θ : Th} : LRel Try.prog ω w Im θ [] [] := ⟨rfl, fun i v u h => by simp at h⟩
theorem lrel_cons {ω : Nat → Value} {w : World} {Im : Nat → Prop} {θ : Th} {v : SV} {u : Value} {vs : List SV} {us : List Value} (h : VRel Try.prog ω w Im θ v u) (hs : LRel Try.prog ω w Im θ vs us) : LRel Try.prog ω w Im θ (v :: vs) (u :: us) := by
  refine ⟨by simp [hs.len], fun i x y hx hy => ?_⟩
  cases i with
  | zero => simp at hx hy; subst hx; subst hy; exact h
  | succ i => simp at hx hy; exact hs.at_ i x y hx hy


abbrev esi (zs : List Int) : Value := .agg (zs.map (Value.int .u8)).toArray
section
variable {H : Type} {enc : TypeId × Value → H} {w : World} {base : Nat} {spare : Nat → Bool} {held : Bool}
theorem open_esi {r : Reach} {b0 : Nat} {v : Value} {d : DataW H} {p : List MemPlace} (hv : Value.okWide Try.prog w r b0 34 v) (h : DataW.Trod enc Try.prog w base spare held 34 v d p) :
    ∃ zs : List Int, zs.length = 10 ∧ v = esi zs ∧ d = .agg (zs.map fun z => .lit (.int .u8 z)) ∧ p = [] ∧ ∀ z ∈ zs, (Lit.int .u8 z).wf = true :=
  open_int_array Try.underlying34 Try.underlying5 (by kernel_rfl) (by kernel_rfl) hv h
theorem shut_esi {zs : List Int} (hl : zs.length = 10) (hw : ∀ z ∈ zs, (Lit.int .u8 z).wf = true) : DataW.Trod enc Try.prog w base spare held 34 (esi zs) (.agg (zs.map fun z => .lit (.int .u8 z))) [] :=
  shut_int_array Try.underlying34 Try.underlying5 (by kernel_rfl) (by kernel_rfl) hl hw
end
theorem rel_esi {ω : Nat → Value} {w : World} {Im : Nat → Prop} {θ : Th} (zs : List Int) : VRel Try.prog ω w Im θ (.agg (zs.map (SV.int .u8))) (esi zs) := by
  refine .agg (by simp) (fun i v u hv hu => ?_)
  simp only [List.getElem?_map, Option.map_eq_some_iff] at hv
  obtain ⟨z, hz, rfl⟩ := hv
  simp [hz] at hu
  subst hu
  exact .int
end Go.Proofs.Ytohhhodkmnpjpaa
