/- 'FsmHold' answers true, whatever it is handed. No condition. -/
import Derived.Test.YtbeolnccdhjjeaaPart2
namespace Go.Proofs.Ytbeolnccdhjjeaa
open Go.Am Go.ChangeShapes Go.WideShapes Go.ChangeAt Go.RowKit Go.Joins
set_option maxRecDepth 100000
theorem fsmHold_lifted (os : Os) (started : os.Started) (H : Type) (enc : TypeId × Value → H) :
    ReturnsInHanded {} Try.checked os 6 .any (Rows.fsmHoldSpec.pre6 enc Try.prog Try.f6 Rows.fsmHoldRow.domain false) (Rows.fsmHoldSpec.post enc Try.prog Try.f6 false true false false) := by
  refine returnsInHanded_of_change (C := Try.checked) Try.own started (by kernel_rfl) Try.func6
    (ChangeSpec.witness6 (enc := enc) (C := Try.checked) false ⟨#[], #[.int .i64 0, .slice none 0 0], []⟩ 8 (by kernel_rfl) (by kernel_rfl) (by kernel_rfl) (by kernel_rfl)) ?_
  intro W base args ds gs before hval0 hW hcnd _
  exact row_true (tb := 4) laidTry mapsTry fullTry (by kernel_rfl) (by kernel_rfl) law6_k rfl Try.underlying4 rfl (fun ss h => by
    rw [Try.params6] at h
    obtain ⟨s0, ss, rfl, h0, h⟩ := h.cons_inv
    obtain ⟨s1, ss, rfl, h1, h⟩ := h.cons_inv
    obtain rfl := h.nil_inv
    obtain ⟨a, rfl, -⟩ := h0.int_inv Try.underlying3
    obtain ⟨es, rfl, -⟩ := h1.sl_inv Try.underlying31
    exact law6_true a es) (fun ds h => by
      match ds, h with
      | [d0, d1], _ => rfl) hval0 hW
theorem fsmHold_holds : Rows.FsmHoldSaid :=
  OpenClaim.holds_of_wide 6 Try.f6 rfl rfl rfl rfl rfl rfl rfl ⟨rfl, rfl, rfl, rfl, rfl⟩ rfl rfl rfl rfl rfl (by kernel_rfl) Try.func6 (by kernel_rfl)
    (of_decide_eq_true (by kernel_rfl)) (by unfold Func.isWrapper; first | (rw [if_pos (by decide +kernel)]; kernel_rfl) | (rw [if_neg (by decide +kernel)]; exact ⟨rfl, rfl⟩))
    (fun os started H enc _ => fsmHold_lifted os started H enc)
end Go.Proofs.Ytbeolnccdhjjeaa
#print axioms Go.Proofs.Ytbeolnccdhjjeaa.fsmHold_holds
