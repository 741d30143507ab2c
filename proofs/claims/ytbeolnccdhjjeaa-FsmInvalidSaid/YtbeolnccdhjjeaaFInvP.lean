/- 'FsmInvalid' answers true, whatever session, event and time it is handed. No condition. -/
import Derived.Test.YtbeolnccdhjjeaaPart3
namespace Go.Proofs.Ytbeolnccdhjjeaa
open Go.Am Go.ChangeShapes Go.WideShapes Go.ChangeAt Go.RowKit Go.Joins
set_option maxRecDepth 100000
theorem fsmInvalid_lifted (os : Os) (started : os.Started) (H : Type) (enc : TypeId × Value → H) :
    ReturnsInHanded {} Try.checked os 8 .any (Rows.fsmInvalidSpec.pre6 enc Try.prog Try.f8 Rows.fsmInvalidRow.domain false) (Rows.fsmInvalidSpec.post enc Try.prog Try.f8 false true false false) := by
  refine returnsInHanded_of_change (C := Try.checked) Try.own started (by kernel_rfl) Try.func8
    (ChangeSpec.witness6 (enc := enc) (C := Try.checked) false ⟨#[], #[.agg #[.int .i64 0, .int .u32 0, .int .u32 0, .int .u32 0, .int .i64 0, .int .i64 0, .int .i64 0, .bool false, .bool false, .int .u32 0, .int .i64 0, .int .u32 0, .int .i64 0, .bool false, .int .i64 0, .int .i64 0, .int .i64 0, .int .i64 0],
      .agg #[.int .i64 0, .int .i64 0, .int .u32 0, .int .i64 0, .int .u32 0, .int .i64 0, .bool false, .int .i64 0, .int .i64 0, .int .i64 0, .slice none 0 0, .int .u32 0, .bool false, .int .u32 0, .bool false, .int .u32 0, .bool false, .int .u32 0, .slice none 0 0, .slice none 0 0, .int .i64 0, .int .u32 0, .int .u32 0, .int .u32 0, .slice none 0 0, .slice none 0 0], .int .i64 0], []⟩ 8 (by kernel_rfl) (by kernel_rfl) (by kernel_rfl) (by kernel_rfl)) ?_
  intro W base args ds gs before hval0 hW hcnd _
  exact row_true (tb := 4) laidTry mapsTry fullTry (by kernel_rfl) (by kernel_rfl) law8_k rfl Try.underlying4 rfl (fun ss h => by
    rw [Try.params8] at h
    obtain ⟨s0, ss, rfl, h0, h⟩ := h.cons_inv
    obtain ⟨s1, ss, rfl, h1, h⟩ := h.cons_inv
    obtain ⟨s2, ss, rfl, h2, h⟩ := h.cons_inv
    obtain rfl := h.nil_inv
    obtain ⟨s, rfl⟩ := ses_inv h0
    obtain ⟨k, m, rfl⟩ := ev_inv h1
    obtain ⟨now, rfl, -⟩ := h2.int_inv Try.underlying3
    exact law8_true s k m now) (fun ds h => by
      match ds, h with
      | [d0, d1, d2], _ => rfl) hval0 hW
theorem fsmInvalid_holds : Rows.FsmInvalidSaid :=
  OpenClaim.holds_of_wide 8 Try.f8 rfl rfl rfl rfl rfl rfl rfl ⟨rfl, rfl, rfl, rfl, rfl⟩ rfl rfl rfl rfl rfl (by kernel_rfl) Try.func8 (by kernel_rfl)
    (of_decide_eq_true (by kernel_rfl)) (by unfold Func.isWrapper; first | (rw [if_pos (by decide +kernel)]; kernel_rfl) | (rw [if_neg (by decide +kernel)]; exact ⟨rfl, rfl⟩))
    (fun os started H enc _ => fsmInvalid_lifted os started H enc)
end Go.Proofs.Ytbeolnccdhjjeaa
#print axioms Go.Proofs.Ytbeolnccdhjjeaa.fsmInvalid_holds
