/- 'FsmSafe' answers true, whatever configuration, events and times it is handed. No condition. -/
import Derived.Test.YtbeolnccdhjjeaaPart4
import Derived.Test.YtbeolnccdhjjeaaPart5
namespace Go.Proofs.Ytbeolnccdhjjeaa
open Go.Am Go.ChangeShapes Go.WideShapes Go.ChangeAt Go.RowKit Go.Joins
set_option maxRecDepth 100000
theorem fsmSafe_lifted (os : Os) (started : os.Started) (H : Type) (enc : TypeId × Value → H) :
    ReturnsInHanded {} Try.checked os 4 .any (Rows.fsmSafeSpec.pre6 enc Try.prog Try.f4 Rows.fsmSafeRow.domain false) (Rows.fsmSafeSpec.post enc Try.prog Try.f4 false true false false) := by
  refine returnsInHanded_of_change (C := Try.checked) Try.own started (by kernel_rfl) Try.func4
    (ChangeSpec.witness6 (enc := enc) (C := Try.checked) false ⟨#[], #[.agg #[.int .u32 0, .int .u32 0, .int .u32 0, .int .i64 0, .int .i64 0, .int .i64 0, .bool false, .bool false], .slice none 0 0, .slice none 0 0], []⟩ 8 (by kernel_rfl) (by kernel_rfl) (by kernel_rfl) (by kernel_rfl)) ?_
  intro W base args ds gs before hval0 hW hcnd _
  exact row_true (tb := 4) laidTry mapsTry fullTry (by kernel_rfl) (by kernel_rfl) law4_k rfl Try.underlying4 rfl (fun ss h => by
    rw [Try.params4] at h
    obtain ⟨s0, ss, rfl, h0, h⟩ := h.cons_inv
    obtain ⟨s2, ss, rfl, h2, h⟩ := h.cons_inv
    obtain ⟨s3, ss, rfl, h3, h⟩ := h.cons_inv
    obtain rfl := h.nil_inv
    obtain ⟨a, b, c, d, e, f, g, h', rfl, -⟩ := cfg_inv h0
    obtain ⟨es, rfl, hl, -⟩ := h2.sl_inv Try.underlying30
    obtain ⟨ts, rfl, -⟩ := h3.sl_inv Try.underlying31
    exact law4_true a b c d e f g h' es ts hl) (fun ds h => by
      match ds, h with
      | [d0, d1, d2], _ => rfl) hval0 hW
theorem fsmSafe_holds : Rows.FsmSafeSaid :=
  OpenClaim.holds_of_wide 4 Try.f4 rfl rfl rfl rfl rfl rfl rfl ⟨rfl, rfl, rfl, rfl, rfl⟩ rfl rfl rfl rfl rfl (by kernel_rfl) Try.func4 (by kernel_rfl)
    (of_decide_eq_true (by kernel_rfl)) (by unfold Func.isWrapper; first | (rw [if_pos (by decide +kernel)]; kernel_rfl) | (rw [if_neg (by decide +kernel)]; exact ⟨rfl, rfl⟩))
    (fun os started H enc _ => fsmSafe_lifted os started H enc)
end Go.Proofs.Ytbeolnccdhjjeaa
#print axioms Go.Proofs.Ytbeolnccdhjjeaa.fsmSafe_holds
