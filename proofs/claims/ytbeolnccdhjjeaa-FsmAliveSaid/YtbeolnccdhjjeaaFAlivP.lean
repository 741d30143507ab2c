/- 'FsmAlive' answers true, whatever two numbers it is handed. No condition. -/
import Derived.Test.YtbeolnccdhjjeaaS8
namespace Go.Proofs.Ytbeolnccdhjjeaa
open Go.Am Go.ChangeShapes Go.WideShapes Go.ChangeAt Go.RowKit Go.Joins
theorem Try.own : ownKnob Try.prog.godebug = none := by kernel_rfl
theorem laidTry : laidOutB Try.prog = true := by kernel_rfl
theorem mapsTry : mapsRowed Try.prog = true := by kernel_rfl
theorem fullTry : ((List.range Try.prog.types.size).all fun t => match Try.prog.underlying t with | some (.slice e) => decide (0 < Try.prog.cellsOf e) | _ => true) = true := by kernel_rfl
set_option maxRecDepth 100000
theorem fsmAlive_lifted (os : Os) (started : os.Started) (H : Type) (enc : TypeId × Value → H) :
    ReturnsInHanded {} Try.checked os 7 .any (Rows.fsmAliveSpec.pre6 enc Try.prog Try.f7 Rows.fsmAliveRow.domain false) (Rows.fsmAliveSpec.post enc Try.prog Try.f7 false true false false) := by
  refine returnsInHanded_of_change (C := Try.checked) Try.own started (by kernel_rfl) Try.func7
    (ChangeSpec.witness6 (enc := enc) (C := Try.checked) false ⟨#[], #[.int .i64 0, .int .i64 0], []⟩ 8 (by kernel_rfl) (by kernel_rfl) (by kernel_rfl) (by kernel_rfl)) ?_
  intro W base args ds gs before hval0 hW hcnd _
  exact row_true (tb := 4) laidTry mapsTry fullTry (by kernel_rfl) (by kernel_rfl) law7_k rfl Try.underlying4 rfl (fun ss h => by
    rw [Try.params7] at h
    obtain ⟨s0, ss, rfl, h0, h⟩ := h.cons_inv
    obtain ⟨s1, ss, rfl, h1, h⟩ := h.cons_inv
    obtain rfl := h.nil_inv
    obtain ⟨a, rfl, -⟩ := h0.int_inv Try.underlying3
    obtain ⟨b, rfl, -⟩ := h1.int_inv Try.underlying3
    exact law7_true a b) (fun ds h => by
      match ds, h with
      | [d0, d1], _ => rfl) hval0 hW
theorem fsmAlive_holds : Rows.FsmAliveSaid :=
  OpenClaim.holds_of_wide 7 Try.f7 rfl rfl rfl rfl rfl rfl rfl ⟨rfl, rfl, rfl, rfl, rfl⟩ rfl rfl rfl rfl rfl (by kernel_rfl) Try.func7 (by kernel_rfl)
    (of_decide_eq_true (by kernel_rfl)) (by unfold Func.isWrapper; first | (rw [if_pos (by decide +kernel)]; kernel_rfl) | (rw [if_neg (by decide +kernel)]; exact ⟨rfl, rfl⟩))
    (fun os started H enc _ => fsmAlive_lifted os started H enc)
end Go.Proofs.Ytbeolnccdhjjeaa
#print axioms Go.Proofs.Ytbeolnccdhjjeaa.fsmAlive_holds
