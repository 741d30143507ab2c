/- 'FsmNames' answers true. No condition. -/
import Derived.Test.YtifkiflngpidbaaF0
import Derived.ProofKit
import Derived.Lib.SmallJoins
namespace Go.Proofs.Ytifkiflngpidbaa
open Go.Am Go.ChangeShapes Go.WideShapes Go.ChangeAt Go.RowKit Go.Joins
theorem Try.own : ownKnob Try.prog.godebug = none := by kernel_rfl
set_option maxRecDepth 100000

theorem names_run : callK (closedS Try.prog 300 12) 3 [] [] = some (.bool true, []) := by kernel_rfl
theorem names_k : Known Try.prog 3 (constS (.bool true)) := known_closed noNumTry mixTry Try.func3 rfl names_run

theorem fsmNames_lifted (os : Os) (started : os.Started) (H : Type) (enc : TypeId × Value → H) :
    ReturnsInHanded {} Try.checked os 3 .any (Rows.fsmNamesSpec.pre6 enc Try.prog Try.f3 Rows.fsmNamesRow.domain false) (Rows.fsmNamesSpec.post enc Try.prog Try.f3 false true false false) := by
  refine returnsInHanded_of_change (C := Try.checked) Try.own started (by kernel_rfl) Try.func3
    (ChangeSpec.witness6 (enc := enc) (C := Try.checked) false ⟨#[], #[], []⟩ 8 (by kernel_rfl) (by kernel_rfl) (by kernel_rfl) (by kernel_rfl)) ?_
  intro W base args ds gs before hval0 hW hcnd _
  have hW' := hW
  obtain ⟨p, q, hA0, hV, rfl, hfz, hnd⟩ := hW
  have hA : DataW.TrodAll enc Try.prog W 0 (fun _ => true) true Try.f3.params.toList args.toList ds p := hA0
  rw [Try.params3] at hA
  obtain ⟨hargs, rfl, rfl⟩ := trodAll_nil hA
  obtain rfl : args = #[] := Array.ext' hargs
  obtain ⟨rfl, rfl⟩ := trodVars_none hV
  clear hA0 hval0
  simp only [List.append_nil] at hW'
  refine (pure_call names_k (args := []) (v := .bool true) (ups := []) rfl (us := []) ⟨rfl, fun i v u h => by simp at h⟩).mono ?_
  rintro o W' ⟨u, θ', Im', rfl, hu, hk, hf⟩
  cases hu
  exact ⟨_, rfl, post_kept (pa := []) (pv := []) hW' (fun _ _ _ => trodAll_mk1 (shut_bool Try.underlying4 true)) (fun sp _ => rfl) (fun _ _ => rfl) rfl
    (hk _) hf (ok_one (by kernel_rfl) rfl (okWide_bool_mk Try.underlying4 true))⟩

theorem fsmNames_holds : Rows.FsmNamesSaid :=
  OpenClaim.holds_of_wide 3 Try.f3 rfl rfl rfl rfl rfl rfl rfl ⟨rfl, rfl, rfl, rfl, rfl⟩ rfl rfl rfl rfl rfl (by kernel_rfl) Try.func3 (by kernel_rfl)
    (of_decide_eq_true (by kernel_rfl)) (by unfold Func.isWrapper; first | (rw [if_pos (by decide +kernel)]; kernel_rfl) | (rw [if_neg (by decide +kernel)]; exact ⟨rfl, rfl⟩))
    (fun os started H enc _ => fsmNames_lifted os started H enc)
end Go.Proofs.Ytifkiflngpidbaa
#print axioms Go.Proofs.Ytifkiflngpidbaa.fsmNames_holds
