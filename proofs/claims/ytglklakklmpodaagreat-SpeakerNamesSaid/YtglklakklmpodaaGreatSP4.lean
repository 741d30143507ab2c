/- 'SpeakerNames' answers true. No condition. -/
import Derived.Test.YtglklakklmpodaaGreatPart5
import Derived.KernelRfl
import Derived.Test.YtglklakklmpodaaGreatRows
import Derived.ProofKit
import Derived.Lib.SmallJoins
set_option linter.unusedVariables false
set_option linter.unusedSimpArgs false
namespace Go.Proofs.YtglklakklmpodaaGreat
open Go.Am Go.ChangeShapes Go.WideShapes Go.ChangeAt Go.RowKit Go.Joins
theorem Tryz.own : ownKnob Tryz.prog.godebug = none := by kernel_rfl
set_option maxRecDepth 100000
theorem speakerNames_lifted (os : Os) (started : os.Started) (H : Type) (enc : TypeId × Value → H) :
  ReturnsInHanded {} Tryz.checked os 3 .any (Rows.speakerNamesSpec.pre6 enc Tryz.prog Tryz.f3 Rows.speakerNamesRow.domain false) (Rows.speakerNamesSpec.post enc Tryz.prog Tryz.f3 false true false false) := by
 refine returnsInHanded_of_change (C := Tryz.checked) Tryz.own started (by kernel_rfl) Tryz.func3
  (ChangeSpec.witness6 (enc := enc) (C := Tryz.checked) false ⟨#[], #[], []⟩ 8 (by kernel_rfl) (by kernel_rfl) (by kernel_rfl) (by kernel_rfl)) ?_
 intro W base args ds gs before hval0 hW hcnd _
 have hW' := hW
 obtain ⟨p, q, hA0, hV, rfl, hfz, hnd⟩ := hW
 have hA : DataW.TrodAll enc Tryz.prog W 0 (fun _ => true) true Tryz.f3.params.toList args.toList ds p := hA0
 rw [Tryz.params3] at hA
 obtain ⟨hargs, rfl, rfl⟩ := trodAll_nil hA
 obtain rfl : args = #[] := Array.ext' hargs
 obtain ⟨rfl, rfl⟩ := trodVars_none hV
 clear hA0 hval0
 simp only [List.append_nil] at hW'
 refine (pure_call (by kernel_rfl) law_k (args := []) (v := .bool true) (ups := []) rfl (us := []) ⟨rfl, fun i v u h => by simp at h⟩).mono ?_
 rintro o W' ⟨u, θ', Im', rfl, hu, hk, hf⟩
 cases hu
 exact ⟨_, rfl, post_kept (pa := []) (pv := []) hW' (fun _ _ _ => trodAll_mk1 (shut_bool Tryz.underlying4 true)) (fun sp _ => rfl) (fun _ _ => rfl) rfl
  (hk _) hf (ok_one (by kernel_rfl) rfl (okWide_bool_mk Tryz.underlying4 true))⟩
theorem jw : Tryz.f3.isWrapper Tryz.prog Rows.speakerNamesRow.wrapper Rows.speakerNamesRow.mainSum := by
 unfold Func.isWrapper; first | (rw [if_pos (by decide +kernel)]; kernel_rfl) | (rw [if_neg (by decide +kernel)]; exact ⟨rfl, rfl⟩)
theorem ji : Tryz.f3.isInstance Tryz.prog Rows.speakerNamesRow.origin Rows.speakerNamesRow.targs := of_decide_eq_true (by kernel_rfl)
theorem speakerNames_holds : Rows.SpeakerNamesSaid :=
 OpenClaim.holds_of_wide 3 Tryz.f3 rfl rfl rfl rfl rfl rfl rfl ⟨rfl, rfl, rfl, rfl, rfl⟩ rfl rfl rfl rfl rfl jn Tryz.func3 jf ji jw
  (fun os started H enc _ => speakerNames_lifted os started H enc)
end Go.Proofs.YtglklakklmpodaaGreat
#print axioms Go.Proofs.YtglklakklmpodaaGreat.speakerNames_holds
