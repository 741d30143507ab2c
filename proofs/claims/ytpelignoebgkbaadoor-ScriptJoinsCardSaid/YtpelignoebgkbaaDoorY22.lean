/- The law ScriptJoins answers true, whatever two strings it is handed: its row and its card. No condition but what the row lists. -/
import Derived.Test.YtpelignoebgkbaaDoorPart6
set_option linter.unusedVariables false
set_option linter.unusedSimpArgs false
namespace Go.Proofs.YtpelignoebgkbaaDoor
open Go.Am Go.ChangeShapes Go.WideShapes Go.ChangeAt Go.RowKit Go.Joins Go.Lib
set_option maxRecDepth 100000
theorem joH_eq (W : World) : laidMetH Tryd.prog Rows.scriptJoinsRow.laid W = laidMet Tryd.prog Rows.scriptJoinsRow.laid W := MakeChecks.laidMetH_plain _ _ _ (by kernel_rfl)
noncomputable def joWit (os : Os) : World := World.laidAll Tryd.prog os Rows.scriptJoinsRow.laid
theorem joWit_met (os : Os) (args : Array Value) : laidMet Tryd.prog Rows.scriptJoinsRow.laid ((joWit os).forCall (fun _ _ => 0) ⟨#[], args, []⟩).memory := laidMet_laidAll _ (by kernel_rfl) (by kernel_rfl)
theorem scriptJoins_lifted (os : Os) (started : os.Started) (H : Type) (enc : TypeId × Value → H) :
  ReturnsInHanded {} Tryd.checked os 3 .any (fun w args => (Rows.scriptJoinsSpec.pre enc Tryd.prog Tryd.f3 [] false w args ∧ laidMetH Tryd.prog Rows.scriptJoinsRow.laid w) ∧ sizedMet enc Tryd.prog Tryd.f3 (OpenSpec.ofChange Rows.scriptJoinsSpec) false w args)
   (Rows.scriptJoinsSpec.post enc Tryd.prog Tryd.f3 false true false false) := by
 refine returnsInHanded_of_change_and (C := Tryd.checked) (X := fun w _ => laidMetH Tryd.prog Rows.scriptJoinsRow.laid w) (fun _ _ _ hh h => h.of_heap hh) Tryd.own started (by kernel_rfl) Tryd.func3
  (ChangeSpec.witness_shaped (enc := enc) (C := Tryd.checked) (os := os) (X := fun w _ => laidMetH Tryd.prog Rows.scriptJoinsRow.laid w) false (joWit os) #[.string ⟨#[]⟩, .string ⟨#[]⟩] 8 (World.laidAll_os _ _ _)
   (World.shaped_of_ZipB (by kernel_rfl) (by kernel_rfl)) (by kernel_rfl) (by kernel_rfl) (by kernel_rfl)
   (by rw [joH_eq]; exact joWit_met os _)) ?_
 intro W base args ds gs before hval0 hW _ _ hL _
 exact row_true (tb := 4) laidTryd mapsTryd fullTryd (by kernel_rfl) (by kernel_rfl) joins_k rfl Tryd.underlying4 rfl (fun ss h => by
  rw [Tryd.params3] at h
  obtain ⟨s0, ss, rfl, h0, h⟩ := h.cons_inv
  obtain ⟨s1, ss, rfl, h1, h⟩ := h.cons_inv
  obtain rfl := h.nil_inv
  obtain ⟨a, rfl, -⟩ := h0.str_inv Tryd.underlying9
  obtain ⟨b, rfl, -⟩ := h1.str_inv Tryd.underlying9
  rfl) (fun ds h => by
   match ds, h with
   | [d0, d1], _ => rfl) hval0 hW (GlobR.empty (by kernel_rfl))
theorem scriptJoins_row : Rows.ScriptJoinsSaid :=
 OpenClaim.holds_of_wide 3 Tryd.f3 rfl rfl rfl rfl rfl rfl rfl ⟨rfl, rfl, rfl, rfl, rfl⟩ rfl rfl rfl rfl rfl (by kernel_rfl) Tryd.func3 (by kernel_rfl)
  (of_decide_eq_true (by kernel_rfl)) (by unfold Func.isWrapper; first | (rw [if_pos (by decide +kernel)]; kernel_rfl) | (rw [if_neg (by decide +kernel)]; exact ⟨rfl, rfl⟩))
  (fun os started H enc _ => scriptJoins_lifted os started H enc)
theorem scriptJoins_holds : Rows.ScriptJoinsCardSaid :=
 Claim7.holds_tied_plain_at .later [] [.data, .pinned] true (true, "61966693bf389f9f5b1f7039f93527e16b3124165a3db7c62488b5b8f5658ea1") true scriptJoins_row (fun _ h => by cases h) (by kernel_rfl) (fun _ h => by cases h) scriptJoins_row_tie rfl ⟨rfl, rfl⟩ (by kernel_rfl) rfl
  (fun f fn hf hfn => by
   obtain rfl : f = 3 := Option.some.inj ((show Tryd.prog.funcNamed "leafmesh/leafmeshlaw39.ScriptJoins" = some 3 by kernel_rfl).symm.trans hf) |>.symm
   obtain rfl : fn = Tryd.f3 := (Option.some.inj (Tryd.func3.symm.trans hfn)).symm
   exact ⟨by kernel_rfl, fun j t ht => by
    rw [Tryd.params3] at ht
    have hm : t ∈ [9, 9] := by simpa using Array.mem_of_getElem? ht
    have hall : ([9, 9].all fun u => !Tryd.prog.wantsStandIn u) = true := by kernel_rfl
    exact (show Tryd.prog.wantsStandIn t = false by simpa using List.all_eq_true.1 hall t hm)⟩)
  (by kernel_rfl)
end Go.Proofs.YtpelignoebgkbaaDoor
#print axioms Go.Proofs.YtpelignoebgkbaaDoor.scriptJoins_holds
