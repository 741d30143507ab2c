/- 'MsgNames' answers true. No condition. -/
import Derived.Test.YtlilnifmepklkaaGreatAmMemo
import Derived.Test.YtlilnifmepklkaaGreatMsgNamesM0
import Derived.Test.YtlilnifmepklkaaGreatMsgNamesM1
import Derived.Test.YtlilnifmepklkaaGreatMsgNamesM2
import Derived.Test.YtlilnifmepklkaaGreatMsgNamesM3
import Derived.Test.YtlilnifmepklkaaGreatMsgNamesM4
import Derived.Test.YtlilnifmepklkaaGreatMsgNamesM5
import Derived.Test.YtlilnifmepklkaaGreatMsgNamesM6
import Derived.Test.YtlilnifmepklkaaGreatMsgNamesM7
import Derived.KernelRfl
import Derived.Test.YtlilnifmepklkaaGreatRows
import Derived.ProofKit
import Derived.Lib.SmallJoins
namespace Go.Proofs.YtlilnifmepklkaaGreat
open Go.Am Go.ChangeShapes Go.WideShapes Go.ChangeAt Go.RowKit Go.Joins
theorem Tryz.own : ownKnob Tryz.prog.godebug = none := by kernel_rfl
set_option maxRecDepth 100000
theorem noNumTryz : noNum Tryz.prog := by unfold noNum; kernel_rfl
theorem mixTryz : Tryz.prog.follows .mixedOrders = true := by kernel_rfl

def ents4 : List MEnt := [ent4_0]
theorem known4 : Known Tryz.prog 4 (memoS ents4) := known_memo (closed_ok noNumTryz mixTryz 300 12) noNumTryz Tryz.func4 rfl ⟨run4_0, trivial⟩
def ents5 : List MEnt := [ent5_0, ent5_1, ent5_2, ent5_3, ent5_4, ent5_5, ent5_6, ent5_7, ent5_8, ent5_9, ent5_10, ent5_11, ent5_12]
theorem known5 : Known Tryz.prog 5 (memoS ents5) := known_memo (closed_ok noNumTryz mixTryz 300 12) noNumTryz Tryz.func5 rfl ⟨run5_0, run5_1, run5_2, run5_3, run5_4, run5_5, run5_6, run5_7, run5_8, run5_9, run5_10, run5_11, run5_12, trivial⟩
def ents6 : List MEnt := [ent6_0]
theorem known6 : Known Tryz.prog 6 (memoS ents6) := known_memo (closed_ok noNumTryz mixTryz 300 12) noNumTryz Tryz.func6 rfl ⟨run6_0, trivial⟩
def ents7 : List MEnt := [ent7_0, ent7_1, ent7_2, ent7_3, ent7_4, ent7_5, ent7_6, ent7_7, ent7_8, ent7_9, ent7_10, ent7_11, ent7_12, ent7_13, ent7_14, ent7_15]
theorem known7 : Known Tryz.prog 7 (memoS ents7) := known_memo (closed_ok noNumTryz mixTryz 300 12) noNumTryz Tryz.func7 rfl ⟨run7_0, run7_1, run7_2, run7_3, run7_4, run7_5, run7_6, run7_7, run7_8, run7_9, run7_10, run7_11, run7_12, run7_13, run7_14, run7_15, trivial⟩
def ents8 : List MEnt := [ent8_0, ent8_1, ent8_2, ent8_3, ent8_4, ent8_5, ent8_6, ent8_7, ent8_8, ent8_9, ent8_10, ent8_11, ent8_12, ent8_13, ent8_14, ent8_15, ent8_16, ent8_17, ent8_18]
theorem known8 : Known Tryz.prog 8 (memoS ents8) := known_memo (closed_ok noNumTryz mixTryz 300 12) noNumTryz Tryz.func8 rfl ⟨run8_0, run8_1, run8_2, run8_3, run8_4, run8_5, run8_6, run8_7, run8_8, run8_9, run8_10, run8_11, run8_12, run8_13, run8_14, run8_15, run8_16, run8_17, run8_18, trivial⟩
def ents10 : List MEnt := [ent10_0, ent10_1, ent10_2, ent10_3, ent10_4, ent10_5, ent10_6, ent10_7]
theorem known10 : Known Tryz.prog 10 (memoS ents10) := known_memo (closed_ok noNumTryz mixTryz 300 12) noNumTryz Tryz.func10 rfl ⟨run10_0, run10_1, run10_2, run10_3, run10_4, run10_5, run10_6, run10_7, trivial⟩
def ents11 : List MEnt := [ent11_0, ent11_1]
theorem known11 : Known Tryz.prog 11 (memoS ents11) := known_memo (closed_ok noNumTryz mixTryz 300 12) noNumTryz Tryz.func11 rfl ⟨run11_0, run11_1, trivial⟩

theorem okT : KOk Tryz.prog (tbl [(4, memoS ents4), (5, memoS ents5), (6, memoS ents6), (7, memoS ents7), (8, memoS ents8), (10, memoS ents10), (11, memoS ents11)]) := (tbl_cons known4 (tbl_cons known5 (tbl_cons known6 (tbl_cons known7 (tbl_cons known8 (tbl_cons known10 (tbl_cons known11 tbl_nil)))))))
theorem law_run : callK (closedT Tryz.prog (tbl [(4, memoS ents4), (5, memoS ents5), (6, memoS ents6), (7, memoS ents7), (8, memoS ents8), (10, memoS ents10), (11, memoS ents11)]) 300 12) 3 [] [] = some (.bool true, []) := by kernel_rfl
theorem law_k : Known Tryz.prog 3 (constS (.bool true)) := known_closedT noNumTryz mixTryz okT Tryz.func3 rfl law_run

theorem msgNames_lifted (os : Os) (started : os.Started) (H : Type) (enc : TypeId × Value → H) :
    ReturnsInHanded {} Tryz.checked os 3 .any (Rows.msgNamesSpec.pre6 enc Tryz.prog Tryz.f3 Rows.msgNamesRow.domain false) (Rows.msgNamesSpec.post enc Tryz.prog Tryz.f3 false true false false) := by
  refine returnsInHanded_of_change (C := Tryz.checked) Tryz.own started (by kernel_rfl) Tryz.func3
    (ChangeSpec.witness6 (enc := enc) (C := Tryz.checked) false ⟨#[], #[], []⟩ 8 (by kernel_rfl) (by kernel_rfl) (by kernel_rfl) (by kernel_rfl)) ?_
  intro W base args ds gs before hval0 hW hcnd _
  have hW' := hW
  obtain ⟨p, q, hA0, hV, rfl, hfz, hnd⟩ := hW
  have hA : DataW.TrodAll enc Tryz.prog W 0 (fun _ => true) true Tryz.f3.params.toList args.toList ds p := hA0
  rw [Tryz.params3] at hA
  obtain ⟨hargs, rfl, rfl⟩ := trodAll_nil hA
  obtain rfl : args = #[] := Array.ext' hargs
  obtain ⟨rfl, rfl⟩ := trodVars_none hV
  clear hA0 hval0
  simp only [List.append_nil] at hW'
  refine (pure_call law_k (args := []) (v := .bool true) (ups := []) rfl (us := []) ⟨rfl, fun i v u h => by simp at h⟩).mono ?_
  rintro o W' ⟨u, θ', Im', rfl, hu, hk, hf⟩
  cases hu
  exact ⟨_, rfl, post_kept (pa := []) (pv := []) hW' (fun _ _ _ => trodAll_mk1 (shut_bool Tryz.underlying4 true)) (fun sp _ => rfl) (fun _ _ => rfl) rfl
    (hk _) hf (ok_one (by kernel_rfl) rfl (okWide_bool_mk Tryz.underlying4 true))⟩

theorem msgNames_holds : Rows.MsgNamesSaid :=
  OpenClaim.holds_of_wide 3 Tryz.f3 rfl rfl rfl rfl rfl rfl rfl ⟨rfl, rfl, rfl, rfl, rfl⟩ rfl rfl rfl rfl rfl (by kernel_rfl) Tryz.func3 (by kernel_rfl)
    (of_decide_eq_true (by kernel_rfl)) (by unfold Func.isWrapper; first | (rw [if_pos (by decide +kernel)]; kernel_rfl) | (rw [if_neg (by decide +kernel)]; exact ⟨rfl, rfl⟩))
    (fun os started H enc _ => msgNames_lifted os started H enc)
end Go.Proofs.YtlilnifmepklkaaGreat
#print axioms Go.Proofs.YtlilnifmepklkaaGreat.msgNames_holds
