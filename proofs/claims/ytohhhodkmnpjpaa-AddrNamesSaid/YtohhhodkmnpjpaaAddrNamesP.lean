/- 'AddrNames' answers true. No condition. -/
import Derived.Test.YtohhhodkmnpjpaaAmMemo
import Derived.Test.YtohhhodkmnpjpaaAddrNamesM0
import Derived.Test.YtohhhodkmnpjpaaAddrNamesM1
import Derived.Test.YtohhhodkmnpjpaaAddrNamesM2
import Derived.Test.YtohhhodkmnpjpaaAddrNamesM3
import Derived.KernelRfl
import Derived.Test.YtohhhodkmnpjpaaRows
import Derived.ProofKit
import Derived.Lib.SmallJoins
namespace Go.Proofs.Ytohhhodkmnpjpaa
open Go.Am Go.ChangeShapes Go.WideShapes Go.ChangeAt Go.RowKit Go.Joins
theorem Try.own : ownKnob Try.prog.godebug = none := by kernel_rfl
set_option maxRecDepth 100000
theorem noNumTry : noNum Try.prog := by unfold noNum; kernel_rfl
theorem mixTry : Try.prog.follows .mixedOrders = true := by kernel_rfl

def ents21 : List MEnt := [ent21_0, ent21_1, ent21_2]
theorem known21 : Known Try.prog 21 (memoS ents21) := known_memo (closed_ok noNumTry mixTry 300 12) noNumTry Try.func21 rfl ⟨run21_0, run21_1, run21_2, trivial⟩
def ents22 : List MEnt := [ent22_0, ent22_1]
theorem known22 : Known Try.prog 22 (memoS ents22) := known_memo (closed_ok noNumTry mixTry 300 12) noNumTry Try.func22 rfl ⟨run22_0, run22_1, trivial⟩
def ents23 : List MEnt := [ent23_0, ent23_1]
theorem known23 : Known Try.prog 23 (memoS ents23) := known_memo (closed_ok noNumTry mixTry 300 12) noNumTry Try.func23 rfl ⟨run23_0, run23_1, trivial⟩
def ents24 : List MEnt := [ent24_0]
theorem known24 : Known Try.prog 24 (memoS ents24) := known_memo (closed_ok noNumTry mixTry 300 12) noNumTry Try.func24 rfl ⟨run24_0, trivial⟩
def ents25 : List MEnt := [ent25_0]
theorem known25 : Known Try.prog 25 (memoS ents25) := known_memo (closed_ok noNumTry mixTry 300 12) noNumTry Try.func25 rfl ⟨run25_0, trivial⟩

theorem okT : KOk Try.prog (tbl [(21, memoS ents21), (22, memoS ents22), (23, memoS ents23), (24, memoS ents24), (25, memoS ents25)]) := (tbl_cons known21 (tbl_cons known22 (tbl_cons known23 (tbl_cons known24 (tbl_cons known25 tbl_nil)))))
theorem law_run : callK (closedT Try.prog (tbl [(21, memoS ents21), (22, memoS ents22), (23, memoS ents23), (24, memoS ents24), (25, memoS ents25)]) 300 12) 6 [] [] = some (.bool true, []) := by kernel_rfl
theorem law_k : Known Try.prog 6 (constS (.bool true)) := known_closedT noNumTry mixTry okT Try.func6 rfl law_run

theorem addrNames_lifted (os : Os) (started : os.Started) (H : Type) (enc : TypeId × Value → H) :
    ReturnsInHanded {} Try.checked os 6 .any (Rows.addrNamesSpec.pre6 enc Try.prog Try.f6 Rows.addrNamesRow.domain false) (Rows.addrNamesSpec.post enc Try.prog Try.f6 false true false false) := by
  refine returnsInHanded_of_change (C := Try.checked) Try.own started (by kernel_rfl) Try.func6
    (ChangeSpec.witness6 (enc := enc) (C := Try.checked) false ⟨#[], #[], []⟩ 8 (by kernel_rfl) (by kernel_rfl) (by kernel_rfl) (by kernel_rfl)) ?_
  intro W base args ds gs before hval0 hW hcnd _
  have hW' := hW
  obtain ⟨p, q, hA0, hV, rfl, hfz, hnd⟩ := hW
  have hA : DataW.TrodAll enc Try.prog W 0 (fun _ => true) true Try.f6.params.toList args.toList ds p := hA0
  rw [Try.params6] at hA
  obtain ⟨hargs, rfl, rfl⟩ := trodAll_nil hA
  obtain rfl : args = #[] := Array.ext' hargs
  obtain ⟨rfl, rfl⟩ := trodVars_none hV
  clear hA0 hval0
  simp only [List.append_nil] at hW'
  refine (pure_call law_k (args := []) (v := .bool true) (ups := []) rfl (us := []) ⟨rfl, fun i v u h => by simp at h⟩).mono ?_
  rintro o W' ⟨u, θ', Im', rfl, hu, hk, hf⟩
  cases hu
  exact ⟨_, rfl, post_kept (pa := []) (pv := []) hW' (fun _ _ _ => trodAll_mk1 (shut_bool Try.underlying4 true)) (fun sp _ => rfl) (fun _ _ => rfl) rfl
    (hk _) hf (ok_one (by kernel_rfl) rfl (okWide_bool_mk Try.underlying4 true))⟩

theorem addrNames_holds : Rows.AddrNamesSaid :=
  OpenClaim.holds_of_wide 6 Try.f6 rfl rfl rfl rfl rfl rfl rfl ⟨rfl, rfl, rfl, rfl, rfl⟩ rfl rfl rfl rfl rfl (by kernel_rfl) Try.func6 (by kernel_rfl)
    (of_decide_eq_true (by kernel_rfl)) (by unfold Func.isWrapper; first | (rw [if_pos (by decide +kernel)]; kernel_rfl) | (rw [if_neg (by decide +kernel)]; exact ⟨rfl, rfl⟩))
    (fun os started H enc _ => addrNames_lifted os started H enc)
end Go.Proofs.Ytohhhodkmnpjpaa
#print axioms Go.Proofs.Ytohhhodkmnpjpaa.addrNames_holds
