/- 'MsgPieces' answers true, whatever bytes and sizes it is handed. No condition. -/
import Derived.Test.YtnlmhpancboddaaGreatPart22
import Derived.Test.YtnlmhpancboddaaGreatMachine6
set_option linter.unusedVariables false
set_option linter.unusedSimpArgs false
namespace Go.Proofs.YtnlmhpancboddaaGreat
open Go.Am Go.ChangeShapes Go.WideShapes Go.ChangeAt Go.RowKit Go.Joins
set_option maxRecDepth 100000
theorem pcEnd_ok {ms hs : List SV} (h : smOkA ms) (K : List SV → CTree) : pcEnd ms hs K = K hs := by
 unfold pcEnd; rw [dec_iff.2 ⟨rfl, rfl, h⟩, cond_true, elC_all]
theorem pc_inv {b sz : List SV} {fe fa : Int} (hb : byl b) (hl : b.length ≤ 9000) (hz : sz.length ≤ 40) (h1 : fe = (spL b 0 []).1) (h2 : fa = fltA (spL b 0 [])) : mpInv b sz (spL b 0 []).2.2 fe fa [] [] 0 0 0 :=
 ⟨hb, hl, hz, rfl, h1, h2, Int.le_refl _, by omega, Int.le_refl _, by omega, Int.le_refl _, rfl, rfl, fun h => by omega⟩
theorem pcR_ok {b sz : List SV} (hb : byl b) (hl : b.length ≤ 9000) (hz : sz.length ≤ 40) : pcR b sz (spL b 0 []) = rtB true := by
 unfold pcR
 cases he : (spL b 0 []).1 == 0 with
 | true =>
  have he' : (spL b 0 []).1 = 0 := by simpa using he
  rw [cond_true, dec_iff.2 ⟨rfl, rfl, pc_inv hb hl hz he'.symm (by unfold fltA; rw [he]; rfl)⟩, cond_true, cond_true, pcEnd_ok (spL_ok hl), elC_all]
  unfold rtB
  rw [show (strB (b.drop (spL b 0 []).2.1) == strB (b.drop (spL b 0 []).2.1)) = true by simp]
 | false =>
  rw [cond_false, dec_iff.2 ⟨rfl, rfl, pc_inv hb hl hz rfl (by unfold fltA; rw [he]; rfl)⟩, cond_true, cond_false]
noncomputable def law4_s : CSumm := fun args H => match args, H with
 | [.psl 5 b, .psl 3 sz], [] => .ite (dec (byl b)) (.ret (.bool true) []) .fail
 | _, _ => .fail
theorem law4_k : Known Tryz.prog 4 law4_s := law4_k0.weak (by
 intro args H v ups h
 unfold law4_s at h
 split at h
 · rename_i b sz
   rw [crun_ite] at h
   cases hc : dec (byl b) with
   | false => rw [hc] at h; cases h
   | true =>
    rw [hc, cond_true] at h
    have hb := dec_iff.1 hc
    refine (congrArg crun (law4_t b sz)).trans ?_
    by_cases hl : (b.length : Int) > 9000
    · rw [decide_eq_true hl]; exact h
    · rw [decide_eq_false hl, cond_false]
      by_cases hz : (sz.length : Int) > 40
      · rw [decide_eq_true hz]; exact h
      · rw [decide_eq_false hz, cond_false, dec_iff.2 ⟨hb, by omega⟩, cond_true, pcR_ok hb (by omega) (by omega)]
        exact h
 · cases h)
theorem msgPieces_lifted (os : Os) (started : os.Started) (H : Type) (enc : TypeId × Value → H) :
  ReturnsInHanded {} Tryz.checked os 4 .any (Rows.msgPiecesSpec.pre6 enc Tryz.prog Tryz.f4 Rows.msgPiecesRow.domain false) (Rows.msgPiecesSpec.post enc Tryz.prog Tryz.f4 false true false false) := by
 refine returnsInHanded_of_change (C := Tryz.checked) Tryz.own started (by kernel_rfl) Tryz.func4
  (ChangeSpec.witness6 (enc := enc) (C := Tryz.checked) false ⟨#[], #[.slice none 0 0, .slice none 0 0], []⟩ 8 (by kernel_rfl) (by kernel_rfl) (by kernel_rfl) (by kernel_rfl)) ?_
 intro W base args ds gs before hval0 hW hcnd _
 exact row_true (tb := 4) laidTryz mapsTryz fullTryz (by kernel_rfl) (by kernel_rfl) law4_k rfl Tryz.underlying4 rfl (fun ss h => by
  rw [Tryz.params4] at h
  obtain ⟨s0, ss, rfl, h0, h⟩ := h.cons_inv
  obtain ⟨s1, ss, rfl, h1, h⟩ := h.cons_inv
  obtain rfl := h.nil_inv
  obtain ⟨b, rfl, -, hb⟩ := h0.sl_inv Tryz.underlying22
  obtain ⟨sz, rfl, -, -⟩ := h1.sl_inv Tryz.underlying33
  show crun (.ite (dec (byl b)) (.ret (.bool true) []) .fail) = _
  rw [crun_ite, dec_iff.2 (byl_of hb)]; rfl) (fun ds h => by
   match ds, h with
   | [d0, d1], _ => rfl) hval0 hW
theorem msgPieces_holds : Rows.MsgPiecesSaid :=
 OpenClaim.holds_of_wide 4 Tryz.f4 rfl rfl rfl rfl rfl rfl rfl ⟨rfl, rfl, rfl, rfl, rfl⟩ rfl rfl rfl rfl rfl (by kernel_rfl) Tryz.func4 (by kernel_rfl)
  (of_decide_eq_true (by kernel_rfl)) (by unfold Func.isWrapper; first | (rw [if_pos (by decide +kernel)]; kernel_rfl) | (rw [if_neg (by decide +kernel)]; exact ⟨rfl, rfl⟩))
  (fun os started H enc _ => msgPieces_lifted os started H enc)
end Go.Proofs.YtnlmhpancboddaaGreat
#print axioms Go.Proofs.YtnlmhpancboddaaGreat.msgPieces_holds
