/- 'AttrBack' answers true, whatever attributes and routes it is handed. No condition. -/
import Derived.Test.YtdgnhaacdpmclaaGreatPart22
set_option linter.unusedVariables false
set_option linter.unusedSimpArgs false
namespace Go.Proofs.YtdgnhaacdpmclaaGreat
open Go.Am Go.ChangeShapes Go.WideShapes Go.ChangeAt Go.RowKit Go.Joins
set_option maxRecDepth 100000
noncomputable def law4_s : CSumm := fun args H => match args, H with
 | [x, .psl 49 r, .psl 49 u], [] => match atOf x with
  | some a => .ite (dec (In a r u)) (.ret (.bool true) []) .fail
  | none => .fail
 | _, _ => .fail
theorem back_ok {a : At} {r u : List SV} (hv : Vd a r u) (lr : r.length ≤ 20) (lu : u.length ≤ 20) (hf : Fit a r u) (h0 : chkAll a r u = 0) : backK a r u (allB a (nbs r) (nbs u)) (0, 0, finD a r u) = .ret (.bool true) [] := by
 have e1 : atD (finD a r u) = a := by cases a; rfl
 have hp := hv.va.pl; have hc := hv.va.cl; have hm := hv.va.cm
 unfold backK
 rw [e1, show (finD a r u).rch = r from rfl, show (finD a r u).unr = u from rfl, dec_iff.2 ⟨hf, h0⟩, cond_true, show ((0 : Int) == 0 && (0 : Int) == 0) = true from rfl, cond_true,
  dec_iff.2 ⟨by cases a; rfl, by cases a; rfl, by omega, by omega, by omega⟩, cond_true, dec_iff.2 ⟨rfl, by omega⟩, cond_true, dec_iff.2 ⟨rfl, by omega⟩, cond_true]
 unfold strC
 simp
theorem law4_k : Known Tryz.prog 4 law4_s := by
 have kN := openKnown (f := 4) (fn := Tryz.f4) (bkOk bytesN_k) Tryz.func4 rfl
 have kZ := openKnown (f := 4) (fn := Tryz.f4) (bkOk bytesZ_k) Tryz.func4 rfl
 refine ⟨kN.fn, fun args H v ups h => ?_⟩
 unfold law4_s at h
 split at h
 · rename_i x r u
   split at h
   · rename_i a ha
     rw [crun_ite] at h
     cases hc : dec (In a r u) with
     | false => rw [hc] at h; cases h
     | true =>
      rw [hc] at h
      cases h
      have hi := dec_iff.1 hc
      rw [atOf_v ha]
      by_cases h0 : chkAll a r u = 0
      · refine kZ.ok _ _ _ _ ?_
        refine (congrArg crun (back_z a r u)).trans ?_
        cases hl : lightB a r u with
        | false => rfl
        | true =>
         obtain ⟨lr, lu⟩ := light_len hl
         have hf := hi.fit lr lu
         have hv := hi.vd (by omega) (by omega) h0
         rw [Bool.not_true, cond_false, dec_iff.2 ⟨hf, h0⟩, cond_true, dec_iff.2 ⟨hv.byl, rfl, Nat.le_trans (all_le hv lr lu) (by omega)⟩, cond_true, hv.read lr lu, back_ok hv lr lu hf h0]
         rfl
      · refine kN.ok _ _ _ _ ?_
        refine (congrArg crun (back_n a r u)).trans ?_
        cases hl : lightB a r u with
        | false => rfl
        | true =>
         obtain ⟨lr, lu⟩ := light_len hl
         rw [Bool.not_true, cond_false, dec_iff.2 ⟨hi.fit lr lu, h0⟩, cond_true, show (chkAll a r u != 0) = true by simpa using h0]
         rfl
   · cases h
 · cases h
theorem attrBack_lifted (os : Os) (started : os.Started) (H : Type) (enc : TypeId × Value → H) :
  ReturnsInHanded {} Tryz.checked os 4 .any (Rows.attrBackSpec.pre6 enc Tryz.prog Tryz.f4 Rows.attrBackRow.domain false) (Rows.attrBackSpec.post enc Tryz.prog Tryz.f4 false true false false) := by
 refine returnsInHanded_of_change (C := Tryz.checked) Tryz.own started (by kernel_rfl) Tryz.func4
  (ChangeSpec.witness6 (enc := enc) (C := Tryz.checked) false ⟨#[], #[.agg #[.int .i64 0, .slice none 0 0, .int .u32 0, .bool false, .int .u32 0, .bool false, .int .u32 0, .bool false, .int .u32 0, .slice none 0 0, .slice none 0 0, .int .i64 0, .int .u32 0, .int .u32 0, .int .u32 0], .slice none 0 0, .slice none 0 0], []⟩ 8 (by kernel_rfl) (by kernel_rfl) (by kernel_rfl) (by kernel_rfl)) ?_
 intro W base args ds gs before hval0 hW hcnd _
 exact row_true (tb := 4) laidTryz mapsTryz fullTryz (by kernel_rfl) (by kernel_rfl) law4_k rfl Tryz.underlying4 rfl (fun ss h => by
  rw [Tryz.params4] at h
  obtain ⟨s0, ss, rfl, h0, h⟩ := h.cons_inv
  obtain ⟨s1, ss, rfl, h1, h⟩ := h.cons_inv
  obtain ⟨s2, ss, rfl, h2, h⟩ := h.cons_inv
  obtain rfl := h.nil_inv
  obtain ⟨a, r, u, rfl, rfl, rfl, hi⟩ := in_inv h0 h1 h2
  show crun (.ite (dec (In a r u)) (.ret (.bool true) []) .fail) = _
  rw [crun_ite, dec_iff.2 hi]; rfl) (fun ds h => by
   match ds, h with
   | [d0, d1, d2], _ => rfl) hval0 hW
theorem attrBack_holds : Rows.AttrBackSaid :=
 OpenClaim.holds_of_wide 4 Tryz.f4 rfl rfl rfl rfl rfl rfl rfl ⟨rfl, rfl, rfl, rfl, rfl⟩ rfl rfl rfl rfl rfl (by kernel_rfl) Tryz.func4 (by kernel_rfl)
  (of_decide_eq_true (by kernel_rfl)) (by unfold Func.isWrapper; first | (rw [if_pos (by decide +kernel)]; kernel_rfl) | (rw [if_neg (by decide +kernel)]; exact ⟨rfl, rfl⟩))
  (fun os started H enc _ => attrBack_lifted os started H enc)
end Go.Proofs.YtdgnhaacdpmclaaGreat
#print axioms Go.Proofs.YtdgnhaacdpmclaaGreat.attrBack_holds
