/- 'AttrEnd' answers true, whatever attributes and routes it is handed. No condition. -/
import Derived.Test.YtdgnhaacdpmclaaGreatPart24
import Derived.Test.YtdgnhaacdpmclaaGreatPart22
set_option linter.unusedVariables false
set_option linter.unusedSimpArgs false
namespace Go.Proofs.YtdgnhaacdpmclaaGreat
open Go.Am Go.ChangeShapes Go.WideShapes Go.ChangeAt Go.RowKit Go.Joins
set_option maxRecDepth 100000
theorem rowsB_byl {a : At} (hm : shb a.cm) {R U : List SV} (hR : byl R) (hU : byl U) : ∀ ks : List Nat, (∀ k ∈ ks, k ≤ 9) → byl (rowsB a R U ks)
 | [], _ => byl_nil
 | k :: ks, h => byl_app (putB_byl hm hR hU (h k (by simp))) (rowsB_byl hm hR hU ks (fun j hj => h j (by simp [hj])))
theorem rowsB_len {a : At} {R U : List SV} (hv : ∀ r, (valB r a R U).length ≤ 65535) : ∀ ks : List Nat, (rowsB a R U ks).length ≤ 65539 * ks.length
 | [] => by simp [rowsB]
 | k :: ks => by
  have h1 := rowsB_len hv ks
  have h2 := putB_len k a R U
  have h3 := hv k
  rw [rowsB, List.length_append, List.length_cons]
  omega
theorem all_gt (a : At) (R U : List SV) : 3 < (allB a R U).length := by
 have hl : (putB 0 a R U).length + (putB 7 a R U).length ≤ (allB a R U).length := by
  unfold allB; simp only [List.length_append, List.length_nil]; omega
 by_cases hR : (R.length : Int) > 0
 · have hw : wrB 0 a R U = true := decide_eq_true hR
   have : putB 0 a R U = atB (flagR 0) (codeR 0) (valB 0 a R U) := by unfold putB; rw [hw]; rfl
   have h2 := atB_ge (flagR 0) (codeR 0) (valB 0 a R U)
   have h3 : (valB 0 a R U).length = 1 := be_len _ _
   rw [← this] at h2
   omega
 · have hw : wrB 7 a R U = true := by
     show (bif decide ((U.length : Int) > 0) then true else (R.length : Int) == 0) = true
     rw [show ((R.length : Int) == 0) = true by rw [beq_iff_eq]; omega]
     cases decide ((U.length : Int) > 0) <;> rfl
   have : putB 7 a R U = atB (flagR 7) (codeR 7) (valB 7 a R U) := by unfold putB; rw [hw]; rfl
   have h2 := atB_ge (flagR 7) (codeR 7) (valB 7 a R U)
   have h3 : 1 ≤ (valB 7 a R U).length := by show 1 ≤ (unreachB U).length; simp [unreachB, fam, be_len]; omega
   rw [← this] at h2
   omega
theorem wk_mem {a : At} {R U : List SV} {x : SV} (hx : x ∈ (wk a R U).map (pcK a R U)) : ∃ k, k ≤ 9 ∧ wrB k a R U = true ∧ x = pcK a R U k := by
 obtain ⟨k, hk, rfl⟩ := List.mem_map.1 hx
 obtain ⟨h1, h2⟩ := List.mem_filter.1 hk
 exact ⟨k, (show ∀ k ∈ allK, k ≤ 9 by decide) k h1, h2, rfl⟩
theorem wk_len (a : At) (R U : List SV) : (wk a R U).length ≤ 10 := List.length_filter_le _ _
theorem pc_len {a : At} {R U : List SV} (hv : ∀ r, (valB r a R U).length ≤ 65535) {x : SV} (hx : x ∈ (wk a R U).map (pcK a R U)) : 2 ≤ (asL x).length ∧ (asL x).length ≤ 100000 := by
 obtain ⟨k, hk, hw, rfl⟩ := wk_mem hx
 show 2 ≤ (putB k a R U).length ∧ (putB k a R U).length ≤ 100000
 have h1 := putB_len k a R U
 have h2 := hv k
 have : putB k a R U = atB (flagR k) (codeR k) (valB k a R U) := by unfold putB; rw [hw]; rfl
 have h3 := atB_ge (flagR k) (codeR k) (valB k a R U)
 rw [← this] at h3
 omega
theorem end_ok {a : At} {r u : List SV} (h : Vd a r u) (lr : r.length ≤ 20) (lu : u.length ≤ 20) (hn : 0 < r.length) : endK u (allB a (nbs r) (nbs u)) (splL (allB a (nbs r) (nbs u)) 0) ([] ++ fP p14 ((splL (allB a (nbs r) (nbs u)) 0).drop (0 : Int).toNat)) ([] ++ fP p2b ((splL (allB a (nbs r) (nbs u)) 0).drop (0 : Int).toNat)) = .ret (.bool true) [] := by
 have hv := h.vl lr lu
 obtain ⟨s1, s2⟩ := spl_all hv
 have hal := all_le h lr lu
 have hW : fP p14 ((wk a (nbs r) (nbs u)).map (pcK a (nbs r) (nbs u))) = rowsB a (nbs r) (nbs u) [0, 1, 2, 3, 4, 5, 7, 8, 9] := fP_rows p14 allK
 have hV : fP p2b ((wk a (nbs r) (nbs u)).map (pcK a (nbs r) (nbs u))) = rowsB a (nbs r) (nbs u) [2, 3, 4, 5, 6, 7, 8, 9] := fP_rows p2b allK
 have hlen := wk_len a (nbs r) (nbs u)
 have l1 := rowsB_len hv [0, 1, 2, 3, 4, 5, 7, 8, 9]
 have l2 := rowsB_len hv [2, 3, 4, 5, 6, 7, 8, 9]
 simp only [List.length_cons, List.length_nil] at l1 l2
 unfold endK
 rw [dec_iff.2 ⟨s1, h.byl, by omega, all_gt _ _ _⟩, cond_true, s2, dec_iff.2 ⟨rfl, rfl, rfl, by omega, by omega, by rw [List.length_map]; omega, fun x hx => pc_len hv hx, by rw [List.length_map]; simp; omega, by rw [List.length_map]; simp; omega⟩, cond_true,
  show ((wk a (nbs r) (nbs u)).map (pcK a (nbs r) (nbs u))).drop (0 : Int).toNat = (wk a (nbs r) (nbs u)).map (pcK a (nbs r) (nbs u)) from rfl, List.nil_append, List.nil_append, hW, hV,
  dec_iff.2 ⟨rowsB_byl h.mb (nbs_byl h.gr) (nbs_byl h.gu) _ (by decide), rfl, by omega⟩, cond_true, dec_iff.2 ⟨rowsB_byl h.mb (nbs_byl h.gr) (nbs_byl h.gu) _ (by decide), rfl, by omega⟩, cond_true, h.without lr lu, h.bare lr lu hn]
 unfold endF
 rw [show ((0 : Int) == 0 && (0 : Int) == 0) = true from rfl, cond_true, show azero (atD { dI0 with unr := u }) = true from rfl, cond_true, show ((({ dI0 with unr := u } : Ds).rch.length : Int) == 0) = true from rfl, cond_true, dec_iff.2 ⟨rfl, by show u.length ≤ _; omega⟩, cond_true, beq_self_eq_true, beq_self_eq_true]
 rfl
noncomputable def law6_s : CSumm := fun args H => match args, H with
 | [x, .psl 49 r, .psl 49 u], [] => match atOf x with
  | some a => .ite (dec (In a r u)) (.ret (.bool true) []) .fail
  | none => .fail
 | _, _ => .fail
theorem law6_k : Known Tryz.prog 6 law6_s := by
 have kN := law6_k0 bytesN_k
 have kZ := law6_k0 bytesP_k
 refine ⟨kN.fn, fun args H v ups h => ?_⟩
 unfold law6_s at h
 split at h
 · rename_i x r u
   split at h
   · rename_i a ha
     rw [crun_ite] at h
     cases hc : dec (In a r u) with
     | false => rw [hc] at h; cases h
     | true =>
      rw [hc] at h
      cases h
      have hi := dec_iff.1 hc
      rw [atOf_v ha]
      by_cases h0 : chkAll a r u = 0
      · refine kZ.ok _ _ _ _ ?_
        refine (congrArg crun (end_z a r u)).trans ?_
        cases hl : lightB a r u with
        | false => rfl
        | true =>
         obtain ⟨lr, lu⟩ := light_len hl
         have hf := hi.fit lr lu
         have hv := hi.vd (by omega) (by omega) h0
         rw [Bool.not_true, cond_false]
         by_cases hn : 0 < r.length
         · rw [show ((r.length : Int) == 0) = false by rw [beq_eq_false_iff_ne]; omega, cond_false, dec_iff.2 ⟨hf, h0⟩, cond_true, end_ok hv lr lu hn]
           rfl
         · rw [show ((r.length : Int) == 0) = true by rw [beq_iff_eq]; omega]; rfl
      · refine kN.ok _ _ _ _ ?_
        refine (congrArg crun (end_n a r u)).trans ?_
        cases hl : lightB a r u with
        | false => rfl
        | true =>
         obtain ⟨lr, lu⟩ := light_len hl
         rw [Bool.not_true, cond_false]
         cases hz : ((r.length : Int) == 0) with
         | true => rfl
         | false =>
          rw [cond_false, dec_iff.2 ⟨hi.fit lr lu, h0⟩, cond_true, show (chkAll a r u != 0) = true by simpa using h0]
          rfl
   · cases h
 · cases h
theorem attrEnd_lifted (os : Os) (started : os.Started) (H : Type) (enc : TypeId × Value → H) :
  ReturnsInHanded {} Tryz.checked os 6 .any (Rows.attrEndSpec.pre6 enc Tryz.prog Tryz.f6 Rows.attrEndRow.domain false) (Rows.attrEndSpec.post enc Tryz.prog Tryz.f6 false true false false) := by
 refine returnsInHanded_of_change (C := Tryz.checked) Tryz.own started (by kernel_rfl) Tryz.func6
  (ChangeSpec.witness6 (enc := enc) (C := Tryz.checked) false ⟨#[], #[.agg #[.int .i64 0, .slice none 0 0, .int .u32 0, .bool false, .int .u32 0, .bool false, .int .u32 0, .bool false, .int .u32 0, .slice none 0 0, .slice none 0 0, .int .i64 0, .int .u32 0, .int .u32 0, .int .u32 0], .slice none 0 0, .slice none 0 0], []⟩ 8 (by kernel_rfl) (by kernel_rfl) (by kernel_rfl) (by kernel_rfl)) ?_
 intro W base args ds gs before hval0 hW hcnd _
 exact row_true (tb := 4) laidTryz mapsTryz fullTryz (by kernel_rfl) (by kernel_rfl) law6_k rfl Tryz.underlying4 rfl (fun ss h => by
  rw [Tryz.params6] at h
  obtain ⟨s0, ss, rfl, h0, h⟩ := h.cons_inv
  obtain ⟨s1, ss, rfl, h1, h⟩ := h.cons_inv
  obtain ⟨s2, ss, rfl, h2, h⟩ := h.cons_inv
  obtain rfl := h.nil_inv
  obtain ⟨a, r, u, rfl, rfl, rfl, hi⟩ := in_inv h0 h1 h2
  show crun (.ite (dec (In a r u)) (.ret (.bool true) []) .fail) = _
  rw [crun_ite, dec_iff.2 hi]; rfl) (fun ds h => by
   match ds, h with
   | [d0, d1, d2], _ => rfl) hval0 hW
theorem attrEnd_holds : Rows.AttrEndSaid :=
 OpenClaim.holds_of_wide 6 Tryz.f6 rfl rfl rfl rfl rfl rfl rfl ⟨rfl, rfl, rfl, rfl, rfl⟩ rfl rfl rfl rfl rfl (by kernel_rfl) Tryz.func6 (by kernel_rfl)
  (of_decide_eq_true (by kernel_rfl)) (by unfold Func.isWrapper; first | (rw [if_pos (by decide +kernel)]; kernel_rfl) | (rw [if_neg (by decide +kernel)]; exact ⟨rfl, rfl⟩))
  (fun os started H enc _ => attrEnd_lifted os started H enc)
end Go.Proofs.YtdgnhaacdpmclaaGreat
#print axioms Go.Proofs.YtdgnhaacdpmclaaGreat.attrEnd_holds
