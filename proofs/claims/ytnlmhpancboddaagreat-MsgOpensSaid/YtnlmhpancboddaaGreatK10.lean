/- 'MsgOpens': the row. -/
import Derived.Test.YtnlmhpancboddaaGreatPart21
set_option linter.unusedVariables false
set_option linter.unusedSimpArgs false
namespace Go.Proofs.YtnlmhpancboddaaGreat
open Go.Am Go.ChangeShapes Go.WideShapes Go.ChangeAt Go.RowKit Go.Joins
set_option maxRecDepth 100000
def opIn (asn id : Int) (bs : List SV) : Prop := (0 ≤ asn ∧ asn < 4294967296) ∧ (0 ≤ id ∧ id < 4294967296) ∧ ∀ i, byl (asL (bs.getD i .junk))
noncomputable def law5_s : CSumm := fun args H => match args, H with
 | [.agg [.int .u32 asn, .int .i64 hold, .int .u32 id, .int .i64 rst, .bool rsd], .psl 3 cs, .psl 22 bs, .bool sp], [] => .ite (dec (opIn asn id bs)) (.ret (.bool true) []) .fail
 | _, _ => .fail
theorem law5_k : Known Tryz.prog 5 law5_s := law5_k0.weak (by
 intro args H v ups h
 unfold law5_s at h
 split at h
 · rename_i asn hold id rst rsd cs bs sp
   rw [crun_ite] at h
   cases hc : dec (opIn asn id bs) with
   | false => rw [hc] at h; cases h
   | true =>
    rw [hc, cond_true] at h
    obtain ⟨⟨a0, a1⟩, ⟨i0, i1⟩, hb⟩ := dec_iff.1 hc
    refine (congrArg crun (law5_t ⟨false, false, false, asn, hold, id, rst, rsd⟩ cs bs sp)).trans ?_
    by_cases h6 : (cs.length : Int) > 6
    · rw [decide_eq_true h6]; exact h
    · rw [decide_eq_false h6, cond_false]
      by_cases hl : (bs.length : Int) < cs.length
      · rw [decide_eq_true hl]; exact h
      · rw [decide_eq_false hl, cond_false]
        have hw : opOk (opW ⟨false, false, false, asn, hold, id, rst, rsd⟩) := by
         obtain ⟨p0, p1⟩ := pck_rng (x := hold) (n := 65533) (by decide) (by decide)
         obtain ⟨q0, q1⟩ := pck_rng (x := rst) (n := 4096) (by decide) (by decide)
         have e : w64 (3 + pck hold 65533) = 3 + pck hold 65533 := w64_id (by omega) (by omega)
         refine ⟨a0, a1, q0, q1, ?_, ?_, i0, i1⟩
         · show 3 ≤ w64 (3 + pck hold 65533); omega
         · show w64 (3 + pck hold 65533) < 65536; omega
        generalize opW ⟨false, false, false, asn, hold, id, rst, rsd⟩ = w at *
        obtain ⟨l0, l1⟩ := capL_le w
        have hM := opMsg_len w
        rw [dec_iff.2 hw, cond_true, decide_eq_false (by omega), cond_false, dec_iff.2 ⟨rfl, by omega, by omega, Int.le_refl _, by omega, by simp⟩, cond_true]
        cases hx : adF (cs.length - (0 : Int).toNat) cs bs (0 : Int).toNat [] with
        | none => exact h
        | some xs =>
         obtain ⟨ys, rfl, y1, y2, y3⟩ := adF_spec hb _ _ _ _ hx
         have hz : cs.length - (0 : Int).toNat = cs.length := Nat.sub_zero _
         rw [hz] at y2
         show crun (bif true then opRest w (opMsg w) xs sp (((opMsg w).length : Int).toNat - (31 : Int).toNat) else rtB true) = _
         rw [cond_true, opRest_ok hw y1 (by omega) y3 sp (by omega)]
         exact h
 · cases h)
theorem wf32 {n : Int} (h : (Lit.int .u32 n).wf = true) : 0 ≤ n ∧ n < 4294967296 := by
 simp [Lit.wf, IntKind.min, IntKind.max, IntKind.signed, IntKind.bits] at h
 omega
theorem op_inv {x : SV} (h0 : OkV Tryz.prog 39 x) : ∃ asn hold id rst rsd, x = .agg [.int .u32 asn, .int .i64 hold, .int .u32 id, .int .i64 rst, .bool rsd] ∧ (0 ≤ asn ∧ asn < 4294967296) ∧ (0 ≤ id ∧ id < 4294967296) := by
 obtain ⟨os, rfl, ho⟩ := h0.agg_inv (by kernel_rfl)
 rw [show leaves Tryz.prog 40 39 = [36, 3, 37, 3, 4] by kernel_rfl] at ho
 obtain ⟨v0, os, rfl, g0, ho⟩ := ho.cons_inv
 obtain ⟨v1, os, rfl, g1, ho⟩ := ho.cons_inv
 obtain ⟨v2, os, rfl, g2, ho⟩ := ho.cons_inv
 obtain ⟨v3, os, rfl, g3, ho⟩ := ho.cons_inv
 obtain ⟨v4, os, rfl, g4, ho⟩ := ho.cons_inv
 obtain rfl := ho.nil_inv
 obtain ⟨asn, rfl, w0⟩ := g0.int_inv Tryz.underlying36
 obtain ⟨hold, rfl, w1⟩ := g1.int_inv Tryz.underlying3
 obtain ⟨id, rfl, w2⟩ := g2.int_inv Tryz.underlying37
 obtain ⟨rst, rfl, w3⟩ := g3.int_inv Tryz.underlying3
 obtain ⟨rsd, rfl⟩ := g4.bool_inv Tryz.underlying4
 exact ⟨asn, hold, id, rst, rsd, rfl, wf32 w0, wf32 w2⟩
theorem msgOpens_lifted (os : Os) (started : os.Started) (H : Type) (enc : TypeId × Value → H) :
  ReturnsInHanded {} Tryz.checked os 5 .any (Rows.msgOpensSpec.pre6 enc Tryz.prog Tryz.f5 Rows.msgOpensRow.domain false) (Rows.msgOpensSpec.post enc Tryz.prog Tryz.f5 false true false false) := by
 refine returnsInHanded_of_change (C := Tryz.checked) Tryz.own started (by kernel_rfl) Tryz.func5
  (ChangeSpec.witness6 (enc := enc) (C := Tryz.checked) false ⟨#[], #[.agg #[.int .u32 0, .int .i64 0, .int .u32 0, .int .i64 0, .bool false], .slice none 0 0, .slice none 0 0, .bool false], []⟩ 8 (by kernel_rfl) (by kernel_rfl) (by kernel_rfl) (by kernel_rfl)) ?_
 intro W base args ds gs before hval0 hW hcnd _
 exact row_true (tb := 4) laidTryz mapsTryz fullTryz (by kernel_rfl) (by kernel_rfl) law5_k rfl Tryz.underlying4 rfl (fun ss h => by
  rw [Tryz.params5] at h
  obtain ⟨s0, ss, rfl, h0, h⟩ := h.cons_inv
  obtain ⟨s1, ss, rfl, h1, h⟩ := h.cons_inv
  obtain ⟨s2, ss, rfl, h2, h⟩ := h.cons_inv
  obtain ⟨s3, ss, rfl, h3, h⟩ := h.cons_inv
  obtain rfl := h.nil_inv
  obtain ⟨asn, hold, id, rst, rsd, rfl, w0, w2⟩ := op_inv h0
  obtain ⟨cs, rfl, -, -⟩ := h1.sl_inv Tryz.underlying33
  obtain ⟨bs, rfl, -, hb⟩ := h2.sl_inv Tryz.underlying40
  obtain ⟨sp, rfl⟩ := h3.bool_inv Tryz.underlying4
  have hbs : ∀ i, byl (asL (bs.getD i .junk)) := fun i => by
   by_cases hi : i < bs.length
   · have hm : bs.getD i .junk ∈ bs := by rw [List.getD_eq_getElem?_getD, List.getElem?_eq_getElem hi, Option.getD_some]; exact List.getElem_mem hi
     obtain ⟨x, hx, -, hxb⟩ := (hb _ hm).sl_inv Tryz.underlying22
     rw [hx]
     exact byl_of hxb
   · rw [List.getD_eq_getElem?_getD, List.getElem?_eq_none (by omega), Option.getD_none]; intro v hv; cases hv
  show crun (.ite (dec (opIn asn id bs)) (.ret (.bool true) []) .fail) = _
  rw [crun_ite, dec_iff.2 ⟨w0, w2, hbs⟩]; rfl) (fun ds h => by
   match ds, h with
   | [d0, d1, d2, d3], _ => rfl) hval0 hW
theorem msgOpens_holds : Rows.MsgOpensSaid :=
 OpenClaim.holds_of_wide 5 Tryz.f5 rfl rfl rfl rfl rfl rfl rfl ⟨rfl, rfl, rfl, rfl, rfl⟩ rfl rfl rfl rfl rfl (by kernel_rfl) Tryz.func5 (by kernel_rfl)
  (of_decide_eq_true (by kernel_rfl)) (by unfold Func.isWrapper; first | (rw [if_pos (by decide +kernel)]; kernel_rfl) | (rw [if_neg (by decide +kernel)]; exact ⟨rfl, rfl⟩))
  (fun os started H enc _ => msgOpens_lifted os started H enc)
end Go.Proofs.YtnlmhpancboddaaGreat
#print axioms Go.Proofs.YtnlmhpancboddaaGreat.msgOpens_holds
