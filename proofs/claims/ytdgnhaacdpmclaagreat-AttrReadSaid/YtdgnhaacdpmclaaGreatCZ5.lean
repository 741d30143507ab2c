/- 'AttrRead' answers true, whatever bytes it is handed. No condition. -/
import Derived.Test.YtdgnhaacdpmclaaGreatPart12
namespace Go.Proofs.YtdgnhaacdpmclaaGreat
open Go.Am Go.ChangeShapes Go.WideShapes Go.ChangeAt Go.RowKit Go.Joins
set_option maxRecDepth 100000
theorem Tryz.own : ownKnob Tryz.prog.godebug = none := by kernel_rfl
theorem laidTryz : laidOutB Tryz.prog = true := by kernel_rfl
theorem mapsTryz : mapsRowed Tryz.prog = true := by kernel_rfl
theorem fullTryz : ((List.range Tryz.prog.types.size).all fun t => match Tryz.prog.underlying t with | some (.slice e) => decide (0 < Tryz.prog.cellsOf e) | _ => true) = true := by kernel_rfl
theorem pcs_most : ∀ (f : Nat) (p : List SV) (a : Int) (rs : List SV), rs.length ≤ 4096 → (pcs f p a rs).2.2.length ≤ 4096
 | 0, _, _, _, h => h
 | f + 1, p, a, rs, h => by
  unfold pcs
  split
  · exact h
  · split
    · exact h
    · split
      · exact h
      · exact pcs_most f _ _ _ (by rw [List.length_append, List.length_singleton]; omega)
theorem rdL_most (p : List SV) : (rdL p).length ≤ 4096 := by
 unfold rdL
 split
 · exact pcs_most _ _ _ _ (by simp)
 · simp
def smallD (d : Ds) : Prop := d.path.length ≤ 100000 ∧ d.cl.length ≤ 100000 ∧ d.cm.length ≤ 100000 ∧ d.rch.length ≤ 100000 ∧ d.unr.length ≤ 100000
theorem gD_small {g : Int} (hk : knC g = true) {v : List SV} (hv : v.length ≤ 100000) {d : Ds} (h : smallD d) : smallD (gD g v d) := by
 obtain ⟨h1, h2, h3, h4, h5⟩ := h
 rcases knC_of hk with rfl | rfl | rfl | rfl | rfl | rfl | rfl | rfl | rfl | rfl
 · exact ⟨h1, h2, h3, h4, h5⟩
 · refine ⟨?_, h2, h3, h4, h5⟩
   show (bif v.length == 0 then ([] : List SV) else wd v 2 (elQ ((v.length - 2 : Nat) : Int) 4).toNat).length ≤ 100000
   cases v.length == 0 with
   | true => simp
   | false =>
    have hq : elQ ((v.length - 2 : Nat) : Int) 4 = (((v.length - 2) / 4 : Nat) : Int) := elQ_n _ (by omega) 4 (by omega)
    rw [cond_false, wd_len, hq]; omega
 · exact ⟨h1, h2, h3, h4, h5⟩
 · exact ⟨h1, h2, h3, h4, h5⟩
 · exact ⟨h1, h2, h3, h4, h5⟩
 · refine ⟨h1, ?_, h3, h4, h5⟩
   show (wd v 0 (v.length / 4)).length ≤ 100000
   rw [wd_len]; omega
 · exact ⟨h1, h2, h3, Nat.le_trans (rdL_most _) (by omega), h5⟩
 · exact ⟨h1, h2, h3, h4, Nat.le_trans (rdL_most _) (by omega)⟩
 · refine ⟨h1, h2, ?_, h4, h5⟩
   show (cw v 0 (v.length / 8)).length ≤ 100000
   rw [cw_len]; omega
 · exact ⟨h1, h2, h3, h4, h5⟩
theorem attL_small {σ : Type} {lk : σ → Int → Bool} {st : σ → Int → σ} {es : List SV} {n : Nat} (he : es.length ≤ 100000) : ∀ (m a : Nat) (x : Int) (s : σ) (z : Dz), n - a ≤ m → smallD z.d → smallD (attL lk st es n a x s z).2.2.2.d
 | m, a, x, s, z, hm, hs => by
  by_cases hlt : a < n
  · by_cases ho : okN es a n
    · have hE3 : a + 3 ≤ vE es a := by have := hdN_ge (es := es) (a := a); unfold vE; omega
      obtain ⟨m', rfl⟩ : ∃ m', m = m' + 1 := ⟨m - 1, by omega⟩
      cases hk : knC (cdOf es a) with
      | false =>
       cases hf : andI .u8 (dg es a) 128 == 0 with
       | true => rw [attL_u17 hlt ho hk hf]; exact hs
       | false => rw [attL_unk hlt ho hk hf]; exact attL_small he m' _ _ _ _ (by omega) hs
      | true =>
       cases hf : fitC (cdOf es a) (dg es a) with
       | false => rw [attL_fit hlt ho hk hf]; exact hs
       | true =>
        cases hlk : lk s (cdOf es a) with
        | true => rw [attL_dbl hlt ho hk hf hlk]; exact hs
        | false =>
         cases hv : okC (cdOf es a) (vl es (vS es a) (vE es a)) with
         | false => rw [attL_bad hlt ho hk hf hlk hv]; exact hs
         | true =>
          rw [attL_go hlt ho hk hf hlk hv]
          exact attL_small he m' _ _ _ _ (by omega) (gD_small hk (by unfold vl sl; rw [List.length_take, List.length_drop]; omega) hs)
    · rw [attL_cut hlt ho]; exact hs
  · rw [attL_end hlt]; exact hs
termination_by m => m
theorem small0 : smallD dI0 := ⟨by decide, by decide, by decide, by decide, by decide⟩
theorem rdO_small {es : List SV} (he : es.length ≤ 100000) : smallD (rdQ es es.length).2.2 := by
 have h := attL_small (lk := lookB) (st := stK) (n := es.length) he es.length 0 0 [] zI (by omega) small0
 unfold rdQ rdO
 change smallD (attK es es.length 0 0 [] zI).2.2.2.d at h
 generalize attK es es.length 0 0 [] zI = o at *
 cases o.1 == 0 with
 | false => exact small0
 | true =>
  cases lookB o.2.2.1 14 with
  | false => exact ⟨Nat.zero_le _, Nat.zero_le _, Nat.zero_le _, Nat.zero_le _, h.2.2.2.2⟩
  | true => cases (bif lookB o.2.2.1 1 then lookB o.2.2.1 2 else false) with
   | true => exact h
   | false => exact small0
noncomputable def law3_s : CSumm := fun args H => match args, H with
 | [.psl 5 b], [] => .ite (dec (byl b)) (.ret (.bool true) []) .fail
 | _, _ => .fail
theorem law3_k : Known Tryz.prog 3 law3_s := law3_k0.weak (by
 intro args H v ups h
 unfold law3_s at h
 split at h
 · rename_i b
   rw [crun_ite] at h
   cases hc : dec (byl b) with
   | false => rw [hc] at h; cases h
   | true =>
    rw [hc, cond_true] at h
    have hb := dec_iff.1 hc
    refine (congrArg crun (law3_t b)).trans ?_
    by_cases hl : (b.length : Int) > 600
    · rw [decide_eq_true hl]; exact h
    · rw [decide_eq_false hl, cond_false, dec_iff.2 (by omega), cond_true, dec_iff.2 ⟨hb, rfl, by omega⟩, cond_true, dec_iff.2 ⟨rfl, by omega, by omega⟩, cond_true, dec_iff.2 ⟨hb, by omega⟩, cond_true, ← same_read]
      obtain ⟨s1, s2, s3, s4, s5⟩ := rdO_small (es := b) (by omega)
      unfold lawQ
      rw [dec_iff.2 ⟨rfl, rfl, s1, s2, s3⟩, cond_true, dec_iff.2 ⟨rfl, s4⟩, cond_true, dec_iff.2 ⟨rfl, s5⟩, cond_true, beq_self_eq_true, beq_self_eq_true]
      exact h
 · cases h)
theorem byl_of {l : List SV} (h : ∀ x ∈ l, OkV Tryz.prog 5 x) : byl l := by
 intro x hx
 obtain ⟨n, rfl, hw⟩ := (h x hx).int_inv Tryz.underlying5
 refine ⟨n, rfl, ?_⟩
 simp [Lit.wf, IntKind.min, IntKind.max, IntKind.signed, IntKind.bits] at hw
 omega
theorem attrRead_lifted (os : Os) (started : os.Started) (H : Type) (enc : TypeId × Value → H) :
  ReturnsInHanded {} Tryz.checked os 3 .any (Rows.attrReadSpec.pre6 enc Tryz.prog Tryz.f3 Rows.attrReadRow.domain false) (Rows.attrReadSpec.post enc Tryz.prog Tryz.f3 false true false false) := by
 refine returnsInHanded_of_change (C := Tryz.checked) Tryz.own started (by kernel_rfl) Tryz.func3
  (ChangeSpec.witness6 (enc := enc) (C := Tryz.checked) false ⟨#[], #[.slice none 0 0], []⟩ 8 (by kernel_rfl) (by kernel_rfl) (by kernel_rfl) (by kernel_rfl)) ?_
 intro W base args ds gs before hval0 hW hcnd _
 exact row_true (tb := 4) laidTryz mapsTryz fullTryz (by kernel_rfl) (by kernel_rfl) law3_k rfl Tryz.underlying4 rfl (fun ss h => by
  rw [Tryz.params3] at h
  obtain ⟨s0, ss, rfl, h0, h⟩ := h.cons_inv
  obtain rfl := h.nil_inv
  obtain ⟨b, rfl, -, hb⟩ := h0.sl_inv Tryz.underlying22
  show crun (.ite (dec (byl b)) (.ret (.bool true) []) .fail) = _
  rw [crun_ite, dec_iff.2 (byl_of hb)]; rfl) (fun ds h => by
   match ds, h with
   | [d0], _ => rfl) hval0 hW
theorem attrRead_holds : Rows.AttrReadSaid :=
 OpenClaim.holds_of_wide 3 Tryz.f3 rfl rfl rfl rfl rfl rfl rfl ⟨rfl, rfl, rfl, rfl, rfl⟩ rfl rfl rfl rfl rfl (by kernel_rfl) Tryz.func3 (by kernel_rfl)
  (of_decide_eq_true (by kernel_rfl)) (by unfold Func.isWrapper; first | (rw [if_pos (by decide +kernel)]; kernel_rfl) | (rw [if_neg (by decide +kernel)]; exact ⟨rfl, rfl⟩))
  (fun os started H enc _ => attrRead_lifted os started H enc)
end Go.Proofs.YtdgnhaacdpmclaaGreat
#print axioms Go.Proofs.YtdgnhaacdpmclaaGreat.attrRead_holds
