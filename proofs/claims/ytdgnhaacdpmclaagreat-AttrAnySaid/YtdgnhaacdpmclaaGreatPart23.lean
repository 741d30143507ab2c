/- What is handed in, written out: attributes, routes. -/
import Derived.Test.YtdgnhaacdpmclaaGreatPart20
import Derived.Test.YtdgnhaacdpmclaaGreatPart21
set_option linter.unusedVariables false
set_option linter.unusedSimpArgs false
namespace Go.Proofs.YtdgnhaacdpmclaaGreat
open Go.Am
set_option maxRecDepth 100000
theorem wf8 {n : Int} (h : (Lit.int .u8 n).wf = true) : 0 ≤ n ∧ n ≤ 255 := by
 simp [Lit.wf, IntKind.min, IntKind.max, IntKind.signed, IntKind.bits] at h; omega
theorem wf32 {n : Int} (h : (Lit.int .u32 n).wf = true) : 0 ≤ n ∧ n < 4294967296 := by
 simp [Lit.wf, IntKind.min, IntKind.max, IntKind.signed, IntKind.bits] at h; omega
theorem wf64 {n : Int} (h : (Lit.int .u64 n).wf = true) : 0 ≤ n ∧ n < 18446744073709551616 := by
 simp [Lit.wf, IntKind.min, IntKind.max, IntKind.signed, IntKind.bits] at h; omega
theorem nl_inv {v : SV} (hv : OkV Tryz.prog 49 v) : ∃ n : Nl, v = n.v ∧ RgE n ∧ RgN n := by
 obtain ⟨cs, rfl, hh⟩ := hv.agg_inv (by kernel_rfl)
 clear hv
 rw [show leaves Tryz.prog 40 49 = [3, 42, 5, 5, 5, 5, 5, 5, 5, 5, 5, 5, 26, 45, 27, 4, 27, 3, 27, 26, 26] by kernel_rfl] at hh
 obtain ⟨v0, cs, rfl, h0, hh⟩ := hh.cons_inv
 obtain ⟨v1, cs, rfl, h1, hh⟩ := hh.cons_inv
 obtain ⟨v2, cs, rfl, h2, hh⟩ := hh.cons_inv
 obtain ⟨v3, cs, rfl, h3, hh⟩ := hh.cons_inv
 obtain ⟨v4, cs, rfl, h4, hh⟩ := hh.cons_inv
 obtain ⟨v5, cs, rfl, h5, hh⟩ := hh.cons_inv
 obtain ⟨v6, cs, rfl, h6, hh⟩ := hh.cons_inv
 obtain ⟨v7, cs, rfl, h7, hh⟩ := hh.cons_inv
 obtain ⟨v8, cs, rfl, h8, hh⟩ := hh.cons_inv
 obtain ⟨v9, cs, rfl, h9, hh⟩ := hh.cons_inv
 obtain ⟨v10, cs, rfl, h10, hh⟩ := hh.cons_inv
 obtain ⟨v11, cs, rfl, h11, hh⟩ := hh.cons_inv
 obtain ⟨v12, cs, rfl, h12, hh⟩ := hh.cons_inv
 obtain ⟨v13, cs, rfl, h13, hh⟩ := hh.cons_inv
 obtain ⟨v14, cs, rfl, h14, hh⟩ := hh.cons_inv
 obtain ⟨v15, cs, rfl, h15, hh⟩ := hh.cons_inv
 obtain ⟨v16, cs, rfl, h16, hh⟩ := hh.cons_inv
 obtain ⟨v17, cs, rfl, h17, hh⟩ := hh.cons_inv
 obtain ⟨v18, cs, rfl, h18, hh⟩ := hh.cons_inv
 obtain ⟨v19, cs, rfl, h19, hh⟩ := hh.cons_inv
 obtain ⟨v20, cs, rfl, h20, hh⟩ := hh.cons_inv
 obtain rfl := hh.nil_inv
 obtain ⟨a0, rfl, w0⟩ := h0.int_inv Tryz.underlying3
 obtain ⟨a1, rfl, w1⟩ := h1.int_inv Tryz.underlying42
 obtain ⟨a2, rfl, w2⟩ := h2.int_inv Tryz.underlying5
 obtain ⟨a3, rfl, w3⟩ := h3.int_inv Tryz.underlying5
 obtain ⟨a4, rfl, w4⟩ := h4.int_inv Tryz.underlying5
 obtain ⟨a5, rfl, w5⟩ := h5.int_inv Tryz.underlying5
 obtain ⟨a6, rfl, w6⟩ := h6.int_inv Tryz.underlying5
 obtain ⟨a7, rfl, w7⟩ := h7.int_inv Tryz.underlying5
 obtain ⟨a8, rfl, w8⟩ := h8.int_inv Tryz.underlying5
 obtain ⟨a9, rfl, w9⟩ := h9.int_inv Tryz.underlying5
 obtain ⟨a10, rfl, w10⟩ := h10.int_inv Tryz.underlying5
 obtain ⟨a11, rfl, w11⟩ := h11.int_inv Tryz.underlying5
 obtain ⟨a12, rfl, w12⟩ := h12.int_inv Tryz.underlying26
 obtain ⟨a13, rfl, w13⟩ := h13.int_inv Tryz.underlying45
 obtain ⟨a14, rfl, w14⟩ := h14.int_inv Tryz.underlying27
 obtain ⟨a15, rfl⟩ := h15.bool_inv Tryz.underlying4
 obtain ⟨a16, rfl, w16⟩ := h16.int_inv Tryz.underlying27
 obtain ⟨a17, rfl, w17⟩ := h17.int_inv Tryz.underlying3
 obtain ⟨a18, rfl, w18⟩ := h18.int_inv Tryz.underlying27
 obtain ⟨a19, rfl, w19⟩ := h19.int_inv Tryz.underlying26
 obtain ⟨a20, rfl, w20⟩ := h20.int_inv Tryz.underlying26
 refine ⟨nlAt (.agg [.int .i64 a0, .int .u64 a1, .int .u8 a2, .int .u8 a3, .int .u8 a4, .int .u8 a5, .int .u8 a6, .int .u8 a7, .int .u8 a8, .int .u8 a9, .int .u8 a10, .int .u8 a11, .int .u32 a12, .int .u64 a13, .int .u32 a14, .bool a15, .int .u32 a16, .int .i64 a17, .int .u32 a18, .int .u32 a19, .int .u32 a20]), rfl, ?_, wf64 w1, wf32 w12, wf64 w13, wf32 w14, wf32 w16, wf32 w18, wf32 w19, wf32 w20⟩
 intro v hv
 simp only [List.mem_cons, List.not_mem_nil, or_false] at hv
 rcases hv with rfl | rfl | rfl | rfl | rfl | rfl | rfl | rfl | rfl | rfl
 · exact ⟨a2, rfl, wf8 w2⟩
 · exact ⟨a3, rfl, wf8 w3⟩
 · exact ⟨a4, rfl, wf8 w4⟩
 · exact ⟨a5, rfl, wf8 w5⟩
 · exact ⟨a6, rfl, wf8 w6⟩
 · exact ⟨a7, rfl, wf8 w7⟩
 · exact ⟨a8, rfl, wf8 w8⟩
 · exact ⟨a9, rfl, wf8 w9⟩
 · exact ⟨a10, rfl, wf8 w10⟩
 · exact ⟨a11, rfl, wf8 w11⟩
theorem good_of {l : List SV} (h : ∀ x ∈ l, OkV Tryz.prog 49 x) : goodR l := fun x hx => by
 obtain ⟨n, h1, h2, -⟩ := nl_inv (h x hx)
 exact ⟨n, h1, h2⟩
theorem rg_at {l : List SV} (h : ∀ x ∈ l, OkV Tryz.prog 49 x) {i : Int} (h0 : 0 ≤ i) (h1 : i < l.length) : RgN (rt l i) := by
 obtain ⟨n, e1, -, e2⟩ := nl_inv (h _ (getD_mem (show i.toNat < l.length by omega)))
 unfold rt
 rw [e1, nlAt_v]; exact e2
theorem okAll_of {l : List SV} (h : ∀ x ∈ l, OkV Tryz.prog 49 x) : ∀ (k : Nat) (i : Int), 0 ≤ i → i + k ≤ l.length → fst k l i = 0 → okAll k l i = true
 | 0, _, _, _, _ => rfl
 | k + 1, i, h0, h1, hf => by
  unfold fst at hf
  cases hc : chk (rt l i) != 0 with
  | true =>
   rw [hc, cond_true] at hf
   rw [hf] at hc; cases hc
  | false =>
   rw [hc, cond_false] at hf
   have hc0 : chk (rt l i) = 0 := by simpa using hc
   unfold okAll
   rw [okAll_of h k (i + 1) (by omega) (by omega) hf, decide_eq_true ⟨hc0, okP_of (rg_at h h0 (by omega)) hc0⟩]
   rfl
theorem okR_of {l : List SV} (h : ∀ x ∈ l, OkV Tryz.prog 49 x) (hl : l.length ≤ 1000) (hf : fsts l = 0) : okR l = true := by
 unfold okR
 rw [decide_eq_true hl, okAll_of h l.length 0 (by omega) (by omega) hf]
 rfl
theorem okW_of {e : TypeId} {l : List SV} (hu : Tryz.prog.underlying e = some (.int .u32)) (h : ∀ x ∈ l, OkV Tryz.prog e x) : okW l = true := by
 rw [okW_iff]
 intro k
 rw [List.getD_eq_getElem?_getD]
 cases hk : l[k]? with
 | none => simp [asI]
 | some x =>
  obtain ⟨n, rfl, w⟩ := (h x (List.mem_of_getElem? hk)).int_inv hu
  exact wf32 w
theorem sh32_of {e : TypeId} {l : List SV} (hu : Tryz.prog.underlying e = some (.int .u32)) (h : ∀ x ∈ l, OkV Tryz.prog e x) : sh32 l := fun x hx => by
 obtain ⟨n, rfl, w⟩ := (h x hx).int_inv hu
 exact ⟨n, rfl, wf32 w⟩
theorem sh8_of {l : List SV} (h : ∀ x ∈ l, OkV Tryz.prog 91 x) : sh8 l := fun x hx => by
 obtain ⟨cs, rfl, hh⟩ := (h x hx).agg_inv (by kernel_rfl)
 rw [show leaves Tryz.prog 40 91 = [5, 5, 5, 5, 5, 5, 5, 5] by kernel_rfl] at hh
 obtain ⟨v0, cs, rfl, h0, hh⟩ := hh.cons_inv
 obtain ⟨v1, cs, rfl, h1, hh⟩ := hh.cons_inv
 obtain ⟨v2, cs, rfl, h2, hh⟩ := hh.cons_inv
 obtain ⟨v3, cs, rfl, h3, hh⟩ := hh.cons_inv
 obtain ⟨v4, cs, rfl, h4, hh⟩ := hh.cons_inv
 obtain ⟨v5, cs, rfl, h5, hh⟩ := hh.cons_inv
 obtain ⟨v6, cs, rfl, h6, hh⟩ := hh.cons_inv
 obtain ⟨v7, cs, rfl, h7, hh⟩ := hh.cons_inv
 obtain rfl := hh.nil_inv
 obtain ⟨a0, rfl, -⟩ := h0.int_inv Tryz.underlying5
 obtain ⟨a1, rfl, -⟩ := h1.int_inv Tryz.underlying5
 obtain ⟨a2, rfl, -⟩ := h2.int_inv Tryz.underlying5
 obtain ⟨a3, rfl, -⟩ := h3.int_inv Tryz.underlying5
 obtain ⟨a4, rfl, -⟩ := h4.int_inv Tryz.underlying5
 obtain ⟨a5, rfl, -⟩ := h5.int_inv Tryz.underlying5
 obtain ⟨a6, rfl, -⟩ := h6.int_inv Tryz.underlying5
 obtain ⟨a7, rfl, -⟩ := h7.int_inv Tryz.underlying5
 exact ⟨a0, a1, a2, a3, a4, a5, a6, a7, rfl⟩
def shb (l : List SV) : Prop := ∀ x ∈ l, ∀ j, ∃ n : Int, asI (cellAt x j) = n ∧ 0 ≤ n ∧ n ≤ 255
theorem shb_of {l : List SV} (h : ∀ x ∈ l, OkV Tryz.prog 91 x) : shb l := fun x hx j => by
 obtain ⟨cs, rfl, hh⟩ := (h x hx).agg_inv (by kernel_rfl)
 rw [show leaves Tryz.prog 40 91 = [5, 5, 5, 5, 5, 5, 5, 5] by kernel_rfl] at hh
 obtain ⟨v0, cs, rfl, h0, hh⟩ := hh.cons_inv
 obtain ⟨v1, cs, rfl, h1, hh⟩ := hh.cons_inv
 obtain ⟨v2, cs, rfl, h2, hh⟩ := hh.cons_inv
 obtain ⟨v3, cs, rfl, h3, hh⟩ := hh.cons_inv
 obtain ⟨v4, cs, rfl, h4, hh⟩ := hh.cons_inv
 obtain ⟨v5, cs, rfl, h5, hh⟩ := hh.cons_inv
 obtain ⟨v6, cs, rfl, h6, hh⟩ := hh.cons_inv
 obtain ⟨v7, cs, rfl, h7, hh⟩ := hh.cons_inv
 obtain rfl := hh.nil_inv
 obtain ⟨a0, rfl, w0⟩ := h0.int_inv Tryz.underlying5
 obtain ⟨a1, rfl, w1⟩ := h1.int_inv Tryz.underlying5
 obtain ⟨a2, rfl, w2⟩ := h2.int_inv Tryz.underlying5
 obtain ⟨a3, rfl, w3⟩ := h3.int_inv Tryz.underlying5
 obtain ⟨a4, rfl, w4⟩ := h4.int_inv Tryz.underlying5
 obtain ⟨a5, rfl, w5⟩ := h5.int_inv Tryz.underlying5
 obtain ⟨a6, rfl, w6⟩ := h6.int_inv Tryz.underlying5
 obtain ⟨a7, rfl, w7⟩ := h7.int_inv Tryz.underlying5
 match j with
 | 0 => exact ⟨a0, rfl, wf8 w0⟩
 | 1 => exact ⟨a1, rfl, wf8 w1⟩
 | 2 => exact ⟨a2, rfl, wf8 w2⟩
 | 3 => exact ⟨a3, rfl, wf8 w3⟩
 | 4 => exact ⟨a4, rfl, wf8 w4⟩
 | 5 => exact ⟨a5, rfl, wf8 w5⟩
 | 6 => exact ⟨a6, rfl, wf8 w6⟩
 | 7 => exact ⟨a7, rfl, wf8 w7⟩
 | j + 8 => exact ⟨0, rfl, by decide, by decide⟩
theorem at_inv {v : SV} (hv : OkV Tryz.prog 33 v) : ∃ a : At, v = a.v ∧ shb a.cm ∧ (achk a = 0 → Valid a) := by
 obtain ⟨cs, rfl, hh⟩ := hv.agg_inv (by kernel_rfl)
 clear hv
 rw [show leaves Tryz.prog 40 33 = [3, 25, 27, 4, 26, 4, 26, 4, 27, 28, 29, 3, 26, 27, 27] by kernel_rfl] at hh
 obtain ⟨v0, cs, rfl, h0, hh⟩ := hh.cons_inv
 obtain ⟨v1, cs, rfl, h1, hh⟩ := hh.cons_inv
 obtain ⟨v2, cs, rfl, h2, hh⟩ := hh.cons_inv
 obtain ⟨v3, cs, rfl, h3, hh⟩ := hh.cons_inv
 obtain ⟨v4, cs, rfl, h4, hh⟩ := hh.cons_inv
 obtain ⟨v5, cs, rfl, h5, hh⟩ := hh.cons_inv
 obtain ⟨v6, cs, rfl, h6, hh⟩ := hh.cons_inv
 obtain ⟨v7, cs, rfl, h7, hh⟩ := hh.cons_inv
 obtain ⟨v8, cs, rfl, h8, hh⟩ := hh.cons_inv
 obtain ⟨v9, cs, rfl, h9, hh⟩ := hh.cons_inv
 obtain ⟨v10, cs, rfl, h10, hh⟩ := hh.cons_inv
 obtain ⟨v11, cs, rfl, h11, hh⟩ := hh.cons_inv
 obtain ⟨v12, cs, rfl, h12, hh⟩ := hh.cons_inv
 obtain ⟨v13, cs, rfl, h13, hh⟩ := hh.cons_inv
 obtain ⟨v14, cs, rfl, h14, hh⟩ := hh.cons_inv
 obtain rfl := hh.nil_inv
 obtain ⟨ori, rfl, w0⟩ := h0.int_inv Tryz.underlying3
 obtain ⟨path, rfl, l1, g1⟩ := h1.sl_inv Tryz.underlying25
 obtain ⟨nx, rfl, w2⟩ := h2.int_inv Tryz.underlying27
 obtain ⟨hm, rfl⟩ := h3.bool_inv Tryz.underlying4
 obtain ⟨med, rfl, w4⟩ := h4.int_inv Tryz.underlying26
 obtain ⟨hp, rfl⟩ := h5.bool_inv Tryz.underlying4
 obtain ⟨prf, rfl, w6⟩ := h6.int_inv Tryz.underlying26
 obtain ⟨ho, rfl⟩ := h7.bool_inv Tryz.underlying4
 obtain ⟨orr, rfl, w8⟩ := h8.int_inv Tryz.underlying27
 obtain ⟨cl, rfl, l9, g9⟩ := h9.sl_inv Tryz.underlying28
 obtain ⟨cm, rfl, l10, g10⟩ := h10.sl_inv Tryz.underlying29
 obtain ⟨tk, rfl, w11⟩ := h11.int_inv Tryz.underlying3
 obtain ⟨tl, rfl, w12⟩ := h12.int_inv Tryz.underlying26
 obtain ⟨tr, rfl, w13⟩ := h13.int_inv Tryz.underlying27
 obtain ⟨tg, rfl, w14⟩ := h14.int_inv Tryz.underlying27
 refine ⟨⟨ori, path, nx, hm, med, hp, prf, ho, orr, cl, cm, tk, tl, tr, tg⟩, rfl, shb_of g10, fun hc => ?_⟩
 have b12 := wf32 w12
 unfold achk at hc
 cases c1 : ck1 ⟨ori, path, nx, hm, med, hp, prf, ho, orr, cl, cm, tk, tl, tr, tg⟩ with
 | true => rw [c1] at hc; cases hc
 | false =>
 rw [c1, cond_false] at hc
 cases c2 : ck2 ⟨ori, path, nx, hm, med, hp, prf, ho, orr, cl, cm, tk, tl, tr, tg⟩ with
 | true => rw [c2] at hc; cases hc
 | false =>
 rw [c2, cond_false] at hc
 cases c3 : ck3 ⟨ori, path, nx, hm, med, hp, prf, ho, orr, cl, cm, tk, tl, tr, tg⟩ with
 | true => rw [c3] at hc; cases hc
 | false =>
 rw [c3, cond_false] at hc
 cases c4 : ck4 ⟨ori, path, nx, hm, med, hp, prf, ho, orr, cl, cm, tk, tl, tr, tg⟩ with
 | true => rw [c4] at hc; cases hc
 | false =>
 rw [c4, cond_false] at hc
 cases c5 : ck5 ⟨ori, path, nx, hm, med, hp, prf, ho, orr, cl, cm, tk, tl, tr, tg⟩ with
 | true => rw [c5] at hc; cases hc
 | false =>
 rw [c5, cond_false] at hc
 cases c6 : ck6 ⟨ori, path, nx, hm, med, hp, prf, ho, orr, cl, cm, tk, tl, tr, tg⟩ with
 | true => rw [c6] at hc; cases hc
 | false =>
 rw [c6, cond_false] at hc
 cases c7 : ck7 ⟨ori, path, nx, hm, med, hp, prf, ho, orr, cl, cm, tk, tl, tr, tg⟩ with
 | true => rw [c7] at hc; cases hc
 | false =>
 have hb : ∀ x y : Bool, (bif x then y else false) = (x && y) := by decide
 have ho2 : ∀ x y : Bool, (bif x then true else y) = (x || y) := by decide
 simp only [ck1, ho2, Bool.or_eq_false_iff, decide_eq_false_iff_not] at c1
 simp only [ck2, ho2, Bool.or_eq_false_iff, decide_eq_false_iff_not] at c2
 simp only [ck3, ho2, hb, Bool.or_eq_false_iff, Bool.and_eq_false_imp, Bool.not_eq_true', bne_eq_false_iff_eq] at c3
 simp only [ck4, hb, Bool.and_eq_false_imp, Bool.and_eq_true, bne_iff_ne, bne_eq_false_iff_eq, and_imp] at c4
 simp only [ck5, decide_eq_false_iff_not] at c5
 simp only [ck6, hb, Bool.and_eq_false_imp, Bool.not_eq_false', Bool.and_eq_true, beq_iff_eq] at c6
 simp only [ck7, hb, Bool.and_eq_false_imp, bne_eq_false_iff_eq, beq_iff_eq] at c7
 obtain ⟨c11, c12⟩ := c1
 obtain ⟨⟨c21, c22⟩, c23⟩ := c2
 obtain ⟨⟨c31, c32⟩, c33⟩ := c3
 have hk : tk = 0 ∨ tk = 3 ∨ tk = 6 := by
  by_cases k0 : tk = 0
  · exact .inl k0
  by_cases k3 : tk = 3
  · exact .inr (.inl k3)
  exact .inr (.inr (c4 k0 k3))
 exact ⟨⟨by simp only []; omega, by simp only []; omega, okW_of Tryz.underlying26 g1, wf32 w2, wf32 w4, wf32 w6, wf32 w8, by simp only []; omega, okW_of Tryz.underlying27 g9, by simp only []; omega, by simp only []; omega, ⟨b12.1, by simp only []; omega⟩, wf32 w13, wf32 w14⟩,
  by simp only []; omega, by simp only []; omega, by simp only []; omega, by simp only []; omega, c31, c32, c33, hk, fun h => by
   have := c6 h
   exact this.2, c7, sh32_of Tryz.underlying26 g1, sh32_of Tryz.underlying27 g9, sh8_of g10⟩
structure In (a : At) (r u : List SV) : Prop where
 mb : shb a.cm
 va : achk a = 0 → Valid a
 gr : goodR r
 gu : goodR u
 kr : r.length ≤ 1000 → fsts r = 0 → okR r = true
 ku : u.length ≤ 1000 → fsts u = 0 → okR u = true
theorem in_inv {x y z : SV} (h0 : OkV Tryz.prog 33 x) (h1 : OkV Tryz.prog 34 y) (h2 : OkV Tryz.prog 34 z) : ∃ (a : At) (r u : List SV), x = a.v ∧ y = .psl 49 r ∧ z = .psl 49 u ∧ In a r u := by
 obtain ⟨a, rfl, hm, ha⟩ := at_inv h0
 obtain ⟨r, rfl, -, gr⟩ := h1.sl_inv Tryz.underlying34
 obtain ⟨u, rfl, -, gu⟩ := h2.sl_inv Tryz.underlying34
 exact ⟨a, r, u, rfl, rfl, rfl, hm, ha, good_of gr, good_of gu, okR_of gr, okR_of gu⟩
structure Vd (a : At) (r u : List SV) : Prop where
 mb : shb a.cm
 va : Valid a
 gr : goodR r
 gu : goodR u
 kr : okR r = true
 ku : okR u = true
 z : r.length = 0 → azero a = true
theorem In.vd {a : At} {r u : List SV} (h : In a r u) (hr : r.length ≤ 1000) (hu : u.length ≤ 1000) (hc : chkAll a r u = 0) : Vd a r u := by
 unfold chkAll at hc
 cases ha : achk a != 0 with
 | true =>
  rw [ha, cond_true] at hc
  rw [hc] at ha; cases ha
 | false =>
  rw [ha, cond_false] at hc
  cases hz : (bif (r.length : Int) == 0 then !azero a else false) with
  | true => rw [hz] at hc; cases hc
  | false =>
   rw [hz, cond_false] at hc
   cases hx : fsts r != 0 with
   | true =>
    rw [hx, cond_true] at hc
    rw [hc] at hx; cases hx
   | false =>
    rw [hx, cond_false] at hc
    have hx0 : fsts r = 0 := by simpa using hx
    refine ⟨h.mb, h.va (by simpa using ha), h.gr, h.gu, h.kr hr hx0, h.ku hu hc, fun h0 => ?_⟩
    rw [h0] at hz
    cases hq : azero a with
    | true => rfl
    | false => rw [hq] at hz; cases hz
theorem In.fit {a : At} {r u : List SV} (h : In a r u) (hr : r.length ≤ 20) (hu : u.length ≤ 20) : Fit a r u :=
 ⟨hr, hu, fun hc => by
  have v := h.vd (by omega) (by omega) hc
  exact ⟨v.va.ok, v.kr, v.ku⟩⟩
theorem azero_fin {a : At} (h : azero a = true) (u : List SV) : finD a [] u = { dI0 with unr := u } := by
 have hb : ∀ x y : Bool, (bif x then y else false) = (x && y) := by decide
 simp only [azero, hb, Bool.and_eq_true, beq_iff_eq, Bool.not_eq_true'] at h
 obtain ⟨⟨⟨⟨⟨⟨⟨⟨⟨⟨⟨e1, e2⟩, e3⟩, e4⟩, e5⟩, e6⟩, e7⟩, e8⟩, e9⟩, e10⟩, e11⟩, e12, e13, e14, e15⟩ := h
 have l1 : a.path = [] := List.length_eq_zero_iff.1 (by omega)
 have l2 : a.cl = [] := List.length_eq_zero_iff.1 (by omega)
 have l3 : a.cm = [] := List.length_eq_zero_iff.1 (by omega)
 unfold finD
 rw [e1, e3, e4, e5, e6, e7, e8, e9, e12, e13, e14, e15, l1, l2, l3]; rfl
theorem azero_fl {a : At} (h : azero a = true) : a.hm = false ∧ a.hp = false ∧ a.ho = false ∧ a.cl.length = 0 := by
 have hb : ∀ x y : Bool, (bif x then y else false) = (x && y) := by decide
 simp only [azero, hb, Bool.and_eq_true, beq_iff_eq, Bool.not_eq_true'] at h
 obtain ⟨⟨⟨⟨⟨⟨⟨⟨⟨⟨⟨e1, e2⟩, e3⟩, e4⟩, e5⟩, e6⟩, e7⟩, e8⟩, e9⟩, e10⟩, e11⟩, e12, e13, e14, e15⟩ := h
 exact ⟨e4, e6, e8, by omega⟩
theorem all_le {a : At} {r u : List SV} (h : Vd a r u) (lr : r.length ≤ 20) (lu : u.length ≤ 20) : (allB a (nbs r) (nbs u)).length ≤ 40000 := by
 have hp := putB_lt h.va.ok (nbs r) (nbs u)
 have l1 := nbs_len r
 have l2 := nbs_len u
 have h0 := hp 0; have h1 := hp 1; have h2 := hp 2; have h3 := hp 3; have h4 := hp 4; have h5 := hp 5; have h6 := hp 6; have h7 := hp 7; have h8 := hp 8; have h9 := hp 9
 unfold allB; simp only [List.length_append, List.length_nil]; omega
theorem byl_nil : byl [] := fun v hv => by cases hv
theorem byl_cons {n : Int} {l : List SV} (h0 : 0 ≤ n) (h1 : n ≤ 255) (h : byl l) : byl (.int .u8 n :: l) := fun v hv => by
 rcases List.mem_cons.1 hv with rfl | hv
 · exact ⟨n, rfl, h0, h1⟩
 · exact h v hv
theorem wds_byl (l : List SV) : ∀ (k : Nat) (i : Int), byl (wds k l i)
 | 0, _ => byl_nil
 | k + 1, i => byl_app (byl.be _ _) (wds_byl l k (i + 1))
theorem cmBs_byl {l : List SV} (h : shb l) : ∀ (k : Nat) (i : Int), 0 ≤ i → i + k ≤ l.length → byl (cmBs k l i)
 | 0, _, _, _ => byl_nil
 | k + 1, i, h0, h1 => by
  have hm := h _ (getD_mem (show i.toNat < l.length by omega))
  refine byl_app ?_ (cmBs_byl h k (i + 1) (by omega) (by omega))
  intro v hv
  simp only [cmB, List.mem_cons, List.not_mem_nil, or_false] at hv
  rcases hv with rfl | rfl | rfl | rfl | rfl | rfl | rfl | rfl
  all_goals (obtain ⟨n, h1, h2⟩ := hm _; exact ⟨_, rfl, by rw [h1]; exact h2⟩)
theorem w8_rng (n : Int) : 0 ≤ IntKind.u8.wrap n ∧ IntKind.u8.wrap n ≤ 255 := by
 simp [IntKind.wrap, IntKind.bits, IntKind.signed]; omega
theorem atB_byl {f c : Int} {v : List SV} (hf : 0 ≤ f ∧ f ≤ 255) (hc : 0 ≤ c ∧ c ≤ 255) (h : byl v) : byl (atB f c v) := by
 unfold atB
 cases decide ((v.length : Int) > 255) with
 | true => exact byl_app (byl_app (byl_cons (w8_rng _).1 (w8_rng _).2 (byl_cons hc.1 hc.2 byl_nil)) (byl.be _ _)) h
 | false => exact byl_app (byl_cons hf.1 hf.2 (byl_cons hc.1 hc.2 (byl_cons (w8_rng _).1 (w8_rng _).2 byl_nil))) h
theorem row_rng : ∀ r, r ≤ 9 → (0 ≤ flagR r ∧ flagR r ≤ 255) ∧ 0 ≤ codeR r ∧ codeR r ≤ 255 := by decide
theorem valB_byl {a : At} (hm : shb a.cm) {R U : List SV} (hR : byl R) (hU : byl U) : ∀ r, byl (valB r a R U)
 | 0 => byl.be _ _
 | 1 => by
  show byl (pathB a)
  unfold pathB
  cases decide ((a.path.length : Int) > 0) with
  | true => exact byl_app (byl_app (byl.be _ _) (byl.be _ _)) (wds_byl _ _ _)
  | false => exact byl_nil
 | 2 => byl.be _ _
 | 3 => byl.be _ _
 | 4 => byl.be _ _
 | 5 => wds_byl _ _ _
 | 6 => byl_app (byl_app (byl_app (byl_app (byl_app byl_nil (byl.be _ _)) (byl.be _ _)) (byl.be _ _)) (byl.be _ _)) hR
 | 7 => byl_app (byl_app byl_nil (byl.be _ _)) hU
 | 8 => cmBs_byl hm _ _ (by omega) (by omega)
 | r + 9 => by
  show byl (tunA a)
  have ht : byl (tunB a) := byl_app (byl_app (byl_app (byl_app byl_nil (byl.be _ _)) (byl.be _ _)) (byl.be _ _)) (byl.be _ _)
  unfold tunA
  cases a.tk == 3 with
  | true => exact byl_app ht (byl.be _ _)
  | false => exact ht
theorem putB_byl {a : At} (hm : shb a.cm) {R U : List SV} (hR : byl R) (hU : byl U) {r : Nat} (hr : r ≤ 9) : byl (putB r a R U) := by
 unfold putB
 cases wrB r a R U with
 | true => exact atB_byl (row_rng r hr).1 (row_rng r hr).2 (valB_byl hm hR hU r)
 | false => exact byl_nil
theorem nbs_byl {l : List SV} (hg : goodR l) : byl (nbs l) := nbAll_byl hg l.length 0 (by omega) (by omega)
theorem Vd.byl {a : At} {r u : List SV} (h : Vd a r u) : byl (allB a (nbs r) (nbs u)) := by
 have hp : ∀ k, k ≤ 9 → Go.Proofs.YtdgnhaacdpmclaaGreat.byl (putB k a (nbs r) (nbs u)) := fun k hk => putB_byl h.mb (nbs_byl h.gr) (nbs_byl h.gu) hk
 unfold allB
 exact byl_app (byl_app (byl_app (byl_app (byl_app (byl_app (byl_app (byl_app (byl_app (byl_app byl_nil (hp 0 (by omega))) (hp 1 (by omega))) (hp 2 (by omega))) (hp 3 (by omega))) (hp 4 (by omega))) (hp 5 (by omega))) (hp 6 (by omega))) (hp 7 (by omega))) (hp 8 (by omega))) (hp 9 (by omega))
end Go.Proofs.YtdgnhaacdpmclaaGreat
/- The pieces of what Bytes writes; reading some of them, in any order. -/
namespace Go.Proofs.YtdgnhaacdpmclaaGreat
open Go.Am
set_option maxRecDepth 100000
theorem splG_end {es : List SV} {a : Nat} (h : ¬ a + 3 < es.length) : splG es a = true := by rw [splG, if_neg h]
theorem splL_end {es : List SV} {a : Nat} (h : ¬ a + 3 < es.length) : splL es a = [] := by rw [splL, if_neg h]
theorem splG_go {es : List SV} {a : Nat} (h : a + 3 < es.length) (hE : vE es a ≤ es.length) : splG es a = splG es (vE es a) := by rw [splG, if_pos h, if_pos hE]
theorem splL_go {es : List SV} {a : Nat} (h : a + 3 < es.length) (hE : vE es a ≤ es.length) : splL es a = .psl 5 (vl es a (vE es a)) :: splL es (vE es a) := by rw [splL, if_pos h, if_pos hE]
theorem atB_ge (f c : Int) (v : List SV) : 3 + v.length ≤ (atB f c v).length := by
 unfold atB
 cases decide ((v.length : Int) > 255) <;> simp [hdL, hdS, be_len] <;> omega
def pcK (a : At) (R U : List SV) (k : Nat) : SV := .psl 5 (putB k a R U)
def lastK (a : At) (R U : List SV) : List Nat → Prop
 | [] => True
 | k :: ks => (wrB k a R U = true → valB k a R U ≠ [] ∨ rowsB a R U ks ≠ []) ∧ lastK a R U ks
theorem spl_row {pre post es : List SV} {r : Nat} {a : At} {R U : List SV} (hr : r ≤ 9) (hw : wrB r a R U = true) (hes : es = pre ++ (putB r a R U ++ post)) (hv : (valB r a R U).length ≤ 65535) (hl : valB r a R U ≠ [] ∨ post ≠ []) :
  splG es pre.length = splG es (pre ++ putB r a R U).length ∧ splL es pre.length = pcK a R U r :: splL es (pre ++ putB r a R U).length := by
 have hp : putB r a R U = atB (flagR r) (codeR r) (valB r a R U) := by unfold putB; rw [hw]; rfl
 obtain ⟨p1, p2, p3, p4, p5, p6⟩ := at_parts (hp ▸ hes) (fit_row r hr).1 hv
 rw [← hp] at p3
 have hge := atB_ge (flagR r) (codeR r) (valB r a R U)
 rw [← hp] at hge
 have hL : es.length = pre.length + ((putB r a R U).length + post.length) := by rw [hes, List.length_append, List.length_append]
 have h3 : pre.length + 3 < es.length := by
  rcases hl with h | h
  · have := List.length_pos_iff.2 h; omega
  · have := List.length_pos_iff.2 h; omega
 have hE : vE es pre.length ≤ es.length := by omega
 have hvl : vl es pre.length (vE es pre.length) = putB r a R U := by
  unfold vl sl
  rw [p3, hes, List.drop_left, show pre.length + (putB r a R U).length - pre.length = (putB r a R U).length by omega, List.take_left]
 rw [splG_go h3 hE, splL_go h3 hE, hvl, p3, List.length_append]
 exact ⟨rfl, rfl⟩
theorem spl_rows {a : At} {R U es : List SV} (hv : ∀ r, (valB r a R U).length ≤ 65535) : ∀ (ks : List Nat) (pre : List SV), es = pre ++ rowsB a R U ks → (∀ r ∈ ks, r ≤ 9) → lastK a R U ks →
  splG es pre.length = true ∧ splL es pre.length = (ks.filter (fun k => wrB k a R U)).map (pcK a R U)
 | [], pre, hes, _, _ => by
  have hl : es.length = pre.length := by rw [hes, rowsB, List.append_nil]
  exact ⟨splG_end (by omega), splL_end (by omega)⟩
 | k :: ks, pre, hes, h9, ⟨hk, hl⟩ => by
  have hes2 : es = (pre ++ putB k a R U) ++ rowsB a R U ks := by rw [hes, rowsB, List.append_assoc]
  obtain ⟨i1, i2⟩ := spl_rows hv ks (pre ++ putB k a R U) hes2 (fun r hr => h9 r (by simp [hr])) hl
  cases hw : wrB k a R U with
  | true =>
   obtain ⟨s1, s2⟩ := spl_row (es := es) (pre := pre) (post := rowsB a R U ks) (h9 k (by simp)) hw (by rw [hes, rowsB]) (hv k) (hk hw)
   rw [s1, s2, i1, i2, List.filter_cons, if_pos hw]
   exact ⟨rfl, rfl⟩
  | false =>
   have hp : putB k a R U = [] := by unfold putB; rw [hw]; rfl
   rw [hp, List.append_nil] at i1 i2
   rw [List.filter_cons, if_neg (by rw [hw]; decide)]
   exact ⟨i1, i2⟩
def wk (a : At) (R U : List SV) : List Nat := allK.filter (fun k => wrB k a R U)
theorem val_ne {a : At} {R U : List SV} : ∀ k, k ≠ 1 → k ≤ 9 → wrB k a R U = true → valB k a R U ≠ []
 | 0, _, _, _ => by show be _ 1 ≠ []; simp [be]
 | 1, h, _, _ => absurd rfl h
 | 2, _, _, _ => by show be _ 4 ≠ []; simp [be]
 | 3, _, _, _ => by show be _ 4 ≠ []; simp [be]
 | 4, _, _, _ => by show be _ 4 ≠ []; simp [be]
 | 5, _, _, h => by
  have h : ((a.cl.length : Int) > 0) := of_decide_eq_true h
  intro e
  have := wds_len a.cl a.cl.length 0
  rw [show wds a.cl.length a.cl 0 = [] from e, List.length_nil] at this
  omega
 | 6, _, _, _ => by
  intro e
  have : (reachB a R).length = 0 := by rw [show reachB a R = [] from e]; rfl
  simp [reachB, fam, be_len] at this
 | 7, _, _, _ => by
  intro e
  have : (unreachB U).length = 0 := by rw [show unreachB U = [] from e]; rfl
  simp [unreachB, fam, be_len] at this
 | 8, _, _, h => by
  have h : ((a.cm.length : Int) > 0) := of_decide_eq_true h
  intro e
  have := cmBs_len a.cm a.cm.length 0
  rw [show cmBs a.cm.length a.cm 0 = [] from e, List.length_nil] at this
  omega
 | 9, _, _, _ => by
  intro e
  have : (tunA a).length = 0 := by rw [show tunA a = [] from e]; rfl
  unfold tunA at this
  cases hk : a.tk == 3 <;> rw [hk] at this <;> simp [tunB, tunG, be_len] at this
 | k + 10, _, h, _ => by omega
theorem putB_ne {a : At} {R U : List SV} {k : Nat} (h : wrB k a R U = true) : putB k a R U ≠ [] := by
 unfold putB
 rw [h, cond_true]
 intro e
 have := atB_ge (flagR k) (codeR k) (valB k a R U)
 rw [e, List.length_nil] at this
 omega
theorem rowsB_app (a : At) (R U : List SV) : ∀ ks ls, rowsB a R U (ks ++ ls) = rowsB a R U ks ++ rowsB a R U ls
 | [], _ => rfl
 | k :: ks, ls => by rw [List.cons_append, rowsB, rowsB, rowsB_app a R U ks ls, List.append_assoc]
theorem last_all (a : At) (R U : List SV) : lastK a R U allK := by
 have hne : ∀ k ks, k ≠ 1 → k ≤ 9 → (wrB k a R U = true → valB k a R U ≠ [] ∨ rowsB a R U ks ≠ []) := fun k ks h h9 hw => .inl (val_ne k h h9 hw)
 refine ⟨hne 0 _ (by decide) (by decide), fun hw => .inr ?_, hne 2 _ (by decide) (by decide), hne 3 _ (by decide) (by decide), hne 4 _ (by decide) (by decide), hne 5 _ (by decide) (by decide), hne 6 _ (by decide) (by decide), hne 7 _ (by decide) (by decide), hne 8 _ (by decide) (by decide), hne 9 _ (by decide) (by decide), trivial⟩
 have h6 : wrB 6 a R U = true := hw
 have := putB_ne h6
 intro e
 rw [show [2, 3, 4, 5, 6, 7, 8, 9] = [2, 3, 4, 5] ++ (6 :: [7, 8, 9]) from rfl, rowsB_app] at e
 have e2 := (List.append_eq_nil_iff.1 e).2
 rw [rowsB] at e2
 exact this (List.append_eq_nil_iff.1 e2).1
theorem spl_all {a : At} {R U : List SV} (hv : ∀ r, (valB r a R U).length ≤ 65535) : splG (allB a R U) 0 = true ∧ splL (allB a R U) 0 = (wk a R U).map (pcK a R U) :=
 spl_rows (es := allB a R U) hv allK [] (by rw [rowsB_all]; rfl) (by decide) (last_all a R U)
theorem dg_code {a : At} {R U : List SV} {k : Nat} (h : wrB k a R U = true) : dg (putB k a R U) 1 = codeR k := by
 unfold putB
 rw [h, cond_true]
 unfold atB
 cases decide (((valB k a R U).length : Int) > 255) <;> rfl
def fP (p : Int → Bool) : List SV → List SV
 | [] => []
 | x :: xs => (bif p (dg (asL x) 1) then asL x else []) ++ fP p xs
theorem fP_rows {a : At} {R U : List SV} (p : Int → Bool) : ∀ ks : List Nat, fP p ((ks.filter (fun k => wrB k a R U)).map (pcK a R U)) = rowsB a R U (ks.filter (fun k => p (codeR k)))
 | [] => rfl
 | k :: ks => by
  have ih := fP_rows (a := a) (R := R) (U := U) p ks
  cases hw : wrB k a R U with
  | true =>
   rw [List.filter_cons, if_pos hw, List.map_cons, fP, ih]
   show (bif p (dg (putB k a R U) 1) then putB k a R U else []) ++ _ = _
   rw [dg_code hw, List.filter_cons]
   cases p (codeR k) <;> rfl
  | false =>
   have hp : putB k a R U = [] := by unfold putB; rw [hw]; rfl
   rw [List.filter_cons, if_neg (by rw [hw]; decide), ih, List.filter_cons]
   cases p (codeR k)
   · rfl
   · show _ = putB k a R U ++ _
     rw [hp]; rfl
section
variable {a : At} {r u : List SV} (h : Vd a r u)
include h
theorem Vd.vl (lr : r.length ≤ 20) (lu : u.length ≤ 20) : ∀ k, (valB k a (nbs r) (nbs u)).length ≤ 65535 := fun k => by
 have l1 := nbs_len r
 have l2 := nbs_len u
 have := valB_len h.va.ok (nbs r) (nbs u) k
 omega
theorem Vd.oks : ∀ k, k ≤ 9 → wrB k a (nbs r) (nbs u) = true → okC (codeR k) (valB k a (nbs r) (nbs u)) = true := ok_all h.va h.gr h.gu h.kr h.ku
theorem Vd.without (lr : r.length ≤ 20) (lu : u.length ≤ 20) : rdQ (rowsB a (nbs r) (nbs u) [0, 1, 2, 3, 4, 5, 7, 8, 9]) (rowsB a (nbs r) (nbs u) [0, 1, 2, 3, 4, 5, 7, 8, 9]).length = (0, 0, { dI0 with unr := u }) := by
 obtain ⟨y, hy⟩ := rows_read (es := rowsB a (nbs r) (nbs u) [0, 1, 2, 3, 4, 5, 7, 8, 9]) (h.vl lr lu) h.oks [0, 1, 2, 3, 4, 5, 7, 8, 9] [] 0 [] zI rfl (by decide) (by decide) (fun _ _ => rfl)
 unfold rdQ rdO
 rw [show ([] : List SV).length = 0 from rfl] at hy
 rw [hy]
 simp only [zF_d]
 rw [show lookB (sF a (nbs r) (nbs u) [0, 1, 2, 3, 4, 5, 7, 8, 9] []) 14 = false by rw [sF_lk]; simp [codeR, lookB]]
 have hd : (dF a (nbs r) (nbs u) [0, 1, 2, 3, 4, 5, 7, 8, 9] zI.d).unr = u := by
  have q0 : ∀ d : Ds, (bif wrB 0 a (nbs r) (nbs u) then gD (codeR 0) (valB 0 a (nbs r) (nbs u)) d else d) = (bif wrB 0 a (nbs r) (nbs u) then u0 a d else d) := fun d => by rw [show gD (codeR 0) (valB 0 a (nbs r) (nbs u)) d = u0 a d from (vlr0 h.va _ _ d).2]
  have q1 : ∀ d : Ds, (bif wrB 1 a (nbs r) (nbs u) then gD (codeR 1) (valB 1 a (nbs r) (nbs u)) d else d) = (bif wrB 1 a (nbs r) (nbs u) then u1 a d else d) := fun d => by rw [show gD (codeR 1) (valB 1 a (nbs r) (nbs u)) d = u1 a d from (vlr1 h.va _ _ d).2]
  rw [dF, q0, dF, q1]
  cases wrB 0 a (nbs r) (nbs u) <;> cases wrB 1 a (nbs r) (nbs u) <;>
  · rw [dF, er2 h.va _ rfl rfl, dF, er3 h.va _ rfl rfl, dF, er4 h.va _ rfl rfl, dF, er5 h.va _ rfl, dF, er7 h.gu h.ku _ rfl, dF_unr h.va]; rfl
 rw [hd]; rfl
theorem Vd.bare (lr : r.length ≤ 20) (lu : u.length ≤ 20) (hn : 0 < r.length) : rdQ (rowsB a (nbs r) (nbs u) [2, 3, 4, 5, 6, 7, 8, 9]) (rowsB a (nbs r) (nbs u) [2, 3, 4, 5, 6, 7, 8, 9]).length = (17, ((rowsB a (nbs r) (nbs u) [2, 3, 4, 5, 6, 7, 8, 9]).length : Int), dI0) := by
 obtain ⟨y, hy⟩ := rows_read (es := rowsB a (nbs r) (nbs u) [2, 3, 4, 5, 6, 7, 8, 9]) (h.vl lr lu) h.oks [2, 3, 4, 5, 6, 7, 8, 9] [] 0 [] zI rfl (by decide) (by decide) (fun _ _ => rfl)
 unfold rdQ rdO
 rw [show ([] : List SV).length = 0 from rfl] at hy
 have hR := nbs_pos.2 hn
 have w6 : wrB 6 a (nbs r) (nbs u) = true := decide_eq_true (by omega)
 rw [hy]
 rw [show lookB (sF a (nbs r) (nbs u) [2, 3, 4, 5, 6, 7, 8, 9] []) 14 = true by rw [sF_lk]; simp [codeR, lookB, w6], show lookB (sF a (nbs r) (nbs u) [2, 3, 4, 5, 6, 7, 8, 9] []) 1 = false by rw [sF_lk]; simp [codeR, lookB]]
 rfl
end
end Go.Proofs.YtdgnhaacdpmclaaGreat
