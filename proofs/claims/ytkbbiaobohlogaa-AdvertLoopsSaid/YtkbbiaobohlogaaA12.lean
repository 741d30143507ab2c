/- 'AdvertLoops' answers true, whatever it is handed. No condition. -/
import Derived.Test.YtkbbiaobohlogaaPart3
import Derived.Test.YtkbbiaobohlogaaMachine7
set_option linter.unusedVariables false
set_option linter.unusedSimpArgs false
namespace Go.Proofs.Ytkbbiaobohlogaa
open Go.Am Go.ChangeShapes Go.WideShapes Go.ChangeAt Go.RowKit Go.Joins
set_option maxRecDepth 100000
theorem Try.own : ownKnob Try.prog.godebug = none := by kernel_rfl
theorem laidTry : laidOutB Try.prog = true := by kernel_rfl
theorem mapsTry : mapsRowed Try.prog = true := by kernel_rfl
theorem fullTry : ((List.range Try.prog.types.size).all fun t => match Try.prog.underlying t with | some (.slice e) => decide (0 < Try.prog.cellsOf e) | _ => true) = true := by kernel_rfl
theorem wfu32 {n : Int} (h : (Lit.int .u32 n).wf = true) : 0 ≤ n ∧ n < 4294967296 := by
 simp [Lit.wf, IntKind.min, IntKind.max, IntKind.signed, IntKind.bits] at h; omega
theorem route_inv {v : SV} (hv : OkV Try.prog 48 v) : ∃ r : Rt, v = .agg r.cs ∧ (0 ≤ r.p ∧ r.p < 4294967296) ∧ (0 ≤ r.d.orr ∧ r.d.orr < 4294967296) := by
 obtain ⟨cs, rfl, hh⟩ := hv.agg_inv (by kernel_rfl)
 rw [show leaves Try.prog 40 48 = [3, 30, 5, 5, 5, 5, 5, 5, 5, 5, 5, 5, 33, 34, 35, 4, 35, 3, 35, 33, 33, 3, 40, 35, 4, 33, 4, 33, 4, 35, 41, 42, 3, 33, 35, 35, 35, 4] by kernel_rfl] at hh
 obtain ⟨x0, cs, rfl, i0, hh⟩ := hh.cons_inv
 obtain ⟨x1, cs, rfl, i1, hh⟩ := hh.cons_inv
 obtain ⟨x2, cs, rfl, i2, hh⟩ := hh.cons_inv
 obtain ⟨x3, cs, rfl, i3, hh⟩ := hh.cons_inv
 obtain ⟨x4, cs, rfl, i4, hh⟩ := hh.cons_inv
 obtain ⟨x5, cs, rfl, i5, hh⟩ := hh.cons_inv
 obtain ⟨x6, cs, rfl, i6, hh⟩ := hh.cons_inv
 obtain ⟨x7, cs, rfl, i7, hh⟩ := hh.cons_inv
 obtain ⟨x8, cs, rfl, i8, hh⟩ := hh.cons_inv
 obtain ⟨x9, cs, rfl, i9, hh⟩ := hh.cons_inv
 obtain ⟨x10, cs, rfl, i10, hh⟩ := hh.cons_inv
 obtain ⟨x11, cs, rfl, i11, hh⟩ := hh.cons_inv
 obtain ⟨x12, cs, rfl, i12, hh⟩ := hh.cons_inv
 obtain ⟨x13, cs, rfl, i13, hh⟩ := hh.cons_inv
 obtain ⟨x14, cs, rfl, i14, hh⟩ := hh.cons_inv
 obtain ⟨x15, cs, rfl, i15, hh⟩ := hh.cons_inv
 obtain ⟨x16, cs, rfl, i16, hh⟩ := hh.cons_inv
 obtain ⟨x17, cs, rfl, i17, hh⟩ := hh.cons_inv
 obtain ⟨x18, cs, rfl, i18, hh⟩ := hh.cons_inv
 obtain ⟨x19, cs, rfl, i19, hh⟩ := hh.cons_inv
 obtain ⟨x20, cs, rfl, i20, hh⟩ := hh.cons_inv
 obtain ⟨x21, cs, rfl, i21, hh⟩ := hh.cons_inv
 obtain ⟨x22, cs, rfl, i22, hh⟩ := hh.cons_inv
 obtain ⟨x23, cs, rfl, i23, hh⟩ := hh.cons_inv
 obtain ⟨x24, cs, rfl, i24, hh⟩ := hh.cons_inv
 obtain ⟨x25, cs, rfl, i25, hh⟩ := hh.cons_inv
 obtain ⟨x26, cs, rfl, i26, hh⟩ := hh.cons_inv
 obtain ⟨x27, cs, rfl, i27, hh⟩ := hh.cons_inv
 obtain ⟨x28, cs, rfl, i28, hh⟩ := hh.cons_inv
 obtain ⟨x29, cs, rfl, i29, hh⟩ := hh.cons_inv
 obtain ⟨x30, cs, rfl, i30, hh⟩ := hh.cons_inv
 obtain ⟨x31, cs, rfl, i31, hh⟩ := hh.cons_inv
 obtain ⟨x32, cs, rfl, i32, hh⟩ := hh.cons_inv
 obtain ⟨x33, cs, rfl, i33, hh⟩ := hh.cons_inv
 obtain ⟨x34, cs, rfl, i34, hh⟩ := hh.cons_inv
 obtain ⟨x35, cs, rfl, i35, hh⟩ := hh.cons_inv
 obtain ⟨x36, cs, rfl, i36, hh⟩ := hh.cons_inv
 obtain ⟨x37, cs, rfl, i37, hh⟩ := hh.cons_inv
 obtain rfl := hh.nil_inv
 obtain ⟨y0, rfl, w0⟩ := i0.int_inv Try.underlying3
 obtain ⟨y1, rfl, w1⟩ := i1.int_inv Try.underlying30
 obtain ⟨y2, rfl, w2⟩ := i2.int_inv Try.underlying5
 obtain ⟨y3, rfl, w3⟩ := i3.int_inv Try.underlying5
 obtain ⟨y4, rfl, w4⟩ := i4.int_inv Try.underlying5
 obtain ⟨y5, rfl, w5⟩ := i5.int_inv Try.underlying5
 obtain ⟨y6, rfl, w6⟩ := i6.int_inv Try.underlying5
 obtain ⟨y7, rfl, w7⟩ := i7.int_inv Try.underlying5
 obtain ⟨y8, rfl, w8⟩ := i8.int_inv Try.underlying5
 obtain ⟨y9, rfl, w9⟩ := i9.int_inv Try.underlying5
 obtain ⟨y10, rfl, w10⟩ := i10.int_inv Try.underlying5
 obtain ⟨y11, rfl, w11⟩ := i11.int_inv Try.underlying5
 obtain ⟨y12, rfl, w12⟩ := i12.int_inv Try.underlying33
 obtain ⟨y13, rfl, w13⟩ := i13.int_inv Try.underlying34
 obtain ⟨y14, rfl, w14⟩ := i14.int_inv Try.underlying35
 obtain ⟨y15, rfl⟩ := i15.bool_inv Try.underlying4
 obtain ⟨y16, rfl, w16⟩ := i16.int_inv Try.underlying35
 obtain ⟨y17, rfl, w17⟩ := i17.int_inv Try.underlying3
 obtain ⟨y18, rfl, w18⟩ := i18.int_inv Try.underlying35
 obtain ⟨y19, rfl, w19⟩ := i19.int_inv Try.underlying33
 obtain ⟨y20, rfl, w20⟩ := i20.int_inv Try.underlying33
 obtain ⟨y21, rfl, w21⟩ := i21.int_inv Try.underlying3
 obtain ⟨y22, rfl, -⟩ := i22.sl_inv Try.underlying40
 obtain ⟨y23, rfl, w23⟩ := i23.int_inv Try.underlying35
 obtain ⟨y24, rfl⟩ := i24.bool_inv Try.underlying4
 obtain ⟨y25, rfl, w25⟩ := i25.int_inv Try.underlying33
 obtain ⟨y26, rfl⟩ := i26.bool_inv Try.underlying4
 obtain ⟨y27, rfl, w27⟩ := i27.int_inv Try.underlying33
 obtain ⟨y28, rfl⟩ := i28.bool_inv Try.underlying4
 obtain ⟨y29, rfl, w29⟩ := i29.int_inv Try.underlying35
 obtain ⟨y30, rfl, -⟩ := i30.sl_inv Try.underlying41
 obtain ⟨y31, rfl, -⟩ := i31.sl_inv Try.underlying42
 obtain ⟨y32, rfl, w32⟩ := i32.int_inv Try.underlying3
 obtain ⟨y33, rfl, w33⟩ := i33.int_inv Try.underlying33
 obtain ⟨y34, rfl, w34⟩ := i34.int_inv Try.underlying35
 obtain ⟨y35, rfl, w35⟩ := i35.int_inv Try.underlying35
 obtain ⟨y36, rfl, w36⟩ := i36.int_inv Try.underlying35
 obtain ⟨y37, rfl⟩ := i37.bool_inv Try.underlying4
 exact ⟨⟨fun i => match i with | 0 => y0 | 1 => y1 | 2 => y2 | 3 => y3 | 4 => y4 | 5 => y5 | 6 => y6 | 7 => y7 | 8 => y8 | 9 => y9 | 10 => y10 | 11 => y11 | 12 => y12 | 13 => y13 | 14 => y14 | 16 => y16 | 17 => y17 | 18 => y18 | 19 => y19 | 20 => y20 | _ => 0, y15, ⟨y21, y23, y25, y27, y29, y32, y33, y34, y35, y24, y26, y28, y22, y30, y31⟩, y36, y37⟩, rfl, wfu32 w36, wfu32 w29⟩
def route0 : Value := .agg #[.int .i64 0, .int .u64 0, .int .u8 0, .int .u8 0, .int .u8 0, .int .u8 0, .int .u8 0, .int .u8 0, .int .u8 0, .int .u8 0, .int .u8 0, .int .u8 0, .int .u32 0, .int .u64 0, .int .u32 0, .bool false, .int .u32 0, .int .i64 0, .int .u32 0, .int .u32 0, .int .u32 0, .int .i64 0, .slice none 0 0, .int .u32 0, .bool false, .int .u32 0, .bool false, .int .u32 0, .bool false, .int .u32 0, .slice none 0 0, .slice none 0 0, .int .i64 0, .int .u32 0, .int .u32 0, .int .u32 0, .int .u32 0, .bool false]
theorem loops_true {r : Rt} {ks : List SV} (hp : 0 ≤ r.p ∧ r.p < 4294967296) (ho : 0 ≤ r.d.orr ∧ r.d.orr < 4294967296) : crun (loops_b [.agg r.cs, .psl 35 ks] []) = some (.bool true, []) := by
 refine (congrArg crun (loops_t r ks)).trans ?_
 cases hl : lgt r with
 | false => rfl
 | true =>
  by_cases hk : (ks.length : Int) > 40
  · rw [decide_eq_true hk]; rfl
  · rw [decide_eq_false hk, Bool.not_true, cond_false, cond_false]
    have hsz : r.d.path.length ≤ 40 ∧ r.d.cl.length ≤ 20 ∧ r.d.cm.length ≤ 80 := by
     unfold lgt at hl
     cases h1 : decide ((r.d.path.length : Int) ≤ 40) with
     | false => rw [h1] at hl; cases hl
     | true =>
      rw [h1, cond_true] at hl
      cases h2 : decide ((r.d.cl.length : Int) ≤ 20) with
      | false => rw [h2] at hl; cases hl
      | true =>
       rw [h2, cond_true] at hl
       have a1 := of_decide_eq_true h1
       have a2 := of_decide_eq_true h2
       have a3 := of_decide_eq_true hl
       omega
    obtain ⟨s1, s2, s3⟩ := hsz
    have main : ∀ f, 0 ≤ f → f < 4294967296 → f = (bif r.d.ho then r.d.orr else r.p) → crun (lawQ ks r f) = some (.bool true, []) := by
     intro f f0 f1 hf
     unfold lawQ
     rw [dec_iff.2 ⟨rfl, ⟨by show r.d.path.length ≤ 1000; omega, by show r.d.cl.length ≤ 1000; omega, by show r.d.cm.length ≤ 1000; omega⟩⟩, cond_true,
      dec_iff.2 ⟨rfl, ⟨by show r.d.path.length ≤ 100; omega, by show r.d.cm.length ≤ 100; omega⟩, by show (r.d.cl.length : Int) ≤ 100 + 0; omega, f0, f1, by omega, by omega, by omega, hf, fun j hj => by omega⟩, cond_true]
     cases retq _ _ _ <;> rfl
    cases hb : r.d.ho with
    | false => exact main _ hp.1 hp.2 (by rw [hb]; rfl)
    | true => exact main _ ho.1 ho.2 (by rw [hb]; rfl)
theorem advertLoops_lifted (os : Os) (started : os.Started) (H : Type) (enc : TypeId × Value → H) :
  ReturnsInHanded {} Try.checked os 4 .any (Rows.advertLoopsSpec.pre6 enc Try.prog Try.f4 Rows.advertLoopsRow.domain false) (Rows.advertLoopsSpec.post enc Try.prog Try.f4 false true false false) := by
 refine returnsInHanded_of_change (C := Try.checked) Try.own started (by kernel_rfl) Try.func4
  (ChangeSpec.witness6 (enc := enc) (C := Try.checked) false ⟨#[], #[route0, .slice none 0 0], []⟩ 8 (by kernel_rfl) (by kernel_rfl) (by kernel_rfl) (by kernel_rfl)) ?_
 intro W base args ds gs before hval0 hW hcnd _
 exact row_true (tb := 4) laidTry mapsTry fullTry (by kernel_rfl) (by kernel_rfl) loops_k rfl Try.underlying4 rfl (fun ss h => by
  rw [Try.params4] at h
  obtain ⟨s0, ss, rfl, h0, h⟩ := h.cons_inv
  obtain ⟨s1, ss, rfl, h1, h⟩ := h.cons_inv
  obtain rfl := h.nil_inv
  obtain ⟨r, rfl, hp, ho⟩ := route_inv h0
  obtain ⟨ks, rfl, -⟩ := h1.sl_inv Try.underlying41
  exact loops_true hp ho) (fun ds h => by
   match ds, h with
   | [d0, d1], _ => rfl) hval0 hW (GlobR.empty (by kernel_rfl))
theorem advertLoops_holds : Rows.AdvertLoopsSaid :=
 OpenClaim.holds_of_wide 4 Try.f4 rfl rfl rfl rfl rfl rfl rfl ⟨rfl, rfl, rfl, rfl, rfl⟩ rfl rfl rfl rfl rfl (by kernel_rfl) Try.func4 (by kernel_rfl)
  (of_decide_eq_true (by kernel_rfl)) (by unfold Func.isWrapper; first | (rw [if_pos (by decide +kernel)]; kernel_rfl) | (rw [if_neg (by decide +kernel)]; exact ⟨rfl, rfl⟩))
  (fun os started H enc _ => advertLoops_lifted os started H enc)
end Go.Proofs.Ytkbbiaobohlogaa
#print axioms Go.Proofs.Ytkbbiaobohlogaa.advertLoops_holds
