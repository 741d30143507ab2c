/- 'AdvertChanges' answers true, whatever it is handed. No condition. -/
import Derived.Test.YtkbbiaobohlogaaPart12
import Derived.Test.YtkbbiaobohlogaaMachine7
set_option linter.unusedVariables false
set_option linter.unusedSimpArgs false
namespace Go.Proofs.Ytkbbiaobohlogaa
open Go.Am Go.ChangeShapes Go.WideShapes Go.ChangeAt Go.RowKit Go.Joins
set_option maxRecDepth 100000
theorem Try.own : ownKnob Try.prog.godebug = none := by kernel_rfl
theorem laidTry : laidOutB Try.prog = true := by kernel_rfl
theorem mapsTry : mapsRowed Try.prog = true := by kernel_rfl
theorem fullTry : ((List.range Try.prog.types.size).all fun t => match Try.prog.underlying t with | some (.slice e) => decide (0 < Try.prog.cellsOf e) | _ => true) = true := by kernel_rfl
theorem wfu32 {n : Int} (h : (Lit.int .u32 n).wf = true) : 0 ≤ n ∧ n < 4294967296 := by
 simp [Lit.wf, IntKind.min, IntKind.max, IntKind.signed, IntKind.bits] at h; omega
theorem wfu8 {n : Int} (h : (Lit.int .u8 n).wf = true) : 0 ≤ n ∧ n < 256 := by
 simp [Lit.wf, IntKind.min, IntKind.max, IntKind.signed, IntKind.bits] at h; omega
theorem nrm33_ok {l : List SV} (h : ∀ x ∈ l, OkV Try.prog 33 x) : nrm33 l := fun x hx => by
 obtain ⟨n, rfl, -⟩ := (h x hx).int_inv Try.underlying33
 rfl
theorem nrm35_ok {l : List SV} (h : ∀ x ∈ l, OkV Try.prog 35 x) : nrm35 l := fun x hx => by
 obtain ⟨n, rfl, -⟩ := (h x hx).int_inv Try.underlying35
 rfl
theorem nrm80_ok {l : List SV} (h : ∀ x ∈ l, OkV Try.prog 80 x) : nrm80 l := fun x hx => by
 obtain ⟨cs, rfl, hh⟩ := (h x hx).agg_inv (by kernel_rfl)
 rw [show leaves Try.prog 40 80 = [5, 5, 5, 5, 5, 5, 5, 5] by kernel_rfl] at hh
 obtain ⟨x0, cs, rfl, i0, hh⟩ := hh.cons_inv
 obtain ⟨x1, cs, rfl, i1, hh⟩ := hh.cons_inv
 obtain ⟨x2, cs, rfl, i2, hh⟩ := hh.cons_inv
 obtain ⟨x3, cs, rfl, i3, hh⟩ := hh.cons_inv
 obtain ⟨x4, cs, rfl, i4, hh⟩ := hh.cons_inv
 obtain ⟨x5, cs, rfl, i5, hh⟩ := hh.cons_inv
 obtain ⟨x6, cs, rfl, i6, hh⟩ := hh.cons_inv
 obtain ⟨x7, cs, rfl, i7, hh⟩ := hh.cons_inv
 obtain rfl := hh.nil_inv
 obtain ⟨y0, rfl, -⟩ := i0.int_inv Try.underlying5
 obtain ⟨y1, rfl, -⟩ := i1.int_inv Try.underlying5
 obtain ⟨y2, rfl, -⟩ := i2.int_inv Try.underlying5
 obtain ⟨y3, rfl, -⟩ := i3.int_inv Try.underlying5
 obtain ⟨y4, rfl, -⟩ := i4.int_inv Try.underlying5
 obtain ⟨y5, rfl, -⟩ := i5.int_inv Try.underlying5
 obtain ⟨y6, rfl, -⟩ := i6.int_inv Try.underlying5
 obtain ⟨y7, rfl, -⟩ := i7.int_inv Try.underlying5
 rfl
theorem route_inv {v : SV} (hv : OkV Try.prog 48 v) : preOk v := by
 obtain ⟨cs, rfl, hh⟩ := hv.agg_inv (by kernel_rfl)
 rw [show leaves Try.prog 40 48 = [3, 30, 5, 5, 5, 5, 5, 5, 5, 5, 5, 5, 33, 34, 35, 4, 35, 3, 35, 33, 33, 3, 40, 35, 4, 33, 4, 33, 4, 35, 41, 42, 3, 33, 35, 35, 35, 4] by kernel_rfl] at hh
 obtain ⟨x0, cs, rfl, i0, hh⟩ := hh.cons_inv
 obtain ⟨x1, cs, rfl, i1, hh⟩ := hh.cons_inv
 obtain ⟨x2, cs, rfl, i2, hh⟩ := hh.cons_inv
 obtain ⟨x3, cs, rfl, i3, hh⟩ := hh.cons_inv
 obtain ⟨x4, cs, rfl, i4, hh⟩ := hh.cons_inv
 obtain ⟨x5, cs, rfl, i5, hh⟩ := hh.cons_inv
 obtain ⟨x6, cs, rfl, i6, hh⟩ := hh.cons_inv
 obtain ⟨x7, cs, rfl, i7, hh⟩ := hh.cons_inv
 obtain ⟨x8, cs, rfl, i8, hh⟩ := hh.cons_inv
 obtain ⟨x9, cs, rfl, i9, hh⟩ := hh.cons_inv
 obtain ⟨x10, cs, rfl, i10, hh⟩ := hh.cons_inv
 obtain ⟨x11, cs, rfl, i11, hh⟩ := hh.cons_inv
 obtain ⟨x12, cs, rfl, i12, hh⟩ := hh.cons_inv
 obtain ⟨x13, cs, rfl, i13, hh⟩ := hh.cons_inv
 obtain ⟨x14, cs, rfl, i14, hh⟩ := hh.cons_inv
 obtain ⟨x15, cs, rfl, i15, hh⟩ := hh.cons_inv
 obtain ⟨x16, cs, rfl, i16, hh⟩ := hh.cons_inv
 obtain ⟨x17, cs, rfl, i17, hh⟩ := hh.cons_inv
 obtain ⟨x18, cs, rfl, i18, hh⟩ := hh.cons_inv
 obtain ⟨x19, cs, rfl, i19, hh⟩ := hh.cons_inv
 obtain ⟨x20, cs, rfl, i20, hh⟩ := hh.cons_inv
 obtain ⟨x21, cs, rfl, i21, hh⟩ := hh.cons_inv
 obtain ⟨x22, cs, rfl, i22, hh⟩ := hh.cons_inv
 obtain ⟨x23, cs, rfl, i23, hh⟩ := hh.cons_inv
 obtain ⟨x24, cs, rfl, i24, hh⟩ := hh.cons_inv
 obtain ⟨x25, cs, rfl, i25, hh⟩ := hh.cons_inv
 obtain ⟨x26, cs, rfl, i26, hh⟩ := hh.cons_inv
 obtain ⟨x27, cs, rfl, i27, hh⟩ := hh.cons_inv
 obtain ⟨x28, cs, rfl, i28, hh⟩ := hh.cons_inv
 obtain ⟨x29, cs, rfl, i29, hh⟩ := hh.cons_inv
 obtain ⟨x30, cs, rfl, i30, hh⟩ := hh.cons_inv
 obtain ⟨x31, cs, rfl, i31, hh⟩ := hh.cons_inv
 obtain ⟨x32, cs, rfl, i32, hh⟩ := hh.cons_inv
 obtain ⟨x33, cs, rfl, i33, hh⟩ := hh.cons_inv
 obtain ⟨x34, cs, rfl, i34, hh⟩ := hh.cons_inv
 obtain ⟨x35, cs, rfl, i35, hh⟩ := hh.cons_inv
 obtain ⟨x36, cs, rfl, i36, hh⟩ := hh.cons_inv
 obtain ⟨x37, cs, rfl, i37, hh⟩ := hh.cons_inv
 obtain rfl := hh.nil_inv
 obtain ⟨y0, rfl, w0⟩ := i0.int_inv Try.underlying3
 obtain ⟨y1, rfl, w1⟩ := i1.int_inv Try.underlying30
 obtain ⟨y2, rfl, w2⟩ := i2.int_inv Try.underlying5
 obtain ⟨y3, rfl, w3⟩ := i3.int_inv Try.underlying5
 obtain ⟨y4, rfl, w4⟩ := i4.int_inv Try.underlying5
 obtain ⟨y5, rfl, w5⟩ := i5.int_inv Try.underlying5
 obtain ⟨y6, rfl, w6⟩ := i6.int_inv Try.underlying5
 obtain ⟨y7, rfl, w7⟩ := i7.int_inv Try.underlying5
 obtain ⟨y8, rfl, w8⟩ := i8.int_inv Try.underlying5
 obtain ⟨y9, rfl, w9⟩ := i9.int_inv Try.underlying5
 obtain ⟨y10, rfl, w10⟩ := i10.int_inv Try.underlying5
 obtain ⟨y11, rfl, w11⟩ := i11.int_inv Try.underlying5
 obtain ⟨y12, rfl, w12⟩ := i12.int_inv Try.underlying33
 obtain ⟨y13, rfl, w13⟩ := i13.int_inv Try.underlying34
 obtain ⟨y14, rfl, w14⟩ := i14.int_inv Try.underlying35
 obtain ⟨y15, rfl⟩ := i15.bool_inv Try.underlying4
 obtain ⟨y16, rfl, w16⟩ := i16.int_inv Try.underlying35
 obtain ⟨y17, rfl, w17⟩ := i17.int_inv Try.underlying3
 obtain ⟨y18, rfl, w18⟩ := i18.int_inv Try.underlying35
 obtain ⟨y19, rfl, w19⟩ := i19.int_inv Try.underlying33
 obtain ⟨y20, rfl, w20⟩ := i20.int_inv Try.underlying33
 obtain ⟨y21, rfl, w21⟩ := i21.int_inv Try.underlying3
 obtain ⟨y22, rfl, -, g22⟩ := i22.sl_inv Try.underlying40
 obtain ⟨y23, rfl, w23⟩ := i23.int_inv Try.underlying35
 obtain ⟨y24, rfl⟩ := i24.bool_inv Try.underlying4
 obtain ⟨y25, rfl, w25⟩ := i25.int_inv Try.underlying33
 obtain ⟨y26, rfl⟩ := i26.bool_inv Try.underlying4
 obtain ⟨y27, rfl, w27⟩ := i27.int_inv Try.underlying33
 obtain ⟨y28, rfl⟩ := i28.bool_inv Try.underlying4
 obtain ⟨y29, rfl, w29⟩ := i29.int_inv Try.underlying35
 obtain ⟨y30, rfl, -, g30⟩ := i30.sl_inv Try.underlying41
 obtain ⟨y31, rfl, -, g31⟩ := i31.sl_inv Try.underlying42
 obtain ⟨y32, rfl, w32⟩ := i32.int_inv Try.underlying3
 obtain ⟨y33, rfl, w33⟩ := i33.int_inv Try.underlying33
 obtain ⟨y34, rfl, w34⟩ := i34.int_inv Try.underlying35
 obtain ⟨y35, rfl, w35⟩ := i35.int_inv Try.underlying35
 obtain ⟨y36, rfl, w36⟩ := i36.int_inv Try.underlying35
 obtain ⟨y37, rfl⟩ := i37.bool_inv Try.underlying4
 refine ⟨rfl, ⟨fun i a b => ?_, wfu32 w12, wfu32 w14, wfu32 w16, wfu32 w18⟩, nrm33_ok g22, nrm35_ok g30, nrm80_ok g31⟩
 have h3' : i = 2 ∨ i = 3 ∨ i = 4 ∨ i = 5 ∨ i = 6 ∨ i = 7 ∨ i = 8 ∨ i = 9 ∨ i = 10 ∨ i = 11 := by omega
 rcases h3' with rfl | rfl | rfl | rfl | rfl | rfl | rfl | rfl | rfl | rfl
 · exact wfu8 w2
 · exact wfu8 w3
 · exact wfu8 w4
 · exact wfu8 w5
 · exact wfu8 w6
 · exact wfu8 w7
 · exact wfu8 w8
 · exact wfu8 w9
 · exact wfu8 w10
 · exact wfu8 w11
theorem advertChanges_lifted (os : Os) (started : os.Started) (H : Type) (enc : TypeId × Value → H) :
  ReturnsInHanded {} Try.checked os 3 .any (Rows.advertChangesSpec.pre6 enc Try.prog Try.f3 Rows.advertChangesRow.domain false) (Rows.advertChangesSpec.post enc Try.prog Try.f3 false true false false) := by
 refine returnsInHanded_of_change (C := Try.checked) Try.own started (by kernel_rfl) Try.func3
  (ChangeSpec.witness6 (enc := enc) (C := Try.checked) false ⟨#[], #[.slice none 0 0, .slice none 0 0], []⟩ 8 (by kernel_rfl) (by kernel_rfl) (by kernel_rfl) (by kernel_rfl)) ?_
 intro W base args ds gs before hval0 hW hcnd _
 exact row_true (tb := 4) laidTry mapsTry fullTry (by kernel_rfl) (by kernel_rfl) law_k rfl Try.underlying4 rfl (fun ss h => by
  rw [Try.params3] at h
  obtain ⟨s0, ss, rfl, h0, h⟩ := h.cons_inv
  obtain ⟨s1, ss, rfl, h1, h⟩ := h.cons_inv
  obtain rfl := h.nil_inv
  obtain ⟨xs, rfl, l1, g1⟩ := h0.sl_inv Try.underlying22
  obtain ⟨ys, rfl, l2, g2⟩ := h1.sl_inv Try.underlying22
  exact law_true l1 l2 (fun x hx => route_inv (g1 x hx)) (fun y hy => route_inv (g2 y hy))) (fun ds h => by
   match ds, h with
   | [d0, d1], _ => rfl) hval0 hW (GlobR.empty (by kernel_rfl))
theorem advertChanges_holds : Rows.AdvertChangesSaid :=
 OpenClaim.holds_of_wide 3 Try.f3 rfl rfl rfl rfl rfl rfl rfl ⟨rfl, rfl, rfl, rfl, rfl⟩ rfl rfl rfl rfl rfl (by kernel_rfl) Try.func3 (by kernel_rfl)
  (of_decide_eq_true (by kernel_rfl)) (by unfold Func.isWrapper; first | (rw [if_pos (by decide +kernel)]; kernel_rfl) | (rw [if_neg (by decide +kernel)]; exact ⟨rfl, rfl⟩))
  (fun os started H enc _ => advertChanges_lifted os started H enc)
end Go.Proofs.Ytkbbiaobohlogaa
#print axioms Go.Proofs.Ytkbbiaobohlogaa.advertChanges_holds
