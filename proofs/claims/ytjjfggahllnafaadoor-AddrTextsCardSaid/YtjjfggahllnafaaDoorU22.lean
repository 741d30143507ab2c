/- AddrTexts: the row and its card. -/
import Derived.Test.YtjjfggahllnafaaDoorPart4
set_option linter.unusedVariables false
set_option linter.unusedSimpArgs false
namespace Go.Proofs.YtjjfggahllnafaaDoor
open Go.Am Go.ChangeShapes Go.WideShapes Go.ChangeAt Go.RowKit Go.Joins Go.Lib
set_option maxRecDepth 100000
theorem pfx_inv {v : SV} (hv : OkV Tryd.prog 27 v) : ∃ p l, v = .agg [.int .u32 p, .int .i64 l] := by
 obtain ⟨cs, rfl, hh⟩ := hv.agg_inv (by kernel_rfl)
 rw [show leaves Tryd.prog 40 27 = [23, 3] by kernel_rfl] at hh
 obtain ⟨x0, cs, rfl, i0, hh⟩ := hh.cons_inv
 obtain ⟨x1, cs, rfl, i1, hh⟩ := hh.cons_inv
 obtain rfl := hh.nil_inv
 obtain ⟨p, rfl, -⟩ := i0.int_inv Tryd.underlying23
 obtain ⟨l, rfl, -⟩ := i1.int_inv Tryd.underlying3
 exact ⟨p, l, rfl⟩
theorem esi_inv {v : SV} (hv : OkV Tryd.prog 29 v) : ∃ a b c d e f g h i j : Int, v = .agg [.int .u8 a, .int .u8 b, .int .u8 c, .int .u8 d, .int .u8 e, .int .u8 f, .int .u8 g, .int .u8 h, .int .u8 i, .int .u8 j] ∧ bytesI [a, b, c, d, e, f, g, h, i, j] := by
 obtain ⟨cs, rfl, hh⟩ := hv.agg_inv (by kernel_rfl)
 rw [show leaves Tryd.prog 40 29 = [5, 5, 5, 5, 5, 5, 5, 5, 5, 5] by kernel_rfl] at hh
 obtain ⟨x0, cs, rfl, i0, hh⟩ := hh.cons_inv
 obtain ⟨x1, cs, rfl, i1, hh⟩ := hh.cons_inv
 obtain ⟨x2, cs, rfl, i2, hh⟩ := hh.cons_inv
 obtain ⟨x3, cs, rfl, i3, hh⟩ := hh.cons_inv
 obtain ⟨x4, cs, rfl, i4, hh⟩ := hh.cons_inv
 obtain ⟨x5, cs, rfl, i5, hh⟩ := hh.cons_inv
 obtain ⟨x6, cs, rfl, i6, hh⟩ := hh.cons_inv
 obtain ⟨x7, cs, rfl, i7, hh⟩ := hh.cons_inv
 obtain ⟨x8, cs, rfl, i8, hh⟩ := hh.cons_inv
 obtain ⟨x9, cs, rfl, i9, hh⟩ := hh.cons_inv
 obtain rfl := hh.nil_inv
 obtain ⟨a, rfl, w0⟩ := i0.int_inv Tryd.underlying5
 obtain ⟨b, rfl, w1⟩ := i1.int_inv Tryd.underlying5
 obtain ⟨c, rfl, w2⟩ := i2.int_inv Tryd.underlying5
 obtain ⟨d, rfl, w3⟩ := i3.int_inv Tryd.underlying5
 obtain ⟨e, rfl, w4⟩ := i4.int_inv Tryd.underlying5
 obtain ⟨f, rfl, w5⟩ := i5.int_inv Tryd.underlying5
 obtain ⟨g, rfl, w6⟩ := i6.int_inv Tryd.underlying5
 obtain ⟨h, rfl, w7⟩ := i7.int_inv Tryd.underlying5
 obtain ⟨i, rfl, w8⟩ := i8.int_inv Tryd.underlying5
 obtain ⟨j, rfl, w9⟩ := i9.int_inv Tryd.underlying5
 refine ⟨a, b, c, d, e, f, g, h, i, j, rfl, fun x hx => ?_⟩
 simp only [List.mem_cons, List.not_mem_nil, or_false] at hx
 rcases hx with rfl | rfl | rfl | rfl | rfl | rfl | rfl | rfl | rfl | rfl <;> first | exact wf8 w0 | exact wf8 w1 | exact wf8 w2 | exact wf8 w3 | exact wf8 w4 | exact wf8 w5 | exact wf8 w6 | exact wf8 w7 | exact wf8 w8 | exact wf8 w9
def args0 : Array Value := #[.int .u32 0, .int .u64 0, .agg #[.int .u32 0, .int .i64 0], .agg #[.int .u8 0, .int .u8 0, .int .u8 0, .int .u8 0, .int .u8 0, .int .u8 0, .int .u8 0, .int .u8 0, .int .u8 0, .int .u8 0], .string ⟨#[]⟩]
theorem addrTexts_lifted (os : Os) (started : os.Started) (H : Type) (enc : TypeId × Value → H) :
  ReturnsInHanded {} Tryd.checked os 3 .any (fun w args => (Rows.addrTextsSpec.pre enc Tryd.prog Tryd.f3 [] false w args ∧ laidMetH Tryd.prog Rows.addrTextsRow.laid w) ∧ sizedMet enc Tryd.prog Tryd.f3 (OpenSpec.ofChange Rows.addrTextsSpec) false w args)
   (Rows.addrTextsSpec.post enc Tryd.prog Tryd.f3 false true false false) := by
 refine returnsInHanded_of_change_and (C := Tryd.checked) (X := fun w _ => laidMetH Tryd.prog Rows.addrTextsRow.laid w) (fun _ _ _ hh h => h.of_heap hh) Tryd.own started (by kernel_rfl) Tryd.func3
  (ChangeSpec.witness_shaped (enc := enc) (C := Tryd.checked) (os := os) (X := fun w _ => laidMetH Tryd.prog Rows.addrTextsRow.laid w) false (wit os) args0 8 (World.laidAll_os _ _ _)
   (World.shaped_of_ZipB (by kernel_rfl) (by kernel_rfl)) (by kernel_rfl) (by kernel_rfl) (by kernel_rfl)
   (by rw [laidH_eq]; exact wit_met os _)) ?_
 intro W base args ds gs before hval0 hW _ _ hL _
 rw [laidH_eq] at hL
 exact row_true (tb := 4) laidTryd mapsTryd fullTryd (by kernel_rfl) (by kernel_rfl) law_k rfl Tryd.underlying4 rfl (fun ss h => by
  rw [Tryd.params3] at h
  obtain ⟨s0, ss, rfl, h0, h⟩ := h.cons_inv
  obtain ⟨s1, ss, rfl, h1, h⟩ := h.cons_inv
  obtain ⟨s2, ss, rfl, h2, h⟩ := h.cons_inv
  obtain ⟨s3, ss, rfl, h3, h⟩ := h.cons_inv
  obtain ⟨s4, ss, rfl, h4, h⟩ := h.cons_inv
  obtain rfl := h.nil_inv
  obtain ⟨ip, rfl, w0⟩ := h0.int_inv Tryd.underlying23
  obtain ⟨m, rfl, w1⟩ := h1.int_inv Tryd.underlying25
  obtain ⟨p, l, rfl⟩ := pfx_inv h2
  obtain ⟨a, b, c, d, e, f, g, hh, i, j, rfl, w3⟩ := esi_inv h3
  obtain ⟨s, rfl, -⟩ := h4.str_inv Tryd.underlying9
  show crun (.ite (dec (0 ≤ ip ∧ ip < 4294967296 ∧ 0 ≤ m ∧ bytesI [a, b, c, d, e, f, g, hh, i, j])) (.ret (.bool true) []) .fail) = _
  rw [crun_ite, dec_iff.2 ⟨(wf32n w0).1, (wf32n w0).2, (wf64 w1).1, w3⟩]; rfl) (fun ds h => by
   match ds, h with
   | [d0, d1, d2, d3, d4], _ => rfl) hval0 hW (glob_of hL)
theorem addrTexts_row : Rows.AddrTextsSaid :=
 OpenClaim.holds_of_wide 3 Tryd.f3 rfl rfl rfl rfl rfl rfl rfl ⟨rfl, rfl, rfl, rfl, rfl⟩ rfl rfl rfl rfl rfl (by kernel_rfl) Tryd.func3 (by kernel_rfl)
  (of_decide_eq_true (by kernel_rfl)) (by unfold Func.isWrapper; first | (rw [if_pos (by decide +kernel)]; kernel_rfl) | (rw [if_neg (by decide +kernel)]; exact ⟨rfl, rfl⟩))
  (fun os started H enc _ => addrTexts_lifted os started H enc)
theorem addrTexts_holds : Rows.AddrTextsCardSaid :=
 Claim7.holds_tied_plain_at .later [] [.data, .data, .data] true (true, "693e2bc446a2f2e846073dc750e4f36af39b88f81b449f207005d61091157d53") false addrTexts_row (fun _ h => by cases h) (by kernel_rfl) (fun _ h => by cases h) addrTexts_row_tie rfl ⟨rfl, rfl⟩ (by kernel_rfl) rfl
  (fun f fn hf hfn => by
   obtain rfl : f = 3 := Option.some.inj ((show Tryd.prog.funcNamed "leafmesh/leafmeshlaw01.AddrTexts" = some 3 by kernel_rfl).symm.trans hf) |>.symm
   obtain rfl : fn = Tryd.f3 := (Option.some.inj (Tryd.func3.symm.trans hfn)).symm
   exact ⟨by kernel_rfl, fun j t ht => by
    rw [Tryd.params3] at ht
    have hm : t ∈ [23, 25, 27, 29, 9] := by simpa using Array.mem_of_getElem? ht
    have hall : ([23, 25, 27, 29, 9].all fun u => !Tryd.prog.wantsStandIn u) = true := by kernel_rfl
    exact (show Tryd.prog.wantsStandIn t = false by simpa using List.all_eq_true.1 hall t hm)⟩)
  (by kernel_rfl)
end Go.Proofs.YtjjfggahllnafaaDoor
#print axioms Go.Proofs.YtjjfggahllnafaaDoor.addrTexts_holds
