/- AddrCalls: the row and its card. -/
import Derived.Test.YtjjfggahllnafaaGreatDoorPart7
set_option linter.unusedVariables false
set_option linter.unusedSimpArgs false
namespace Go.Proofs.YtjjfggahllnafaaGreatDoor
open Go.Am Go.ChangeShapes Go.WideShapes Go.ChangeAt Go.RowKit Go.Joins Go.Lib
set_option maxRecDepth 100000
theorem pfx_inv {v : SV} (hv : OkV Tryz.prog 27 v) : ∃ p l, v = .agg [.int .u32 p, .int .i64 l] ∧ u32B p = true := by
 obtain ⟨cs, rfl, hh⟩ := hv.agg_inv (by kernel_rfl)
 rw [show leaves Tryz.prog 40 27 = [23, 3] by kernel_rfl] at hh
 obtain ⟨x0, cs, rfl, i0, hh⟩ := hh.cons_inv
 obtain ⟨x1, cs, rfl, i1, hh⟩ := hh.cons_inv
 obtain rfl := hh.nil_inv
 obtain ⟨p, rfl, wp⟩ := i0.int_inv Tryz.underlying23
 obtain ⟨l, rfl, -⟩ := i1.int_inv Tryz.underlying3
 exact ⟨p, l, rfl, u32B_iff.2 (wf32n wp)⟩
theorem esi_inv {v : SV} (hv : OkV Tryz.prog 29 v) : ∃ a b c d e f g h i j : Int, v = .agg [.int .u8 a, .int .u8 b, .int .u8 c, .int .u8 d, .int .u8 e, .int .u8 f, .int .u8 g, .int .u8 h, .int .u8 i, .int .u8 j] ∧ bytesI [a, b, c, d, e, f, g, h, i, j] := by
 obtain ⟨cs, rfl, hh⟩ := hv.agg_inv (by kernel_rfl)
 rw [show leaves Tryz.prog 40 29 = [5, 5, 5, 5, 5, 5, 5, 5, 5, 5] by kernel_rfl] at hh
 obtain ⟨x0, cs, rfl, i0, hh⟩ := hh.cons_inv
 obtain ⟨x1, cs, rfl, i1, hh⟩ := hh.cons_inv
 obtain ⟨x2, cs, rfl, i2, hh⟩ := hh.cons_inv
 obtain ⟨x3, cs, rfl, i3, hh⟩ := hh.cons_inv
 obtain ⟨x4, cs, rfl, i4, hh⟩ := hh.cons_inv
 obtain ⟨x5, cs, rfl, i5, hh⟩ := hh.cons_inv
 obtain ⟨x6, cs, rfl, i6, hh⟩ := hh.cons_inv
 obtain ⟨x7, cs, rfl, i7, hh⟩ := hh.cons_inv
 obtain ⟨x8, cs, rfl, i8, hh⟩ := hh.cons_inv
 obtain ⟨x9, cs, rfl, i9, hh⟩ := hh.cons_inv
 obtain rfl := hh.nil_inv
 obtain ⟨a, rfl, w0⟩ := i0.int_inv Tryz.underlying5
 obtain ⟨b, rfl, w1⟩ := i1.int_inv Tryz.underlying5
 obtain ⟨c, rfl, w2⟩ := i2.int_inv Tryz.underlying5
 obtain ⟨d, rfl, w3⟩ := i3.int_inv Tryz.underlying5
 obtain ⟨e, rfl, w4⟩ := i4.int_inv Tryz.underlying5
 obtain ⟨f, rfl, w5⟩ := i5.int_inv Tryz.underlying5
 obtain ⟨g, rfl, w6⟩ := i6.int_inv Tryz.underlying5
 obtain ⟨h, rfl, w7⟩ := i7.int_inv Tryz.underlying5
 obtain ⟨i, rfl, w8⟩ := i8.int_inv Tryz.underlying5
 obtain ⟨j, rfl, w9⟩ := i9.int_inv Tryz.underlying5
 refine ⟨a, b, c, d, e, f, g, h, i, j, rfl, fun x hx => ?_⟩
 simp only [List.mem_cons, List.not_mem_nil, or_false] at hx
 rcases hx with rfl | rfl | rfl | rfl | rfl | rfl | rfl | rfl | rfl | rfl <;> first | exact wf8 w0 | exact wf8 w1 | exact wf8 w2 | exact wf8 w3 | exact wf8 w4 | exact wf8 w5 | exact wf8 w6 | exact wf8 w7 | exact wf8 w8 | exact wf8 w9
def e0 : Value := .agg #[.int .u8 0, .int .u8 0, .int .u8 0, .int .u8 0, .int .u8 0, .int .u8 0, .int .u8 0, .int .u8 0, .int .u8 0, .int .u8 0]
def p0 : Value := .agg #[.int .u32 0, .int .i64 0]
def args0 : Array Value := #[.int .i64 0, .int .u32 0, .int .u64 0, p0, p0, e0, e0, .string ⟨#[]⟩]
theorem addrCalls_lifted (os : Os) (started : os.Started) (H : Type) (enc : TypeId × Value → H) :
  ReturnsInHanded {} Tryz.checked os 3 .any (fun w args => (Rows.addrCallsSpec.pre enc Tryz.prog Tryz.f3 [] false w args ∧ laidMetH Tryz.prog Rows.addrCallsRow.laid w) ∧ sizedMet enc Tryz.prog Tryz.f3 (OpenSpec.ofChange Rows.addrCallsSpec) false w args)
   (Rows.addrCallsSpec.post enc Tryz.prog Tryz.f3 false true false false) := by
 refine returnsInHanded_of_change_and (C := Tryz.checked) (X := fun w _ => laidMetH Tryz.prog Rows.addrCallsRow.laid w) (fun _ _ _ hh h => h.of_heap hh) Tryz.own started (by kernel_rfl) Tryz.func3
  (ChangeSpec.witness_shaped (enc := enc) (C := Tryz.checked) (os := os) (X := fun w _ => laidMetH Tryz.prog Rows.addrCallsRow.laid w) false (wit os) args0 8 (World.laidAll_os _ _ _)
   (World.shaped_of_ZipB (by kernel_rfl) (by kernel_rfl)) (by kernel_rfl) (by kernel_rfl) (by kernel_rfl)
   (by rw [laidH_eq]; exact wit_met os _)) ?_
 intro W base args ds gs before hval0 hW _ _ hL _
 rw [laidH_eq] at hL
 exact row_true (tb := 4) laidTryz mapsTryz fullTryz (by kernel_rfl) (by kernel_rfl) law_k rfl Tryz.underlying4 rfl (fun ss h => by
  rw [Tryz.params3] at h
  obtain ⟨s0, ss, rfl, h0, h⟩ := h.cons_inv
  obtain ⟨s1, ss, rfl, h1, h⟩ := h.cons_inv
  obtain ⟨s2, ss, rfl, h2, h⟩ := h.cons_inv
  obtain ⟨s3, ss, rfl, h3, h⟩ := h.cons_inv
  obtain ⟨s4, ss, rfl, h4, h⟩ := h.cons_inv
  obtain ⟨s5, ss, rfl, h5, h⟩ := h.cons_inv
  obtain ⟨s6, ss, rfl, h6, h⟩ := h.cons_inv
  obtain ⟨s7, ss, rfl, h7, h⟩ := h.cons_inv
  obtain rfl := h.nil_inv
  obtain ⟨n, rfl, -⟩ := h0.int_inv Tryz.underlying3
  obtain ⟨ip, rfl, w1⟩ := h1.int_inv Tryz.underlying23
  obtain ⟨m, rfl, -⟩ := h2.int_inv Tryz.underlying25
  obtain ⟨p, l, rfl, w3⟩ := pfx_inv h3
  obtain ⟨q, l', rfl, w4⟩ := pfx_inv h4
  obtain ⟨a, b, c, d, e, f, g, hh, i, j, rfl, w5⟩ := esi_inv h5
  obtain ⟨a', b', c', d', e', f', g', hh', i', j', rfl, w6⟩ := esi_inv h6
  obtain ⟨s, rfl, -⟩ := h7.str_inv Tryz.underlying9
  show crun (.ite (dec (u32B ip = true ∧ u32B p = true ∧ u32B q = true ∧ bytesI [a, b, c, d, e, f, g, hh, i, j] ∧ bytesI [a', b', c', d', e', f', g', hh', i', j'])) (.ret (.bool true) []) .fail) = _
  rw [crun_ite, dec_iff.2 ⟨u32B_iff.2 (wf32n w1), w3, w4, w5, w6⟩]; rfl) (fun ds h => by
   match ds, h with
   | [d0, d1, d2, d3, d4, d5, d6, d7], _ => rfl) hval0 hW (glob_of hL)
theorem addrCalls_row : Rows.AddrCallsSaid :=
 OpenClaim.holds_of_wide 3 Tryz.f3 rfl rfl rfl rfl rfl rfl rfl ⟨rfl, rfl, rfl, rfl, rfl⟩ rfl rfl rfl rfl rfl (by kernel_rfl) Tryz.func3 (by kernel_rfl)
  (of_decide_eq_true (by kernel_rfl)) (by unfold Func.isWrapper; first | (rw [if_pos (by decide +kernel)]; kernel_rfl) | (rw [if_neg (by decide +kernel)]; exact ⟨rfl, rfl⟩))
  (fun os started H enc _ => addrCalls_lifted os started H enc)
theorem addrCalls_holds : Rows.AddrCallsCardSaid :=
 Claim7.holds_tied_plain_at .later [] [.data, .data, .data] true (true, "2dcddc156f20d59453428d52c1766cee45c15e272d7d6f0e3a1920314252cbc1") false addrCalls_row (fun _ h => by cases h) (by kernel_rfl) (fun _ h => by cases h) addrCalls_row_tie rfl ⟨rfl, rfl⟩ (by kernel_rfl) rfl
  (fun f fn hf hfn => by
   obtain rfl : f = 3 := Option.some.inj ((show Tryz.prog.funcNamed "leafmesh/leafmeshlaw01.AddrCalls" = some 3 by kernel_rfl).symm.trans hf) |>.symm
   obtain rfl : fn = Tryz.f3 := (Option.some.inj (Tryz.func3.symm.trans hfn)).symm
   exact ⟨by kernel_rfl, fun j t ht => by
    rw [Tryz.params3] at ht
    have hm : t ∈ [3, 23, 25, 27, 27, 29, 29, 9] := by simpa using Array.mem_of_getElem? ht
    have hall : ([3, 23, 25, 27, 27, 29, 29, 9].all fun u => !Tryz.prog.wantsStandIn u) = true := by kernel_rfl
    exact (show Tryz.prog.wantsStandIn t = false by simpa using List.all_eq_true.1 hall t hm)⟩)
  (by kernel_rfl)
end Go.Proofs.YtjjfggahllnafaaGreatDoor
#print axioms Go.Proofs.YtjjfggahllnafaaGreatDoor.addrCalls_holds
