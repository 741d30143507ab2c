/- The law ScriptLines answers true, whatever string and whatever command it is handed: its row and its card. No condition but what the row lists. -/
import Derived.Test.YtpelignoebgkbaaGreatDoorPart13
import Derived.ChangeSame
import Derived.ChangeVars
import Derived.RowKit
import Derived.LaidLaws
import Derived.MakeChecks
import Derived.Lib.LaidTab
import Derived.Lay
import Derived.SevenTiedAt
import Derived.Test.YtpelignoebgkbaaGreatDoorTie
import Derived.Test.YtpelignoebgkbaaGreatDoorCards
set_option linter.unusedVariables false
set_option linter.unusedSimpArgs false
namespace Go.Proofs.YtpelignoebgkbaaGreatDoor
open Go.Am Go.ChangeShapes Go.WideShapes Go.ChangeAt Go.RowKit Go.Joins Go.Lib
set_option maxRecDepth 100000
theorem Tryz.own : ownKnob Tryz.prog.godebug = none := by kernel_rfl
theorem laidTryz : laidOutB Tryz.prog = true := by kernel_rfl
theorem mapsTryz : mapsRowed Tryz.prog = true := by kernel_rfl
theorem fullTryz : ((List.range Tryz.prog.types.size).all fun t => match Tryz.prog.underlying t with | some (.slice e) => decide (0 < Tryz.prog.cellsOf e) | _ => true) = true := by kernel_rfl
theorem cmd_inv {v : SV} (hv : OkV Tryz.prog 27 v) : ∃ k a b c up m i d, v = .agg [.int .i64 k, .int .i64 a, .int .i64 b, .int .i64 c, .bool up, .int .u64 m, .int .u32 i, .int .u64 d] ∧ (Lit.int .i64 a).wf = true ∧ (Lit.int .i64 b).wf = true ∧ (Lit.int .i64 c).wf = true ∧ (Lit.int .u64 m).wf = true ∧ (Lit.int .u32 i).wf = true ∧ (Lit.int .u64 d).wf = true := by
 obtain ⟨cs, rfl, hh⟩ := hv.agg_inv (by kernel_rfl)
 rw [show leaves Tryz.prog 40 27 = [3, 3, 3, 3, 4, 23, 25, 22] by kernel_rfl] at hh
 obtain ⟨x0, cs, rfl, i0, hh⟩ := hh.cons_inv
 obtain ⟨x1, cs, rfl, i1, hh⟩ := hh.cons_inv
 obtain ⟨x2, cs, rfl, i2, hh⟩ := hh.cons_inv
 obtain ⟨x3, cs, rfl, i3, hh⟩ := hh.cons_inv
 obtain ⟨x4, cs, rfl, i4, hh⟩ := hh.cons_inv
 obtain ⟨x5, cs, rfl, i5, hh⟩ := hh.cons_inv
 obtain ⟨x6, cs, rfl, i6, hh⟩ := hh.cons_inv
 obtain ⟨x7, cs, rfl, i7, hh⟩ := hh.cons_inv
 obtain rfl := hh.nil_inv
 obtain ⟨k, rfl, w0⟩ := i0.int_inv Tryz.underlying3
 obtain ⟨a, rfl, w1⟩ := i1.int_inv Tryz.underlying3
 obtain ⟨b, rfl, w2⟩ := i2.int_inv Tryz.underlying3
 obtain ⟨c, rfl, w3⟩ := i3.int_inv Tryz.underlying3
 obtain ⟨up, rfl⟩ := i4.bool_inv Tryz.underlying4
 obtain ⟨m, rfl, w5⟩ := i5.int_inv Tryz.underlying23
 obtain ⟨i, rfl, w6⟩ := i6.int_inv Tryz.underlying25
 obtain ⟨d, rfl, w7⟩ := i7.int_inv Tryz.underlying22
 exact ⟨k, a, b, c, up, m, i, d, rfl, w1, w2, w3, w5, w6, w7⟩
def cmd0 : Value := .agg #[.int .i64 0, .int .i64 0, .int .i64 0, .int .i64 0, .bool false, .int .u64 0, .int .u32 0, .int .u64 0]
theorem wfi64 {n : Int} (h : (Lit.int .i64 n).wf = true) : -9223372036854775808 ≤ n ∧ n ≤ 9223372036854775807 := by
 simp [Lit.wf, IntKind.min, IntKind.max, IntKind.signed, IntKind.bits] at h; omega
theorem wfu32 {n : Int} (h : (Lit.int .u32 n).wf = true) : u32B n = true := by
 rw [u32B_iff]
 simp [Lit.wf, IntKind.min, IntKind.max, IntKind.signed, IntKind.bits] at h; omega
theorem wfu64 {n : Int} (h : (Lit.int .u64 n).wf = true) : 0 ≤ n ∧ n ≤ 18446744073709551615 := by
 simp [Lit.wf, IntKind.min, IntKind.max, IntKind.signed, IntKind.bits] at h; omega
noncomputable def pgT : TypeId := ((Tryz.prog.globals[pg]?).map (·.type)).getD 0
noncomputable def pgE : TypeId := match Tryz.prog.underlying pgT with | some (.array _ e) => e | _ => 0
theorem pg_t : (Tryz.prog.globals[pg]?).map (·.type) = some pgT := by kernel_rfl
theorem pg_u : Tryz.prog.underlying pgT = some (.array 20 pgE) := by kernel_rfl
theorem pg_e : Tryz.prog.underlying pgE = some (.int .u64) := by kernel_rfl
theorem pg_c : Tryz.prog.cellsOf pgE = 1 := by kernel_rfl
theorem pg_k : Tryz.prog.cellsOf pgT = 20 := by kernel_rfl
theorem glob_of {W : World} (h : laidMet Tryz.prog Rows.scriptLinesRow.laid W) : GlobR Tryz.prog W (Old W) := by
 obtain ⟨ps, ⟨_, _, _, _, _, _, _, _, _, _, ⟨_, _, _, _, _, _, _, _, _, _, ⟨g', t', cs, fuel, p, q, hg', ht', hvar, hd, _, _⟩, _⟩, _⟩, _⟩ := h
 obtain rfl := Option.some.inj (pg_n.symm.trans hg')
 obtain rfl := Option.some.inj (pg_t.symm.trans ht')
 have hcs := cells_of_tab (zs := Lib.pow10Tab) pg_u pg_e pg_c pg_k hd
 intro e he
 rw [gtab_eq, List.mem_singleton] at he
 subst he
 simp only [World.var?, pg_n, Option.bind_some] at hvar
 split at hvar
 · rename_i c t fr hb
   cases hvar
   refine ⟨?_, t, fr, ?_⟩
   · show pg < W.heap.size
     rcases Nat.lt_or_ge pg W.heap.size with hlt | hge
     · exact hlt
     · rw [Array.getElem?_eq_none hge] at hb; cases hb
   · show W.heap[pg]? = _
     rw [hb]
     congr 2
     rw [← Array.toArray_toList (xs := cs), hcs]
     simp [List.map_map, Function.comp_def]
 · cases hvar
theorem liH_eq (W : World) : laidMetH Tryz.prog Rows.scriptLinesRow.laid W = laidMet Tryz.prog Rows.scriptLinesRow.laid W := MakeChecks.laidMetH_plain _ _ _ (by kernel_rfl)
noncomputable def liWit (os : Os) : World := World.laidAll Tryz.prog os Rows.scriptLinesRow.laid
theorem liWit_met (os : Os) (args : Array Value) : laidMet Tryz.prog Rows.scriptLinesRow.laid ((liWit os).forCall (fun _ _ => 0) ⟨#[], args, []⟩).memory := laidMet_laidAll _ (by kernel_rfl) (by kernel_rfl)
theorem scriptLines_lifted (os : Os) (started : os.Started) (H : Type) (enc : TypeId × Value → H) :
  ReturnsInHanded {} Tryz.checked os 3 .any (fun w args => (Rows.scriptLinesSpec.pre enc Tryz.prog Tryz.f3 [] false w args ∧ laidMetH Tryz.prog Rows.scriptLinesRow.laid w) ∧ sizedMet enc Tryz.prog Tryz.f3 (OpenSpec.ofChange Rows.scriptLinesSpec) false w args)
   (Rows.scriptLinesSpec.post enc Tryz.prog Tryz.f3 false true false false) := by
 refine returnsInHanded_of_change_and (C := Tryz.checked) (X := fun w _ => laidMetH Tryz.prog Rows.scriptLinesRow.laid w) (fun _ _ _ hh h => h.of_heap hh) Tryz.own started (by kernel_rfl) Tryz.func3
  (ChangeSpec.witness_shaped (enc := enc) (C := Tryz.checked) (os := os) (X := fun w _ => laidMetH Tryz.prog Rows.scriptLinesRow.laid w) false (liWit os) #[.string ⟨#[]⟩, cmd0] 8 (World.laidAll_os _ _ _)
   (World.shaped_of_ZipB (by kernel_rfl) (by kernel_rfl)) (by kernel_rfl) (by kernel_rfl) (by kernel_rfl)
   (by rw [liH_eq]; exact liWit_met os _)) ?_
 intro W base args ds gs before hval0 hW _ _ hL _
 rw [liH_eq] at hL
 exact row_true (tb := 4) laidTryz mapsTryz fullTryz (by kernel_rfl) (by kernel_rfl) lines_k rfl Tryz.underlying4 rfl (fun ss h => by
  rw [Tryz.params3] at h
  obtain ⟨s0, ss, rfl, h0, h⟩ := h.cons_inv
  obtain ⟨s1, ss, rfl, h1, h⟩ := h.cons_inv
  obtain rfl := h.nil_inv
  obtain ⟨k, a, b, c, up, m, i, d, rfl, w1, w2, w3, w5, w6, w7⟩ := cmd_inv h1
  obtain ⟨s, rfl, -⟩ := h0.str_inv Tryz.underlying9
  exact (congrArg crun (lines_t ⟨k, a, b, c, up, m, i, d⟩ s)).trans (lin_true ⟨wfi64 w1, wfi64 w2, octI_rng i, wfu64 w7⟩ ⟨wfi64 w1, wfi64 w2, wfu32 w6⟩)) (fun ds h => by
   match ds, h with
   | [d0, d1], _ => rfl) hval0 hW (glob_of hL)
theorem scriptLines_row : Rows.ScriptLinesSaid :=
 OpenClaim.holds_of_wide 3 Tryz.f3 rfl rfl rfl rfl rfl rfl rfl ⟨rfl, rfl, rfl, rfl, rfl⟩ rfl rfl rfl rfl rfl (by kernel_rfl) Tryz.func3 (by kernel_rfl)
  (of_decide_eq_true (by kernel_rfl)) (by unfold Func.isWrapper; first | (rw [if_pos (by decide +kernel)]; kernel_rfl) | (rw [if_neg (by decide +kernel)]; exact ⟨rfl, rfl⟩))
  (fun os started H enc _ => scriptLines_lifted os started H enc)
theorem scriptLines_holds : Rows.ScriptLinesCardSaid :=
 Claim7.holds_tied_plain_at .later [] [.data, .data, .data, .data, .pinned] true (true, "2d378065a414dd8eed7516c52efef146901d17d10971fcdc54e2b6154b553a30") true scriptLines_row (fun _ h => by cases h) (by kernel_rfl) (fun _ h => by cases h) scriptLines_row_tie rfl ⟨rfl, rfl⟩ (by kernel_rfl) rfl
  (fun f fn hf hfn => by
   obtain rfl : f = 3 := Option.some.inj ((show Tryz.prog.funcNamed "leafmesh/leafmeshlaw39.ScriptLines" = some 3 by kernel_rfl).symm.trans hf) |>.symm
   obtain rfl : fn = Tryz.f3 := (Option.some.inj (Tryz.func3.symm.trans hfn)).symm
   exact ⟨by kernel_rfl, fun j t ht => by
    rw [Tryz.params3] at ht
    have hm : t ∈ [9, 27] := by simpa using Array.mem_of_getElem? ht
    have hall : ([9, 27].all fun u => !Tryz.prog.wantsStandIn u) = true := by kernel_rfl
    exact (show Tryz.prog.wantsStandIn t = false by simpa using List.all_eq_true.1 hall t hm)⟩)
  (by kernel_rfl)
end Go.Proofs.YtpelignoebgkbaaGreatDoor
#print axioms Go.Proofs.YtpelignoebgkbaaGreatDoor.scriptLines_holds
