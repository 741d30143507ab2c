/- 'SpeakerNames': single calls of a speaker. -/
import Derived.Test.YtglklakklmpodaaGreatPart2
import Derived.Test.YtglklakklmpodaaGreatPart3
import Derived.Test.YtglklakklmpodaaGreatPart4
import Derived.Test.YtglklakklmpodaaGreatPart1
import Derived.ProofKit
set_option linter.unusedVariables false
set_option linter.unusedSimpArgs false
namespace Go.Proofs.YtglklakklmpodaaGreat
open Go.Am
set_option maxRecDepth 100000
def ent15_5 : MEnt := ⟨[.agg [.int .u32 (1), .int .u32 (0), .bool false, .bool false, .nils, .int .i64 (0), .int .i64 (0), .int .i64 (0)], .int .i64 (-1)], [], .tup [.nilp, .int .i64 (2)], []⟩
theorem run15_5 : callK κ1 15 ent15_5.args ent15_5.H = some (ent15_5.v, ent15_5.ups) := by kernel_rfl
def ent17_2 : MEnt := ⟨[.ptr 0 0, .int .u32 (9), .int .i64 (0)], [(0, .cells 89 [.nils, .int .u32 (1), .int .u32 (77), .bool false, .bool false, .qs 1 3 0 1, .int .i64 (9), .int .i64 (2), .int .i64 (0), .nils, .qs 2 38 0 1, .ptr 3 0, .qs 5 2 0 9, .qs 6 38 0 1, .qs 7 1 0 1, .bool false]), (1, .seq 67 [.agg [.int .u32 (2), .bool false, .bool true]]), (2, .seq 61 [.agg [.int .i64 (3), .int .u64 (281474976710657), .int .u8 (0), .int .u8 (0), .int .u8 (0), .int .u8 (0), .int .u8 (0), .int .u8 (0), .int .u8 (0), .int .u8 (0), .int .u8 (0), .int .u8 (0), .int .u32 (0), .int .u64 (0), .int .u32 (11), .bool true, .int .u32 (0), .int .i64 (0), .int .u32 (0), .int .u32 (0), .int .u32 (0), .int .i64 (0), .psl 34 [], .int .u32 (1), .bool false, .int .u32 (0), .bool true, .int .u32 (100), .bool false, .int .u32 (0), .psl 35 [], .psl 149 [], .int .i64 (0), .int .u32 (0), .int .u32 (0), .int .u32 (0), .int .u32 (0), .bool false]]), (3, .cells 155 [.int .i64 (65536), .mp 4]), (4, .mpn [] 0 [] []), (5, .seq 130 [.agg [.int .u32 (1), .int .i64 (1)], .agg [.int .u32 (2), .int .i64 (1)], .agg [.int .u32 (3), .int .i64 (1)], .agg [.int .u32 (4), .int .i64 (1)], .agg [.int .u32 (5), .int .i64 (1)], .agg [.int .u32 (6), .int .i64 (1)], .agg [.int .u32 (7), .int .i64 (1)], .agg [.int .u32 (8), .int .i64 (1)], .agg [.int .u32 (9), .int .i64 (1)]]), (6, .seq 61 [.agg [.int .i64 (3), .int .u64 (281474976710657), .int .u8 (0), .int .u8 (0), .int .u8 (0), .int .u8 (0), .int .u8 (0), .int .u8 (0), .int .u8 (0), .int .u8 (0), .int .u8 (0), .int .u8 (0), .int .u32 (0), .int .u64 (0), .int .u32 (11), .bool true, .int .u32 (0), .int .i64 (0), .int .u32 (0), .int .u32 (0), .int .u32 (0), .int .i64 (0), .psl 34 [], .int .u32 (1), .bool false, .int .u32 (0), .bool true, .int .u32 (100), .bool false, .int .u32 (0), .psl 35 [], .psl 149 [], .int .i64 (0), .int .u32 (0), .int .u32 (0), .int .u32 (0), .int .u32 (0), .bool false]]), (7, .sqp 90 [.ptr 8 0]), (8, .cells 93 [.int .i64 (1), .int .u32 (65000), .int .u32 (1), .int .u32 (2), .int .i64 (9), .int .i64 (2), .int .i64 (0), .bool true, .bool false, .int .u32 (0), .int .i64 (0), .int .u32 (0), .int .i64 (0), .bool false, .int .i64 (0), .int .i64 (-1), .int .i64 (-1), .int .i64 (-1), .nils, .nils, .bool false, .bool true, .bool false, .int .i64 (-1)])], .int .i64 (8), []⟩
theorem run17_2 : callK (tbl [(17, dq17)]) 17 ent17_2.args ent17_2.H = some (ent17_2.v, ent17_2.ups) := by kernel_rfl
def ent19_3 : MEnt := ⟨[.ptr 0 0, .int .u32 (1), .psl 5 [.int .u8 (255), .int .u8 (255), .int .u8 (255), .int .u8 (255), .int .u8 (255), .int .u8 (255), .int .u8 (255), .int .u8 (255), .int .u8 (255), .int .u8 (255), .int .u8 (255), .int .u8 (255), .int .u8 (255), .int .u8 (255), .int .u8 (255), .int .u8 (255), .int .u8 (0), .int .u8 (19), .int .u8 (4)], .int .i64 (0)], [(0, .cells 89 [.nils, .int .u32 (2), .int .u32 (77), .bool false, .bool false, .qs 1 3 0 1, .int .i64 (9), .int .i64 (2), .int .i64 (0), .nils, .nils, .ptr 2 0, .qs 4 2 0 9, .nils, .qs 5 1 0 1, .bool false]), (1, .seq 67 [.agg [.int .u32 (1), .bool false, .bool false]]), (2, .cells 155 [.int .i64 (65536), .mp 3]), (3, .mpn [] 0 [] []), (4, .seq 130 [.agg [.int .u32 (1), .int .i64 (1)], .agg [.int .u32 (2), .int .i64 (1)], .agg [.int .u32 (3), .int .i64 (1)], .agg [.int .u32 (4), .int .i64 (1)], .agg [.int .u32 (5), .int .i64 (1)], .agg [.int .u32 (6), .int .i64 (1)], .agg [.int .u32 (7), .int .i64 (1)], .agg [.int .u32 (8), .int .i64 (1)], .agg [.int .u32 (9), .int .i64 (1)]]), (5, .sqp 90 [.ptr 6 0]), (6, .cells 93 [.int .i64 (3), .int .u32 (65000), .int .u32 (2), .int .u32 (1), .int .i64 (9), .int .i64 (2), .int .i64 (0), .bool false, .bool false, .int .u32 (65000), .int .i64 (9), .int .u32 (1), .int .i64 (0), .bool false, .int .i64 (9), .int .i64 (9), .int .i64 (3), .int .i64 (-1), .nils, .nils, .bool false, .bool false, .bool false, .int .i64 (-1)])], .int .i64 (0), [(0, some (.cells 89 [.qs 7 3 0 1, .int .u32 (2), .int .u32 (77), .bool false, .bool false, .qs 1 3 0 1, .int .i64 (9), .int .i64 (2), .int .i64 (0), .nils, .nils, .ptr 2 0, .qs 4 2 0 9, .nils, .qs 5 1 0 1, .bool false])), (6, some (.cells 93 [.int .i64 (4), .int .u32 (65000), .int .u32 (2), .int .u32 (1), .int .i64 (9), .int .i64 (2), .int .i64 (0), .bool false, .bool false, .int .u32 (65000), .int .i64 (9), .int .u32 (1), .int .i64 (0), .bool false, .int .i64 (9), .int .i64 (9), .int .i64 (3), .int .i64 (-1), .nils, .nils, .bool false, .bool false, .bool false, .int .i64 (-1)])), (7, some (.seq 102 [.agg [.int .u32 (1), .psl 5 [.int .u8 (255), .int .u8 (255), .int .u8 (255), .int .u8 (255), .int .u8 (255), .int .u8 (255), .int .u8 (255), .int .u8 (255), .int .u8 (255), .int .u8 (255), .int .u8 (255), .int .u8 (255), .int .u8 (255), .int .u8 (255), .int .u8 (255), .int .u8 (255), .int .u8 (0), .int .u8 (29), .int .u8 (2), .int .u8 (0), .int .u8 (0), .int .u8 (0), .int .u8 (6), .int .u8 (128), .int .u8 (15), .int .u8 (3), .int .u8 (0), .int .u8 (25), .int .u8 (70)], .bool false]]))]⟩
theorem run19_3 : callK (tbl [(19, dq19)]) 19 ent19_3.args ent19_3.H = some (ent19_3.v, ent19_3.ups) := by kernel_rfl
def ent20_1 : MEnt := ⟨[.ptr 0 0, .qs 6 2 0 9], [(0, .cells 89 [.nils, .int .u32 (2), .int .u32 (77), .bool false, .bool false, .qs 1 3 0 1, .int .i64 (9), .int .i64 (2), .int .i64 (0), .nils, .nils, .ptr 2 0, .nils, .nils, .qs 4 1 0 1, .bool false]), (1, .seq 67 [.agg [.int .u32 (1), .bool false, .bool false]]), (2, .cells 155 [.int .i64 (65536), .mp 3]), (3, .mpn [] 0 [] []), (4, .sqp 90 [.ptr 5 0]), (5, .cells 93 [.int .i64 (1), .int .u32 (65000), .int .u32 (2), .int .u32 (1), .int .i64 (9), .int .i64 (2), .int .i64 (0), .bool false, .bool false, .int .u32 (0), .int .i64 (0), .int .u32 (0), .int .i64 (0), .bool false, .int .i64 (0), .int .i64 (-1), .int .i64 (-1), .int .i64 (2), .nils, .nils, .bool true, .bool false, .bool false, .int .i64 (-1)]), (6, .seq 130 [.agg [.int .u32 (1), .int .i64 (1)], .agg [.int .u32 (2), .int .i64 (1)], .agg [.int .u32 (3), .int .i64 (1)], .agg [.int .u32 (4), .int .i64 (1)], .agg [.int .u32 (5), .int .i64 (1)], .agg [.int .u32 (6), .int .i64 (1)], .agg [.int .u32 (7), .int .i64 (1)], .agg [.int .u32 (8), .int .i64 (1)], .agg [.int .u32 (9), .int .i64 (1)]])], .int .i64 (0), [(0, some (.cells 89 [.nils, .int .u32 (2), .int .u32 (77), .bool false, .bool false, .qs 1 3 0 1, .int .i64 (9), .int .i64 (2), .int .i64 (0), .nils, .nils, .ptr 2 0, .qs 7 2 0 9, .nils, .qs 4 1 0 1, .bool false])), (7, some (.seq 130 [.agg [.int .u32 (1), .int .i64 (1)], .agg [.int .u32 (2), .int .i64 (1)], .agg [.int .u32 (3), .int .i64 (1)], .agg [.int .u32 (4), .int .i64 (1)], .agg [.int .u32 (5), .int .i64 (1)], .agg [.int .u32 (6), .int .i64 (1)], .agg [.int .u32 (7), .int .i64 (1)], .agg [.int .u32 (8), .int .i64 (1)], .agg [.int .u32 (9), .int .i64 (1)]]))]⟩
theorem run20_1 : callK (tbl [(20, dq20)]) 20 ent20_1.args ent20_1.H = some (ent20_1.v, ent20_1.ups) := by kernel_rfl
end Go.Proofs.YtglklakklmpodaaGreat
/- 'SpeakerNames': what single calls of a speaker come to, as tables. -/
namespace Go.Proofs.YtglklakklmpodaaGreat
open Go.Am
set_option maxRecDepth 100000
def ents15 : List MEnt := [ent15_0, ent15_1, ent15_2, ent15_3, ent15_4, ent15_5]
theorem known15 : Known Tryz.prog 15 (memoS ents15) := known_memo k1Ok noNumTry Tryz.func15 rfl ⟨run15_0, run15_1, run15_2, run15_3, run15_4, run15_5, trivial⟩
def ents9 : List MEnt := [ent9_0, ent9_1, ent9_2]
theorem known9 : Known Tryz.prog 9 (memoS ents9) := known_memo (tbl_cons dq9_k ok0) noNumTry Tryz.func9 rfl ⟨run9_0, run9_1, run9_2, trivial⟩
def ents17 : List MEnt := [ent17_0, ent17_1, ent17_2]
theorem known17 : Known Tryz.prog 17 (memoS ents17) := known_memo (tbl_cons dq17_k ok0) noNumTry Tryz.func17 rfl ⟨run17_0, run17_1, run17_2, trivial⟩
def ents18 : List MEnt := [ent18_0, ent18_1]
theorem known18 : Known Tryz.prog 18 (memoS ents18) := known_memo (tbl_cons dq18_k ok0) noNumTry Tryz.func18 rfl ⟨run18_0, run18_1, trivial⟩
def ents19 : List MEnt := [ent19_0, ent19_1, ent19_2, ent19_3, ent19_4, ent19_5, ent19_6, ent19_7]
theorem known19 : Known Tryz.prog 19 (memoS ents19) := known_memo (tbl_cons dq19_k ok0) noNumTry Tryz.func19 rfl ⟨run19_0, run19_1, run19_2, run19_3, run19_4, run19_5, run19_6, run19_7, trivial⟩
def ents20 : List MEnt := [ent20_0, ent20_1, ent20_2]
theorem known20 : Known Tryz.prog 20 (memoS ents20) := known_memo (tbl_cons dq20_k ok0) noNumTry Tryz.func20 rfl ⟨run20_0, run20_1, run20_2, trivial⟩
def ents21 : List MEnt := [ent21_0, ent21_1, ent21_2]
theorem known21 : Known Tryz.prog 21 (memoS ents21) := known_memo (tbl_cons dq21_k ok0) noNumTry Tryz.func21 rfl ⟨run21_0, run21_1, run21_2, trivial⟩
noncomputable abbrev T2 := tbl [(83, c83), (51, c51), (84, c84), (159, c159), (15, memoS ents15), (9, memoS ents9), (17, memoS ents17), (18, memoS ents18), (19, memoS ents19), (20, memoS ents20), (21, memoS ents21)]
theorem t2Ok : KOk Tryz.prog T2 := (tbl_cons c83_k (tbl_cons c51_k (tbl_cons c84_k (tbl_cons c159_k (tbl_cons known15 (tbl_cons known9 (tbl_cons known17 (tbl_cons known18 (tbl_cons known19 (tbl_cons known20 (tbl_cons known21 ok0)))))))))))
theorem law_run : callK (closedT Tryz.prog T2 3000 14) 3 [] [] = some (.bool true, []) := by kernel_rfl
theorem law_k : Known Tryz.prog 3 (constS (.bool true)) := known_closedT noNumTry mixTry t2Ok Tryz.func3 rfl law_run
end Go.Proofs.YtglklakklmpodaaGreat
/- 'SpeakerNames': the closed facts of its row. -/
namespace Go.Proofs.YtglklakklmpodaaGreat
open Go Go.Am
set_option maxRecDepth 100000
theorem j1 : (Rows.speakerNamesRow.wf (OpenSpec.ofChange Rows.speakerNamesSpec)) = true := by kernel_rfl
theorem j2 : (laidOutB Tryz.prog) = true := by kernel_rfl
theorem j3 : (mapsRowed Tryz.prog) = true := by kernel_rfl
theorem j4 : (Tryz.f3.params.all (Tryz.prog.readableRec ·)) = true := by kernel_rfl
theorem j5 : (namedTie Tryz.prog Rows.speakerNamesRow.named Rows.speakerNamesSpec.vars) = true := by kernel_rfl
theorem j6 : (Rows.speakerNamesRow.stops == []) = true := by kernel_rfl
theorem j7 : (Tryz.prog.stops == []) = true := by kernel_rfl
theorem j8 : (Rows.speakerNamesRow.knobs == []) = true := by kernel_rfl
theorem j9 : (Tryz.prog.stopKnobs == []) = true := by kernel_rfl
theorem j10 : (Rows.speakerNamesRow.inPlace == Tryz.prog.inPlace 3) = true := by kernel_rfl
theorem j11 : (Rows.speakerNamesRow.unfollowed == Tryz.prog.unfollowed 3) = true := by kernel_rfl
theorem j12 : (Rows.speakerNamesRow.recurses == Tryz.prog.recurses 3) = true := by kernel_rfl
theorem j13 : (Rows.speakerNamesRow.named == Tryz.prog.varsNamed 3) = true := by kernel_rfl
theorem j14 : (Rows.speakerNamesRow.maps == (Tryz.f3.params.toList ++ Rows.speakerNamesSpec.plain.varTypes Tryz.prog).any (Tryz.prog.mapsRec ·)) = true := by kernel_rfl
theorem j15 : (Rows.speakerNamesRow.ifaces == (Tryz.f3.params.toList ++ Rows.speakerNamesSpec.plain.varTypes Tryz.prog).any (Tryz.prog.ifacesRec ·)) = true := by kernel_rfl
theorem j16 : (Rows.speakerNamesRow.mapsOut == Tryz.prog.mapsAmong Tryz.f3.resultTypes.toList) = true := by kernel_rfl
theorem j17 : (Rows.speakerNamesRow.loops == (Tryz.f3.params.toList ++ Rows.speakerNamesSpec.plain.varTypes Tryz.prog).any (Tryz.prog.loopsFrom ·)) = true := by kernel_rfl
theorem j18 : (Rows.speakerNamesRow.wideKeys == (Tryz.f3.params.toList ++ Rows.speakerNamesSpec.plain.varTypes Tryz.prog ++ Tryz.f3.resultTypes.toList).any (Tryz.prog.wideKeysFrom ·)) = true := by kernel_rfl
theorem j19 : (Rows.speakerNamesSpec.vars.all (Tryz.prog.varReadable ·)) = true := by kernel_rfl
theorem j20 : (Tryz.f3.resultTypes.all (fun t => Tryz.prog.readableRec t && decide (t < Tryz.prog.types.size))) = true := by kernel_rfl
theorem j21 : (Rows.speakerNamesRow.ifacesOut == Tryz.f3.resultTypes.toList.any (Tryz.prog.ifacesRec ·)) = true := by kernel_rfl
theorem j22 : (Rows.speakerNamesRow.loopsOut == Tryz.f3.resultTypes.toList.any (Tryz.prog.loopsFrom ·)) = true := by kernel_rfl
theorem j23 : (Rows.speakerNamesRow.plainKeys == Tryz.prog.plainKeys) = true := by kernel_rfl
theorem j24 : (Rows.speakerNamesRow.shortTexts.isNone) = true := by kernel_rfl
theorem j25 : (Tryz.prog.stopsHeard) = true := by kernel_rfl
theorem j26 : (Tryz.prog.mayEnter) = true := by kernel_rfl
theorem j27 : (Rows.speakerNamesRow.lifted == Tryz.prog.liftsFinal) = true := by kernel_rfl
theorem j28 : (Tryz.prog.make == some Rows.speakerNamesRow.make) = true := by kernel_rfl
end Go.Proofs.YtglklakklmpodaaGreat
/- 'SpeakerNames': the closed facts of its row, together. -/
namespace Go.Proofs.YtglklakklmpodaaGreat
open Go Go.Am
set_option maxRecDepth 100000
theorem jf : joinedFacts Tryz.prog 3 Tryz.f3 Rows.speakerNamesSpec Rows.speakerNamesRow = true := by
 unfold joinedFacts
 rw [j1, j2, j3, j4, j5, j6, j7, j8, j9, j10, j11, j12, j13, j14, j15, j16, j17, j18, j19, j20, j21, j22, j23, j24, j25, j26, j27, j28]
 kernel_rfl
theorem jn : Tryz.prog.funcNamed Rows.speakerNamesRow.func = some 3 := by kernel_rfl
end Go.Proofs.YtglklakklmpodaaGreat
