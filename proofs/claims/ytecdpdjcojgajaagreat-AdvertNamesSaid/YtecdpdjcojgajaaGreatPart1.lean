/- What is advertised: the program. -/
import Derived.Test.YtecdpdjcojgajaaGreatMachine7
import Derived.KernelRfl
import Derived.Test.YtecdpdjcojgajaaGreatRows
import Derived.Test.YtecdpdjcojgajaaGreatMachine8
set_option linter.unusedVariables false
set_option linter.unusedSimpArgs false
namespace Go.Proofs.YtecdpdjcojgajaaGreat
open Go.Am
set_option maxRecDepth 100000
theorem noNumTry : noNum Tryz.prog := by unfold noNum; kernel_rfl
theorem mixTry : Tryz.prog.follows .mixedOrders = true := by kernel_rfl
theorem ok0 : KOk Tryz.prog (tbl []) := tbl_nil
noncomputable abbrev opn (T : Nat → Option CSumm) (fn : Func) : CSumm := bodyC Tryz.prog (openT Tryz.prog T 300 5) (fun g => inl T g && hasBody Tryz.prog g) true 300 fn
theorem openKnown {T : Nat → Option CSumm} (hT : KOk Tryz.prog T) {f : Nat} {fn : Func} (hf : Tryz.prog.funcs[f]? = some fn) (hb : fn.body.isNone = false) : Known Tryz.prog f (opn T fn) :=
 known_of_bodyC noNumTry mixTry (openT_ok noNumTry mixTry hT 300 5) hf hb (fun _ _ _ _ h => h)
theorem crun_ite (b : Bool) (x y : CTree) : crun (.ite b x y) = bif b then crun x else crun y := by cases b <;> rfl
theorem crun_cond (b : Bool) (x y : CTree) : crun (bif b then x else y) = bif b then crun x else crun y := by cases b <;> rfl
theorem w64_id {n : Int} (h1 : -9223372036854775808 ≤ n) (h2 : n ≤ 9223372036854775807) : IntKind.i64.wrap n = n := by
 simp [IntKind.wrap, IntKind.bits, IntKind.signed]; omega
noncomputable def dec (p : Prop) : Bool := (Classical.propDecidable p).decide
theorem dec_iff {p : Prop} : dec p = true ↔ p := by unfold dec; exact @decide_eq_true_iff _ (Classical.propDecidable _)
end Go.Proofs.YtecdpdjcojgajaaGreat
/- Writers of bytes: a number is put. -/
namespace Go.Proofs.YtecdpdjcojgajaaGreat
open Go.Am
set_option maxRecDepth 100000
def be (n : Int) : Nat → List SV
 | 0 => []
 | k + 1 => .int .u8 (n / 256 ^ k % 256) :: be n k
def dv (n : Int) : Nat → Int
 | 0 => n
 | k + 1 => (dv n k).fdiv 256
def rb (n : Int) : Nat → List SV
 | 0 => []
 | k + 1 => .int .u8 (IntKind.u8.wrap (dv n k)) :: rb n k
theorem w8_eq (n : Int) : IntKind.u8.wrap n = n % 256 := by
 simp [IntKind.wrap, IntKind.bits, IntKind.signed]
theorem dv_eq (n : Int) : ∀ k, dv n k = n / 256 ^ k
 | 0 => by simp [dv]
 | k + 1 => by
  rw [dv, dv_eq n k, Int.fdiv_eq_ediv_of_nonneg _ (by decide), Int.ediv_ediv_of_nonneg (Int.pow_nonneg (by decide)), Int.pow_succ]
theorem rb_be (n : Int) : ∀ k, rb n k = be n k
 | 0 => rfl
 | k + 1 => by rw [rb, be, rb_be n k, w8_eq, dv_eq]
theorem shr0 {n : Int} {m : Int} (h0 : 0 ≤ n) (h1 : n < m) : (n.fdiv m != 0) = false := by
 rw [Int.fdiv_eq_ediv_of_nonneg _ (by omega), Int.ediv_eq_zero_of_lt h0 h1]; rfl
def putT (n : Int) (k : Nat) : HpL → CTree
 | [(0, .cells 151 [.nils, .int .i64 lim, .mp 1]), (1, .mpc [] [])] =>
  .ite (decide (0 ≤ n ∧ n < 256 ^ k ∧ (k : Int) ≤ lim ∧ lim ≤ 65536)) (.ret (.int .i64 0) [(0, some (.cells 151 [.qs 2 1 0 k, .int .i64 lim, .mp 1])), (2, some (.seq 5 (be n k)))]) .fail
 | [(0, .cells 151 [.qs 1 1 0 m, .int .i64 lim, .mp 2]), (1, .seq 5 es), (2, .mpc [] [])] =>
  .ite (decide (m = es.length ∧ 0 ≤ n ∧ n < 256 ^ k ∧ ((es.length + k : Nat) : Int) ≤ lim ∧ lim ≤ 65536)) (.ret (.int .i64 0) [(0, some (.cells 151 [.qs 3 1 0 (es.length + k), .int .i64 lim, .mp 2])), (1, none), (3, some (.seq 5 (es ++ be n k)))]) .fail
 | _ => .fail
theorem put_a1 (n lim : Int) : opn (tbl []) Tryz.f81 [.ptr 0 0, .int .u64 n, .int .i64 1] [(0, .cells 151 [.nils, .int .i64 lim, .mp 1]), (1, .mpc [] [])] =
 bif n.fdiv 256 != 0 then .ret (.int .i64 2) [] else bif decide (IntKind.i64.wrap (lim - 0) < 1) then .ret (.int .i64 7) [] else
 .ret (.int .i64 0) [(0, some (.cells 151 [.qs 2 1 0 1, .int .i64 lim, .mp 1])), (2, some (.seq 5 (rb n 1)))] := by kernel_rfl
theorem put_b1 (n lim : Int) (m : Nat) (es : List SV) : opn (tbl []) Tryz.f81 [.ptr 0 0, .int .u64 n, .int .i64 1] [(0, .cells 151 [.qs 1 1 0 m, .int .i64 lim, .mp 2]), (1, .seq 5 es), (2, .mpc [] [])] =
 bif n.fdiv 256 != 0 then .ret (.int .i64 2) [] else bif decide (IntKind.i64.wrap (lim - (m : Int)) < 1) then .ret (.int .i64 7) [] else
 bif decide (m = es.length) then bif decide (es.length + 1 ≤ 9223372036854775807) && decide ((es.length + 1) * 1 ≤ 140737488355328) then
 .ret (.int .i64 0) [(0, some (.cells 151 [.qs 3 1 0 (es.length + 1), .int .i64 lim, .mp 2])), (1, none), (3, some (.seq 5 (es ++ rb n 1)))] else .fail else .fail := by kernel_rfl
theorem put_ok1 (n : Int) (H : HpL) (v : SV) (ups : List (Nat × Option Chunk)) (h : crun (putT n 1 H) = some (v, ups)) : crun (opn (tbl []) Tryz.f81 [.ptr 0 0, .int .u64 n, .int .i64 1] H) = some (v, ups) := by
 unfold putT at h
 split at h
 · rename_i lim
   rw [crun_ite, cond_eq_ite] at h
   split at h
   · rename_i hc
     obtain ⟨h0, h1, h2, h3⟩ := of_decide_eq_true hc
     rw [put_a1, shr0 h0 (by simpa using h1), w64_id (by omega) (by omega), decide_eq_false (by omega), rb_be]
     exact h
   · cases h
 · rename_i m lim es
   rw [crun_ite, cond_eq_ite] at h
   split at h
   · rename_i hc
     obtain ⟨hm, h0, h1, h2, h3⟩ := of_decide_eq_true hc
     rw [put_b1, shr0 h0 (by simpa using h1), w64_id (by omega) (by omega), decide_eq_false (by omega), rb_be, decide_eq_true hm, decide_eq_true (by omega), decide_eq_true (by omega)]
     exact h
   · cases h
 · cases h
theorem put_a2 (n lim : Int) : opn (tbl []) Tryz.f81 [.ptr 0 0, .int .u64 n, .int .i64 2] [(0, .cells 151 [.nils, .int .i64 lim, .mp 1]), (1, .mpc [] [])] =
 bif n.fdiv 65536 != 0 then .ret (.int .i64 2) [] else bif decide (IntKind.i64.wrap (lim - 0) < 2) then .ret (.int .i64 7) [] else
 .ret (.int .i64 0) [(0, some (.cells 151 [.qs 2 1 0 2, .int .i64 lim, .mp 1])), (2, some (.seq 5 (rb n 2)))] := by kernel_rfl
theorem put_b2 (n lim : Int) (m : Nat) (es : List SV) : opn (tbl []) Tryz.f81 [.ptr 0 0, .int .u64 n, .int .i64 2] [(0, .cells 151 [.qs 1 1 0 m, .int .i64 lim, .mp 2]), (1, .seq 5 es), (2, .mpc [] [])] =
 bif n.fdiv 65536 != 0 then .ret (.int .i64 2) [] else bif decide (IntKind.i64.wrap (lim - (m : Int)) < 2) then .ret (.int .i64 7) [] else
 bif decide (m = es.length) then bif decide (es.length + 2 ≤ 9223372036854775807) && decide ((es.length + 2) * 1 ≤ 140737488355328) then
 .ret (.int .i64 0) [(0, some (.cells 151 [.qs 3 1 0 (es.length + 2), .int .i64 lim, .mp 2])), (1, none), (3, some (.seq 5 (es ++ rb n 2)))] else .fail else .fail := by kernel_rfl
theorem put_ok2 (n : Int) (H : HpL) (v : SV) (ups : List (Nat × Option Chunk)) (h : crun (putT n 2 H) = some (v, ups)) : crun (opn (tbl []) Tryz.f81 [.ptr 0 0, .int .u64 n, .int .i64 2] H) = some (v, ups) := by
 unfold putT at h
 split at h
 · rename_i lim
   rw [crun_ite, cond_eq_ite] at h
   split at h
   · rename_i hc
     obtain ⟨h0, h1, h2, h3⟩ := of_decide_eq_true hc
     rw [put_a2, shr0 h0 (by simpa using h1), w64_id (by omega) (by omega), decide_eq_false (by omega), rb_be]
     exact h
   · cases h
 · rename_i m lim es
   rw [crun_ite, cond_eq_ite] at h
   split at h
   · rename_i hc
     obtain ⟨hm, h0, h1, h2, h3⟩ := of_decide_eq_true hc
     rw [put_b2, shr0 h0 (by simpa using h1), w64_id (by omega) (by omega), decide_eq_false (by omega), rb_be, decide_eq_true hm, decide_eq_true (by omega), decide_eq_true (by omega)]
     exact h
   · cases h
 · cases h
theorem put_a3 (n lim : Int) : opn (tbl []) Tryz.f81 [.ptr 0 0, .int .u64 n, .int .i64 3] [(0, .cells 151 [.nils, .int .i64 lim, .mp 1]), (1, .mpc [] [])] =
 bif n.fdiv 16777216 != 0 then .ret (.int .i64 2) [] else bif decide (IntKind.i64.wrap (lim - 0) < 3) then .ret (.int .i64 7) [] else
 .ret (.int .i64 0) [(0, some (.cells 151 [.qs 2 1 0 3, .int .i64 lim, .mp 1])), (2, some (.seq 5 (rb n 3)))] := by kernel_rfl
theorem put_b3 (n lim : Int) (m : Nat) (es : List SV) : opn (tbl []) Tryz.f81 [.ptr 0 0, .int .u64 n, .int .i64 3] [(0, .cells 151 [.qs 1 1 0 m, .int .i64 lim, .mp 2]), (1, .seq 5 es), (2, .mpc [] [])] =
 bif n.fdiv 16777216 != 0 then .ret (.int .i64 2) [] else bif decide (IntKind.i64.wrap (lim - (m : Int)) < 3) then .ret (.int .i64 7) [] else
 bif decide (m = es.length) then bif decide (es.length + 3 ≤ 9223372036854775807) && decide ((es.length + 3) * 1 ≤ 140737488355328) then
 .ret (.int .i64 0) [(0, some (.cells 151 [.qs 3 1 0 (es.length + 3), .int .i64 lim, .mp 2])), (1, none), (3, some (.seq 5 (es ++ rb n 3)))] else .fail else .fail := by kernel_rfl
theorem put_ok3 (n : Int) (H : HpL) (v : SV) (ups : List (Nat × Option Chunk)) (h : crun (putT n 3 H) = some (v, ups)) : crun (opn (tbl []) Tryz.f81 [.ptr 0 0, .int .u64 n, .int .i64 3] H) = some (v, ups) := by
 unfold putT at h
 split at h
 · rename_i lim
   rw [crun_ite, cond_eq_ite] at h
   split at h
   · rename_i hc
     obtain ⟨h0, h1, h2, h3⟩ := of_decide_eq_true hc
     rw [put_a3, shr0 h0 (by simpa using h1), w64_id (by omega) (by omega), decide_eq_false (by omega), rb_be]
     exact h
   · cases h
 · rename_i m lim es
   rw [crun_ite, cond_eq_ite] at h
   split at h
   · rename_i hc
     obtain ⟨hm, h0, h1, h2, h3⟩ := of_decide_eq_true hc
     rw [put_b3, shr0 h0 (by simpa using h1), w64_id (by omega) (by omega), decide_eq_false (by omega), rb_be, decide_eq_true hm, decide_eq_true (by omega), decide_eq_true (by omega)]
     exact h
   · cases h
 · cases h
theorem put_a4 (n lim : Int) : opn (tbl []) Tryz.f81 [.ptr 0 0, .int .u64 n, .int .i64 4] [(0, .cells 151 [.nils, .int .i64 lim, .mp 1]), (1, .mpc [] [])] =
 bif n.fdiv 4294967296 != 0 then .ret (.int .i64 2) [] else bif decide (IntKind.i64.wrap (lim - 0) < 4) then .ret (.int .i64 7) [] else
 .ret (.int .i64 0) [(0, some (.cells 151 [.qs 2 1 0 4, .int .i64 lim, .mp 1])), (2, some (.seq 5 (rb n 4)))] := by kernel_rfl
theorem put_b4 (n lim : Int) (m : Nat) (es : List SV) : opn (tbl []) Tryz.f81 [.ptr 0 0, .int .u64 n, .int .i64 4] [(0, .cells 151 [.qs 1 1 0 m, .int .i64 lim, .mp 2]), (1, .seq 5 es), (2, .mpc [] [])] =
 bif n.fdiv 4294967296 != 0 then .ret (.int .i64 2) [] else bif decide (IntKind.i64.wrap (lim - (m : Int)) < 4) then .ret (.int .i64 7) [] else
 bif decide (m = es.length) then bif decide (es.length + 4 ≤ 9223372036854775807) && decide ((es.length + 4) * 1 ≤ 140737488355328) then
 .ret (.int .i64 0) [(0, some (.cells 151 [.qs 3 1 0 (es.length + 4), .int .i64 lim, .mp 2])), (1, none), (3, some (.seq 5 (es ++ rb n 4)))] else .fail else .fail := by kernel_rfl
theorem put_ok4 (n : Int) (H : HpL) (v : SV) (ups : List (Nat × Option Chunk)) (h : crun (putT n 4 H) = some (v, ups)) : crun (opn (tbl []) Tryz.f81 [.ptr 0 0, .int .u64 n, .int .i64 4] H) = some (v, ups) := by
 unfold putT at h
 split at h
 · rename_i lim
   rw [crun_ite, cond_eq_ite] at h
   split at h
   · rename_i hc
     obtain ⟨h0, h1, h2, h3⟩ := of_decide_eq_true hc
     rw [put_a4, shr0 h0 (by simpa using h1), w64_id (by omega) (by omega), decide_eq_false (by omega), rb_be]
     exact h
   · cases h
 · rename_i m lim es
   rw [crun_ite, cond_eq_ite] at h
   split at h
   · rename_i hc
     obtain ⟨hm, h0, h1, h2, h3⟩ := of_decide_eq_true hc
     rw [put_b4, shr0 h0 (by simpa using h1), w64_id (by omega) (by omega), decide_eq_false (by omega), rb_be, decide_eq_true hm, decide_eq_true (by omega), decide_eq_true (by omega)]
     exact h
   · cases h
 · cases h
theorem put_a5 (n lim : Int) : opn (tbl []) Tryz.f81 [.ptr 0 0, .int .u64 n, .int .i64 5] [(0, .cells 151 [.nils, .int .i64 lim, .mp 1]), (1, .mpc [] [])] =
 bif n.fdiv 1099511627776 != 0 then .ret (.int .i64 2) [] else bif decide (IntKind.i64.wrap (lim - 0) < 5) then .ret (.int .i64 7) [] else
 .ret (.int .i64 0) [(0, some (.cells 151 [.qs 2 1 0 5, .int .i64 lim, .mp 1])), (2, some (.seq 5 (rb n 5)))] := by kernel_rfl
theorem put_b5 (n lim : Int) (m : Nat) (es : List SV) : opn (tbl []) Tryz.f81 [.ptr 0 0, .int .u64 n, .int .i64 5] [(0, .cells 151 [.qs 1 1 0 m, .int .i64 lim, .mp 2]), (1, .seq 5 es), (2, .mpc [] [])] =
 bif n.fdiv 1099511627776 != 0 then .ret (.int .i64 2) [] else bif decide (IntKind.i64.wrap (lim - (m : Int)) < 5) then .ret (.int .i64 7) [] else
 bif decide (m = es.length) then bif decide (es.length + 5 ≤ 9223372036854775807) && decide ((es.length + 5) * 1 ≤ 140737488355328) then
 .ret (.int .i64 0) [(0, some (.cells 151 [.qs 3 1 0 (es.length + 5), .int .i64 lim, .mp 2])), (1, none), (3, some (.seq 5 (es ++ rb n 5)))] else .fail else .fail := by kernel_rfl
theorem put_ok5 (n : Int) (H : HpL) (v : SV) (ups : List (Nat × Option Chunk)) (h : crun (putT n 5 H) = some (v, ups)) : crun (opn (tbl []) Tryz.f81 [.ptr 0 0, .int .u64 n, .int .i64 5] H) = some (v, ups) := by
 unfold putT at h
 split at h
 · rename_i lim
   rw [crun_ite, cond_eq_ite] at h
   split at h
   · rename_i hc
     obtain ⟨h0, h1, h2, h3⟩ := of_decide_eq_true hc
     rw [put_a5, shr0 h0 (by simpa using h1), w64_id (by omega) (by omega), decide_eq_false (by omega), rb_be]
     exact h
   · cases h
 · rename_i m lim es
   rw [crun_ite, cond_eq_ite] at h
   split at h
   · rename_i hc
     obtain ⟨hm, h0, h1, h2, h3⟩ := of_decide_eq_true hc
     rw [put_b5, shr0 h0 (by simpa using h1), w64_id (by omega) (by omega), decide_eq_false (by omega), rb_be, decide_eq_true hm, decide_eq_true (by omega), decide_eq_true (by omega)]
     exact h
   · cases h
 · cases h
theorem put_a6 (n lim : Int) : opn (tbl []) Tryz.f81 [.ptr 0 0, .int .u64 n, .int .i64 6] [(0, .cells 151 [.nils, .int .i64 lim, .mp 1]), (1, .mpc [] [])] =
 bif n.fdiv 281474976710656 != 0 then .ret (.int .i64 2) [] else bif decide (IntKind.i64.wrap (lim - 0) < 6) then .ret (.int .i64 7) [] else
 .ret (.int .i64 0) [(0, some (.cells 151 [.qs 2 1 0 6, .int .i64 lim, .mp 1])), (2, some (.seq 5 (rb n 6)))] := by kernel_rfl
theorem put_b6 (n lim : Int) (m : Nat) (es : List SV) : opn (tbl []) Tryz.f81 [.ptr 0 0, .int .u64 n, .int .i64 6] [(0, .cells 151 [.qs 1 1 0 m, .int .i64 lim, .mp 2]), (1, .seq 5 es), (2, .mpc [] [])] =
 bif n.fdiv 281474976710656 != 0 then .ret (.int .i64 2) [] else bif decide (IntKind.i64.wrap (lim - (m : Int)) < 6) then .ret (.int .i64 7) [] else
 bif decide (m = es.length) then bif decide (es.length + 6 ≤ 9223372036854775807) && decide ((es.length + 6) * 1 ≤ 140737488355328) then
 .ret (.int .i64 0) [(0, some (.cells 151 [.qs 3 1 0 (es.length + 6), .int .i64 lim, .mp 2])), (1, none), (3, some (.seq 5 (es ++ rb n 6)))] else .fail else .fail := by kernel_rfl
theorem put_ok6 (n : Int) (H : HpL) (v : SV) (ups : List (Nat × Option Chunk)) (h : crun (putT n 6 H) = some (v, ups)) : crun (opn (tbl []) Tryz.f81 [.ptr 0 0, .int .u64 n, .int .i64 6] H) = some (v, ups) := by
 unfold putT at h
 split at h
 · rename_i lim
   rw [crun_ite, cond_eq_ite] at h
   split at h
   · rename_i hc
     obtain ⟨h0, h1, h2, h3⟩ := of_decide_eq_true hc
     rw [put_a6, shr0 h0 (by simpa using h1), w64_id (by omega) (by omega), decide_eq_false (by omega), rb_be]
     exact h
   · cases h
 · rename_i m lim es
   rw [crun_ite, cond_eq_ite] at h
   split at h
   · rename_i hc
     obtain ⟨hm, h0, h1, h2, h3⟩ := of_decide_eq_true hc
     rw [put_b6, shr0 h0 (by simpa using h1), w64_id (by omega) (by omega), decide_eq_false (by omega), rb_be, decide_eq_true hm, decide_eq_true (by omega), decide_eq_true (by omega)]
     exact h
   · cases h
 · cases h
theorem put_a7 (n lim : Int) : opn (tbl []) Tryz.f81 [.ptr 0 0, .int .u64 n, .int .i64 7] [(0, .cells 151 [.nils, .int .i64 lim, .mp 1]), (1, .mpc [] [])] =
 bif n.fdiv 72057594037927936 != 0 then .ret (.int .i64 2) [] else bif decide (IntKind.i64.wrap (lim - 0) < 7) then .ret (.int .i64 7) [] else
 .ret (.int .i64 0) [(0, some (.cells 151 [.qs 2 1 0 7, .int .i64 lim, .mp 1])), (2, some (.seq 5 (rb n 7)))] := by kernel_rfl
theorem put_b7 (n lim : Int) (m : Nat) (es : List SV) : opn (tbl []) Tryz.f81 [.ptr 0 0, .int .u64 n, .int .i64 7] [(0, .cells 151 [.qs 1 1 0 m, .int .i64 lim, .mp 2]), (1, .seq 5 es), (2, .mpc [] [])] =
 bif n.fdiv 72057594037927936 != 0 then .ret (.int .i64 2) [] else bif decide (IntKind.i64.wrap (lim - (m : Int)) < 7) then .ret (.int .i64 7) [] else
 bif decide (m = es.length) then bif decide (es.length + 7 ≤ 9223372036854775807) && decide ((es.length + 7) * 1 ≤ 140737488355328) then
 .ret (.int .i64 0) [(0, some (.cells 151 [.qs 3 1 0 (es.length + 7), .int .i64 lim, .mp 2])), (1, none), (3, some (.seq 5 (es ++ rb n 7)))] else .fail else .fail := by kernel_rfl
theorem put_ok7 (n : Int) (H : HpL) (v : SV) (ups : List (Nat × Option Chunk)) (h : crun (putT n 7 H) = some (v, ups)) : crun (opn (tbl []) Tryz.f81 [.ptr 0 0, .int .u64 n, .int .i64 7] H) = some (v, ups) := by
 unfold putT at h
 split at h
 · rename_i lim
   rw [crun_ite, cond_eq_ite] at h
   split at h
   · rename_i hc
     obtain ⟨h0, h1, h2, h3⟩ := of_decide_eq_true hc
     rw [put_a7, shr0 h0 (by simpa using h1), w64_id (by omega) (by omega), decide_eq_false (by omega), rb_be]
     exact h
   · cases h
 · rename_i m lim es
   rw [crun_ite, cond_eq_ite] at h
   split at h
   · rename_i hc
     obtain ⟨hm, h0, h1, h2, h3⟩ := of_decide_eq_true hc
     rw [put_b7, shr0 h0 (by simpa using h1), w64_id (by omega) (by omega), decide_eq_false (by omega), rb_be, decide_eq_true hm, decide_eq_true (by omega), decide_eq_true (by omega)]
     exact h
   · cases h
 · cases h
theorem put_a8 (n lim : Int) : opn (tbl []) Tryz.f81 [.ptr 0 0, .int .u64 n, .int .i64 8] [(0, .cells 151 [.nils, .int .i64 lim, .mp 1]), (1, .mpc [] [])] =
 bif n.fdiv 18446744073709551616 != 0 then .ret (.int .i64 2) [] else bif decide (IntKind.i64.wrap (lim - 0) < 8) then .ret (.int .i64 7) [] else
 .ret (.int .i64 0) [(0, some (.cells 151 [.qs 2 1 0 8, .int .i64 lim, .mp 1])), (2, some (.seq 5 (rb n 8)))] := by kernel_rfl
theorem put_b8 (n lim : Int) (m : Nat) (es : List SV) : opn (tbl []) Tryz.f81 [.ptr 0 0, .int .u64 n, .int .i64 8] [(0, .cells 151 [.qs 1 1 0 m, .int .i64 lim, .mp 2]), (1, .seq 5 es), (2, .mpc [] [])] =
 bif n.fdiv 18446744073709551616 != 0 then .ret (.int .i64 2) [] else bif decide (IntKind.i64.wrap (lim - (m : Int)) < 8) then .ret (.int .i64 7) [] else
 bif decide (m = es.length) then bif decide (es.length + 8 ≤ 9223372036854775807) && decide ((es.length + 8) * 1 ≤ 140737488355328) then
 .ret (.int .i64 0) [(0, some (.cells 151 [.qs 3 1 0 (es.length + 8), .int .i64 lim, .mp 2])), (1, none), (3, some (.seq 5 (es ++ rb n 8)))] else .fail else .fail := by kernel_rfl
theorem put_ok8 (n : Int) (H : HpL) (v : SV) (ups : List (Nat × Option Chunk)) (h : crun (putT n 8 H) = some (v, ups)) : crun (opn (tbl []) Tryz.f81 [.ptr 0 0, .int .u64 n, .int .i64 8] H) = some (v, ups) := by
 unfold putT at h
 split at h
 · rename_i lim
   rw [crun_ite, cond_eq_ite] at h
   split at h
   · rename_i hc
     obtain ⟨h0, h1, h2, h3⟩ := of_decide_eq_true hc
     rw [put_a8, shr0 h0 (by simpa using h1), w64_id (by omega) (by omega), decide_eq_false (by omega), rb_be]
     exact h
   · cases h
 · rename_i m lim es
   rw [crun_ite, cond_eq_ite] at h
   split at h
   · rename_i hc
     obtain ⟨hm, h0, h1, h2, h3⟩ := of_decide_eq_true hc
     rw [put_b8, shr0 h0 (by simpa using h1), w64_id (by omega) (by omega), decide_eq_false (by omega), rb_be, decide_eq_true hm, decide_eq_true (by omega), decide_eq_true (by omega)]
     exact h
   · cases h
 · cases h
def put_s : CSumm := fun args H => match args with
 | [.ptr 0 0, .int .u64 n, .int .i64 k] => .ite (decide (1 ≤ k ∧ k ≤ 8)) (putT n k.toNat H) .fail
 | _ => .fail
theorem put_k : Known Tryz.prog 81 put_s := (openKnown ok0 Tryz.func81 rfl).weak (by
 intro args H v ups h
 unfold put_s at h
 split at h
 · rename_i n k
   rw [crun_ite, cond_eq_ite] at h
   split at h
   · rename_i hc
     obtain ⟨h1, h8⟩ := of_decide_eq_true hc
     obtain rfl | rfl | rfl | rfl | rfl | rfl | rfl | rfl : k = 1 ∨ k = 2 ∨ k = 3 ∨ k = 4 ∨ k = 5 ∨ k = 6 ∨ k = 7 ∨ k = 8 := by omega
     · exact put_ok1 n H v ups h
     · exact put_ok2 n H v ups h
     · exact put_ok3 n H v ups h
     · exact put_ok4 n H v ups h
     · exact put_ok5 n H v ups h
     · exact put_ok6 n H v ups h
     · exact put_ok7 n H v ups h
     · exact put_ok8 n H v ups h
   · cases h
 · cases h)
end Go.Proofs.YtecdpdjcojgajaaGreat
