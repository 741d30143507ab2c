/- Prefixes: what the code computes. -/
import Derived.Test.YtohhhodkmnpjpaaLCov
import Derived.Test.YtohhhodkmnpjpaaAmPost
import Derived.Test.YtohhhodkmnpjpaaRows
namespace Go.Proofs.Ytohhhodkmnpjpaa
open Go.Am
theorem noNumTry : noNum Try.prog := by unfold noNum; kernel_rfl
theorem mixTry : Try.prog.follows .mixedOrders = true := by kernel_rfl

def valid_s : CSumm
  | [.agg [.int .u32 _, .int .i64 l]], [] => .ret (.bool (vld l)) []
  | _, _ => .fail
def mask_s : CSumm
  | [.int .i64 l], [] => .ite (decide (IntKind.i64.wrap (32 - l) < 0)) .fail (.ret (.int .u32 (mskI l)) [])
  | _, _ => .fail
def contains_s : CSumm
  | [.agg [.int .u32 ip, .int .i64 l], .int .u32 x], [] => .ret (.bool (contB ip l x)) []
  | _, _ => .fail
def covers_s : CSumm
  | [.agg [.int .u32 a, .int .i64 b], .agg [.int .u32 c, .int .i64 d]], [] => .ret (.bool (coverB a b c d)) []
  | _, _ => .fail
def clean_s : CSumm
  | [.agg [.int .u32 ip, .int .i64 l]], [] => .ite (vld l) (.ret (.tup [.agg [.int .u32 (clnI ip l), .int .i64 l], .int .i64 0]) []) (.ret (.tup [.agg [.int .u32 0, .int .i64 0], .int .i64 2]) [])
  | _, _ => .fail
abbrev lives_s : CSumm := constS (.bool true)
abbrev κ1 := tbl [(26, valid_s), (27, mask_s)]
abbrev κ2 := tbl [(26, valid_s), (9, contains_s)]
abbrev κ3 := tbl [(7, lives_s), (8, covers_s), (9, contains_s), (10, clean_s)]

theorem shift_ok {l : Int} (h : vld l = true) : decide (IntKind.i64.wrap (32 - l) < 0) = false := by
  rw [vld_iff] at h
  have : IntKind.i64.wrap (32 - l) = 32 - l := by
    simp [IntKind.wrap, IntKind.bits, IntKind.signed]
    omega
  rw [this]
  simp
  omega

set_option maxRecDepth 100000
theorem valid_t (a b : Int) : bodyS Try.prog (tbl []) Try.f26 [.agg [.int .u32 a, .int .i64 b]] [] = .ret (.bool (vld b)) [] := by kernel_rfl
theorem mask_t (b : Int) : bodyS Try.prog (tbl []) Try.f27 [.int .i64 b] [] = bif decide (IntKind.i64.wrap (32 - b) < 0) then .fail else .ret (.int .u32 (mskI b)) [] := by kernel_rfl
theorem contains_t (a b x : Int) : bodyS Try.prog κ1 Try.f9 [.agg [.int .u32 a, .int .i64 b], .int .u32 x] [] =
    bif vld b then bif decide (IntKind.i64.wrap (32 - b) < 0) then .fail else
      .ret (.bool (IntKind.u32.wrap (BitVec.ofInt IntKind.u32.bits (IntKind.u32.wrap (BitVec.ofInt IntKind.u32.bits a ^^^ BitVec.ofInt IntKind.u32.bits x).toNat) &&& BitVec.ofInt IntKind.u32.bits (mskI b)).toNat == 0)) []
    else .ret (.bool false) [] := by kernel_rfl
theorem covers_t (a b c d : Int) : bodyS Try.prog κ2 Try.f8 [.agg [.int .u32 a, .int .i64 b], .agg [.int .u32 c, .int .i64 d]] [] =
    .ret (.bool (bif bif bif vld b then vld d else false then decide (b ≤ d) else false then contB a b c else false)) [] := by kernel_rfl
theorem clean_t (a b : Int) : bodyS Try.prog κ1 Try.f10 [.agg [.int .u32 a, .int .i64 b]] [] =
    bif !vld b then .ret (.tup [.agg [.int .u32 0, .int .i64 0], .int .i64 2]) []
    else bif decide (IntKind.i64.wrap (32 - b) < 0) then .fail else .ret (.tup [.agg [.int .u32 (clnI a b), .int .i64 b], .int .i64 0]) [] := by kernel_rfl
theorem lives_t : callK (closedS Try.prog 100 5) 7 [] [] = some (.bool true, []) := by kernel_rfl

theorem ok0 : KOk Try.prog (tbl []) := tbl_nil
theorem valid_k : Known Try.prog 26 valid_s := known_of_bodyS noNumTry mixTry ok0 Try.func26 rfl (by
  intro args H v ups h
  unfold valid_s at h
  split at h
  · rw [valid_t]; exact h
  · cases h)
theorem mask_k : Known Try.prog 27 mask_s := known_of_bodyS noNumTry mixTry ok0 Try.func27 rfl (by
  intro args H v ups h
  unfold mask_s at h
  split at h
  · rename_i l
    rw [mask_t]
    cases hc : decide (IntKind.i64.wrap (32 - l) < 0)
    · simpa [crun, hc] using h
    · simp [crun, hc] at h
  · cases h)
theorem ok1 : KOk Try.prog κ1 := tbl_cons valid_k (tbl_cons mask_k ok0)
theorem contains_k : Known Try.prog 9 contains_s := known_of_bodyS noNumTry mixTry ok1 Try.func9 rfl (by
  intro args H v ups h
  unfold contains_s at h
  split at h
  · rename_i ip l x
    rw [contains_t]
    cases hv : vld l
    · simpa [crun, contB, hv] using h
    · simpa [crun, contB, hv, shift_ok hv] using h
  · cases h)
theorem ok2 : KOk Try.prog κ2 := tbl_cons valid_k (tbl_cons contains_k ok0)
theorem covers_k : Known Try.prog 8 covers_s := known_of_bodyS noNumTry mixTry ok2 Try.func8 rfl (by
  intro args H v ups h
  unfold covers_s at h
  split at h
  · rename_i a b c d
    rw [covers_t]
    rw [← h, show coverB a b c d = (bif bif bif vld b then vld d else false then decide (b ≤ d) else false then contB a b c else false) from by
      unfold coverB; simp [Bool.cond_false_right]]
  · cases h)
theorem clean_k : Known Try.prog 10 clean_s := known_of_bodyS noNumTry mixTry ok1 Try.func10 rfl (by
  intro args H v ups h
  unfold clean_s at h
  split at h
  · rename_i ip l
    rw [clean_t]
    cases hv : vld l
    · simpa [crun, hv] using h
    · simpa [crun, hv, shift_ok hv] using h
  · cases h)
theorem lives_k : Known Try.prog 7 lives_s := known_closed noNumTry mixTry Try.func7 rfl lives_t
theorem ok3 : KOk Try.prog κ3 := tbl_cons lives_k (tbl_cons covers_k (tbl_cons contains_k (tbl_cons clean_k ok0)))
theorem law_k : Known Try.prog 3 (bodyS Try.prog κ3 Try.f3) := known_of_bodyS noNumTry mixTry ok3 Try.func3 rfl (fun _ _ _ _ h => h)
end Go.Proofs.Ytohhhodkmnpjpaa
