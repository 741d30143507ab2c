/- Nodes and segments: what the code computes. -/
import Derived.Test.YtohhhodkmnpjpaaLOrdW
namespace Go.Proofs.Ytohhhodkmnpjpaa
open Go.Am
set_option maxRecDepth 100000
def oor (n m : Int) : Bool := bif decide (n < 0) then true else decide (n ≥ m)
def errI (n m : Int) : Int := bif oor n m then 2 else 0
def loV (n : Int) : Int := bif oor n 32 then 0 else IntKind.u32.wrap (IntKind.u32.wrap (184483840 + IntKind.u32.wrap n) + 1)
def rmV (n : Int) : Int := bif oor n 32 then 0 else IntKind.u64.wrap (2199023255552 + IntKind.u64.wrap n)
def sgA (n : Int) : Int := bif oor n 64 then 0 else 3
def sgB (n : Int) : Int := bif oor n 64 then 0 else IntKind.u8.wrap (IntKind.i64.wrap (n + 1))
def ndO (n : Int) : Bool := bif decide (n ≤ 184483840) then true else decide (n > 184483872)
def ndV (n : Int) : Int := bif ndO n then 0 else IntKind.i64.wrap (IntKind.u32.wrap (IntKind.u32.wrap (n - 184483840) - 1))
def rnO (n : Int) : Bool := bif decide (n < 2199023255552) then true else decide (n ≥ 2199023255584)
def rnV (n : Int) : Int := bif rnO n then 0 else IntKind.i64.wrap (IntKind.u64.wrap (n - 2199023255552))
def mcB (n : Int) : Bool := bif decide (n ≤ 281474976710655) then (IntKind.u64.wrap ↑(BitVec.ofInt IntKind.u64.bits (n.fdiv (2 ^ min (Int.toNat 40) IntKind.u64.bits)) &&& BitVec.ofInt IntKind.u64.bits 1).toNat != 0) else false
def esN (x : Int) : Int := IntKind.i64.wrap (IntKind.i64.wrap x - 1)
def esO (l : List Int) (x : Int) : Bool := bif errI (esN x) 64 != 0 then true else cmpE [sgA (esN x), 0, 0, 0, 0, 0, 0, 0, 0, sgB (esN x)] l != 0
def allZ : List Int → Bool
  | [] => true
  | x :: l => bif x != 0 then false else allZ l

def lo_s : CSumm
  | [.int .i64 n], [] => .ret (.tup [.int .u32 (loV n), .int .i64 (errI n 32)]) []
  | _, _ => .fail
def rm_s : CSumm
  | [.int .i64 n], [] => .ret (.tup [.int .u64 (rmV n), .int .i64 (errI n 32)]) []
  | _, _ => .fail
def sg_s : CSumm
  | [.int .i64 n], [] => .ret (.tup [.agg [.int .u8 (sgA n), .int .u8 0, .int .u8 0, .int .u8 0, .int .u8 0, .int .u8 0, .int .u8 0, .int .u8 0, .int .u8 0, .int .u8 (sgB n)], .int .i64 (errI n 64)]) []
  | _, _ => .fail
def nd_s : CSumm
  | [.int .u32 n], [] => .ret (.tup [.int .i64 (ndV n), .bool (!ndO n)]) []
  | _, _ => .fail
def rn_s : CSumm
  | [.int .u64 n], [] => .ret (.tup [.int .i64 (rnV n), .bool (!rnO n)]) []
  | _, _ => .fail
def mc_s : CSumm
  | [.int .u64 n], [] => .ret (.bool (mcB n)) []
  | _, _ => .fail
def es_s : CSumm
  | [.agg [.int .u8 x0, .int .u8 x1, .int .u8 x2, .int .u8 x3, .int .u8 x4, .int .u8 x5, .int .u8 x6, .int .u8 x7, .int .u8 x8, .int .u8 x9]], [] =>
    .ret (.tup [.int .i64 (bif esO [x0, x1, x2, x3, x4, x5, x6, x7, x8, x9] x9 then 0 else esN x9), .bool (!esO [x0, x1, x2, x3, x4, x5, x6, x7, x8, x9] x9)]) []
  | _, _ => .fail
def sameB_s : CSumm
  | [.sl 0 1 0 10, .sl 1 1 0 10], [(0, .cells 34 [.int .u8 x0, .int .u8 x1, .int .u8 x2, .int .u8 x3, .int .u8 x4, .int .u8 x5, .int .u8 x6, .int .u8 x7, .int .u8 x8, .int .u8 x9]), (1, .cells 5 [.int .u8 0, .int .u8 0, .int .u8 0, .int .u8 0, .int .u8 0, .int .u8 0, .int .u8 0, .int .u8 0, .int .u8 0, .int .u8 0])] =>
    .ret (.bool (allZ [x0, x1, x2, x3, x4, x5, x6, x7, x8, x9])) []
  | _, _ => .fail

theorem lo_k : Known Try.prog 13 lo_s := known_of_bodyS noNumTry mixTry ok0 Try.func13 rfl (by
  intro args H v ups h
  unfold lo_s at h
  split at h
  · rename_i n
    have e : bodyS Try.prog (tbl []) Try.f13 [.int .i64 n] [] = bif oor n 32 then .ret (.tup [.int .u32 0, .int .i64 2]) [] else .ret (.tup [.int .u32 (IntKind.u32.wrap (IntKind.u32.wrap (184483840 + IntKind.u32.wrap n) + 1)), .int .i64 0]) [] := by kernel_rfl
    rw [e, ← h]
    unfold loV errI
    cases oor n 32 <;> rfl
  · cases h)
theorem rm_k : Known Try.prog 14 rm_s := known_of_bodyS noNumTry mixTry ok0 Try.func14 rfl (by
  intro args H v ups h
  unfold rm_s at h
  split at h
  · rename_i n
    have e : bodyS Try.prog (tbl []) Try.f14 [.int .i64 n] [] = bif oor n 32 then .ret (.tup [.int .u64 0, .int .i64 2]) [] else .ret (.tup [.int .u64 (IntKind.u64.wrap (2199023255552 + IntKind.u64.wrap n)), .int .i64 0]) [] := by kernel_rfl
    rw [e, ← h]
    unfold rmV errI
    cases oor n 32 <;> rfl
  · cases h)
theorem sg_k : Known Try.prog 15 sg_s := known_of_bodyS noNumTry mixTry ok0 Try.func15 rfl (by
  intro args H v ups h
  unfold sg_s at h
  split at h
  · rename_i n
    have e : bodyS Try.prog (tbl []) Try.f15 [.int .i64 n] [] = bif oor n 64 then .ret (.tup [.agg [.int .u8 0, .int .u8 0, .int .u8 0, .int .u8 0, .int .u8 0, .int .u8 0, .int .u8 0, .int .u8 0, .int .u8 0, .int .u8 0], .int .i64 2]) [] else
      .ret (.tup [.agg [.int .u8 3, .int .u8 0, .int .u8 0, .int .u8 0, .int .u8 0, .int .u8 0, .int .u8 0, .int .u8 0, .int .u8 0, .int .u8 (IntKind.u8.wrap (IntKind.i64.wrap (n + 1)))], .int .i64 0]) [] := by kernel_rfl
    rw [e, ← h]
    unfold sgA sgB errI
    cases oor n 64 <;> rfl
  · cases h)
theorem nd_k : Known Try.prog 16 nd_s := known_of_bodyS noNumTry mixTry ok0 Try.func16 rfl (by
  intro args H v ups h
  unfold nd_s at h
  split at h
  · rename_i n
    have e : bodyS Try.prog (tbl []) Try.f16 [.int .u32 n] [] = bif ndO n then .ret (.tup [.int .i64 0, .bool false]) [] else .ret (.tup [.int .i64 (IntKind.i64.wrap (IntKind.u32.wrap (IntKind.u32.wrap (n - 184483840) - 1))), .bool true]) [] := by kernel_rfl
    rw [e, ← h]
    unfold ndV
    cases ndO n <;> rfl
  · cases h)
theorem rn_k : Known Try.prog 17 rn_s := known_of_bodyS noNumTry mixTry ok0 Try.func17 rfl (by
  intro args H v ups h
  unfold rn_s at h
  split at h
  · rename_i n
    have e : bodyS Try.prog (tbl []) Try.f17 [.int .u64 n] [] = bif rnO n then .ret (.tup [.int .i64 0, .bool false]) [] else .ret (.tup [.int .i64 (IntKind.i64.wrap (IntKind.u64.wrap (n - 2199023255552))), .bool true]) [] := by kernel_rfl
    rw [e, ← h]
    unfold rnV
    cases rnO n <;> rfl
  · cases h)
theorem mc_k : Known Try.prog 18 mc_s := known_of_bodyS noNumTry mixTry ok0 Try.func18 rfl (by
  intro args H v ups h
  unfold mc_s at h
  split at h
  · rename_i n
    have e : bodyS Try.prog (tbl []) Try.f18 [.int .u64 n] [] = bif decide (n ≤ 281474976710655) then .ret (.bool (IntKind.u64.wrap ↑(BitVec.ofInt IntKind.u64.bits (n.fdiv (2 ^ min (Int.toNat 40) IntKind.u64.bits)) &&& BitVec.ofInt IntKind.u64.bits 1).toNat != 0)) [] else .ret (.bool false) [] := by kernel_rfl
    rw [e, ← h]
    unfold mcB
    cases decide (n ≤ 281474976710655) <;> rfl
  · cases h)
theorem same_step (c : Bool) (t : CTree) (b : Bool) (h : crun t = some (.bool b, [])) : crun (bif c then .ret (.bool false) [] else t) = some (.bool (bif c then false else b), []) := by
  cases c
  · exact h
  · rfl
theorem sameB_k : Known Try.prog 20 sameB_s := known_of_bodyS noNumTry mixTry ok0 Try.func20 rfl (by
  intro args H v ups h
  unfold sameB_s at h
  split at h
  · rename_i x0 x1 x2 x3 x4 x5 x6 x7 x8 x9
    have e : bodyS Try.prog (tbl []) Try.f20 [.sl 0 1 0 10, .sl 1 1 0 10] [(0, .cells 34 [.int .u8 x0, .int .u8 x1, .int .u8 x2, .int .u8 x3, .int .u8 x4, .int .u8 x5, .int .u8 x6, .int .u8 x7, .int .u8 x8, .int .u8 x9]), (1, .cells 5 [.int .u8 0, .int .u8 0, .int .u8 0, .int .u8 0, .int .u8 0, .int .u8 0, .int .u8 0, .int .u8 0, .int .u8 0, .int .u8 0])] =
      bif x0 != 0 then .ret (.bool false) [] else bif x1 != 0 then .ret (.bool false) [] else bif x2 != 0 then .ret (.bool false) [] else bif x3 != 0 then .ret (.bool false) [] else bif x4 != 0 then .ret (.bool false) [] else
      bif x5 != 0 then .ret (.bool false) [] else bif x6 != 0 then .ret (.bool false) [] else bif x7 != 0 then .ret (.bool false) [] else bif x8 != 0 then .ret (.bool false) [] else bif x9 != 0 then .ret (.bool false) [] else .ret (.bool true) [] := by kernel_rfl
    rw [e, ← h]
    exact same_step _ _ _ (same_step _ _ _ (same_step _ _ _ (same_step _ _ _ (same_step _ _ _ (same_step _ _ _ (same_step _ _ _ (same_step _ _ _ (same_step _ _ _ (same_step _ _ _ rfl)))))))))
  · cases h)
abbrev κe := tbl [(12, cmpE_s), (15, sg_s)]
theorem oke : KOk Try.prog κe := tbl_cons cmpE_k (tbl_cons sg_k ok0)
theorem es_k : Known Try.prog 19 es_s := known_of_bodyS noNumTry mixTry oke Try.func19 rfl (by
  intro args H v ups h
  unfold es_s at h
  split at h
  · rename_i x0 x1 x2 x3 x4 x5 x6 x7 x8 x9
    have e : bodyS Try.prog κe Try.f19 [.agg [.int .u8 x0, .int .u8 x1, .int .u8 x2, .int .u8 x3, .int .u8 x4, .int .u8 x5, .int .u8 x6, .int .u8 x7, .int .u8 x8, .int .u8 x9]] [] =
      bif esO [x0, x1, x2, x3, x4, x5, x6, x7, x8, x9] x9 then .ret (.tup [.int .i64 0, .bool false]) [] else .ret (.tup [.int .i64 (esN x9), .bool true]) [] := by kernel_rfl
    rw [e, ← h]
    cases esO [x0, x1, x2, x3, x4, x5, x6, x7, x8, x9] x9 <;> rfl
  · cases h)
abbrev κn := tbl [(7, lives_s), (13, lo_s), (14, rm_s), (15, sg_s), (16, nd_s), (17, rn_s), (18, mc_s), (19, es_s), (20, sameB_s)]
theorem okn : KOk Try.prog κn := tbl_cons lives_k (tbl_cons lo_k (tbl_cons rm_k (tbl_cons sg_k (tbl_cons nd_k (tbl_cons rn_k (tbl_cons mc_k (tbl_cons es_k (tbl_cons sameB_k ok0))))))))
theorem nod_k : Known Try.prog 5 (bodyS Try.prog κn Try.f5) := known_of_bodyS noNumTry mixTry okn Try.func5 rfl (fun _ _ _ _ h => h)
end Go.Proofs.Ytohhhodkmnpjpaa
