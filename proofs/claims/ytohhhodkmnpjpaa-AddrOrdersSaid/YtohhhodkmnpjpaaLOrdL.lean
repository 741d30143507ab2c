/- 'AddrOrders' answers true. -/
import Derived.Test.YtohhhodkmnpjpaaLOrdW
namespace Go.Proofs.Ytohhhodkmnpjpaa
open Go.Am
set_option maxRecDepth 100000
theorem ord_t (a b c d e f a0 a1 a2 a3 a4 a5 a6 a7 a8 a9 b0 b1 b2 b3 b4 b5 b6 b7 b8 b9 c0 c1 c2 c3 c4 c5 c6 c7 c8 c9 : Int) : bodyS Try.prog κo Try.f4 [.agg [.int .u32 a, .int .i64 b], .agg [.int .u32 c, .int .i64 d], .agg [.int .u32 e, .int .i64 f], .agg [.int .u8 a0, .int .u8 a1, .int .u8 a2, .int .u8 a3, .int .u8 a4, .int .u8 a5, .int .u8 a6, .int .u8 a7, .int .u8 a8, .int .u8 a9], .agg [.int .u8 b0, .int .u8 b1, .int .u8 b2, .int .u8 b3, .int .u8 b4, .int .u8 b5, .int .u8 b6, .int .u8 b7, .int .u8 b8, .int .u8 b9], .agg [.int .u8 c0, .int .u8 c1, .int .u8 c2, .int .u8 c3, .int .u8 c4, .int .u8 c5, .int .u8 c6, .int .u8 c7, .int .u8 c8, .int .u8 c9]] [] =
    bif
        bif
            bif
                bif
                    bif cmpE [a, b] [c, d] != IntKind.i64.wrap (0 - cmpE [c, d] [a, b]) then true
                    else !(cmpE [a, b] [c, d] == 0) == (a == c && b == d) then
                  true
                else
                  bif bif decide (cmpE [a, b] [c, d] ≤ 0) then decide (cmpE [c, d] [e, f] ≤ 0) else false then
                    decide (cmpE [a, b] [e, f] > 0)
                  else false then
              true
            else decide (cmpE [a, b] [c, d] < -1) then
          true
        else decide (cmpE [a, b] [c, d] > 1) then
      CTree.ret (SV.bool false) []
    else
      CTree.ret
        (SV.bool
          (bif
              bif
                  bif
                      bif
                          cmpE [a0, a1, a2, a3, a4, a5, a6, a7, a8, a9] [b0, b1, b2, b3, b4, b5, b6, b7, b8, b9] ==
                            IntKind.i64.wrap
                              (0 -
                                cmpE [b0, b1, b2, b3, b4, b5, b6, b7, b8, b9] [a0, a1, a2, a3, a4, a5, a6, a7, a8, a9]) then
                        (cmpE [a0, a1, a2, a3, a4, a5, a6, a7, a8, a9] [b0, b1, b2, b3, b4, b5, b6, b7, b8, b9] == 0) ==
                          (a0 == b0 &&
                            (a1 == b1 &&
                              (a2 == b2 &&
                                (a3 == b3 &&
                                  (a4 == b4 && (a5 == b5 && (a6 == b6 && (a7 == b7 && (a8 == b8 && a9 == b9)))))))))
                      else false then
                    bif
                        bif
                            decide
                              (cmpE [a0, a1, a2, a3, a4, a5, a6, a7, a8, a9] [b0, b1, b2, b3, b4, b5, b6, b7, b8, b9] >
                                0) then
                          true
                        else
                          decide
                            (cmpE [b0, b1, b2, b3, b4, b5, b6, b7, b8, b9] [c0, c1, c2, c3, c4, c5, c6, c7, c8, c9] >
                              0) then
                      true
                    else decide (cmpE [a0, a1, a2, a3, a4, a5, a6, a7, a8, a9] [c0, c1, c2, c3, c4, c5, c6, c7, c8, c9] ≤ 0)
                  else false then
                decide (cmpE [a0, a1, a2, a3, a4, a5, a6, a7, a8, a9] [b0, b1, b2, b3, b4, b5, b6, b7, b8, b9] ≥ -1)
              else false then
            decide (cmpE [a0, a1, a2, a3, a4, a5, a6, a7, a8, a9] [b0, b1, b2, b3, b4, b5, b6, b7, b8, b9] ≤ 1)
          else false))
        [] := by kernel_rfl
theorem ez2 (a b c d : Int) : (cmpE [a, b] [c, d] == 0) = (a == c && b == d) := by
  rw [Bool.eq_iff_iff]
  simp only [beq_iff_eq, Bool.and_eq_true]
  rw [cmpE_zero [a, b] [c, d] rfl]
  simp
theorem ez10 (a0 a1 a2 a3 a4 a5 a6 a7 a8 a9 b0 b1 b2 b3 b4 b5 b6 b7 b8 b9 : Int) : (cmpE [a0, a1, a2, a3, a4, a5, a6, a7, a8, a9] [b0, b1, b2, b3, b4, b5, b6, b7, b8, b9] == 0) = (a0 == b0 && (a1 == b1 && (a2 == b2 && (a3 == b3 && (a4 == b4 && (a5 == b5 && (a6 == b6 && (a7 == b7 && (a8 == b8 && a9 == b9))))))))) := by
  rw [Bool.eq_iff_iff]
  simp only [beq_iff_eq, Bool.and_eq_true]
  rw [cmpE_zero [a0, a1, a2, a3, a4, a5, a6, a7, a8, a9] [b0, b1, b2, b3, b4, b5, b6, b7, b8, b9] rfl]
  simp
theorem tr3 {l m n : List Int} (h1 : l.length = m.length) (h2 : m.length = n.length) : (bif bif decide (cmpE l m ≤ 0) then decide (cmpE m n ≤ 0) else false then decide (cmpE l n > 0) else false) = false := by
  cases h3 : decide (cmpE l m ≤ 0)
  · rfl
  · cases h4 : decide (cmpE m n ≤ 0)
    · rfl
    · have := cmpE_trans l m n h1 h2 (by simpa using h3) (by simpa using h4)
      simp; omega
theorem tr3' {l m n : List Int} (h1 : l.length = m.length) (h2 : m.length = n.length) : (bif bif decide (cmpE l m > 0) then true else decide (cmpE m n > 0) then true else decide (cmpE l n ≤ 0)) = true := by
  cases h3 : decide (cmpE l m > 0)
  · cases h4 : decide (cmpE m n > 0)
    · have := cmpE_trans l m n h1 h2 (by simp at h3; omega) (by simp at h4; omega)
      simp; omega
    · rfl
  · rfl
theorem lo1 (l m : List Int) : decide (cmpE l m < -1) = false := by have := cmpE_range l m; simp; omega
theorem hi1 (l m : List Int) : decide (cmpE l m > 1) = false := by have := cmpE_range l m; simp; omega
theorem lo2 (l m : List Int) : decide (cmpE l m ≥ -1) = true := by have := cmpE_range l m; simp; omega
theorem hi2 (l m : List Int) : decide (cmpE l m ≤ 1) = true := by have := cmpE_range l m; simp; omega
theorem beq_self_b (b : Bool) : (b == b) = true := by cases b <;> rfl
theorem ord_true (a b c d e f a0 a1 a2 a3 a4 a5 a6 a7 a8 a9 b0 b1 b2 b3 b4 b5 b6 b7 b8 b9 c0 c1 c2 c3 c4 c5 c6 c7 c8 c9 : Int) : crun (bodyS Try.prog κo Try.f4 [.agg [.int .u32 a, .int .i64 b], .agg [.int .u32 c, .int .i64 d], .agg [.int .u32 e, .int .i64 f], .agg [.int .u8 a0, .int .u8 a1, .int .u8 a2, .int .u8 a3, .int .u8 a4, .int .u8 a5, .int .u8 a6, .int .u8 a7, .int .u8 a8, .int .u8 a9], .agg [.int .u8 b0, .int .u8 b1, .int .u8 b2, .int .u8 b3, .int .u8 b4, .int .u8 b5, .int .u8 b6, .int .u8 b7, .int .u8 b8, .int .u8 b9], .agg [.int .u8 c0, .int .u8 c1, .int .u8 c2, .int .u8 c3, .int .u8 c4, .int .u8 c5, .int .u8 c6, .int .u8 c7, .int .u8 c8, .int .u8 c9]] []) = some (.bool true, []) := by
  rw [ord_t]
  rw [wrap_neg, wrap_neg, ez2, ez10, beq_self_b, beq_self_b, tr3 (l := [a, b]) (m := [c, d]) (n := [e, f]) rfl rfl, tr3' (l := [a0, a1, a2, a3, a4, a5, a6, a7, a8, a9]) (m := [b0, b1, b2, b3, b4, b5, b6, b7, b8, b9]) (n := [c0, c1, c2, c3, c4, c5, c6, c7, c8, c9]) rfl rfl, lo1, hi1, lo2, hi2]
  simp [crun]
end Go.Proofs.Ytohhhodkmnpjpaa
