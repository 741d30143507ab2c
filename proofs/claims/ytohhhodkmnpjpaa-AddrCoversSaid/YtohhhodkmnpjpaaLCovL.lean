/- 'AddrCovers' answers true, whatever it is handed. No condition. -/
import Derived.Test.YtohhhodkmnpjpaaLCovW
import Derived.ProofKit
import Derived.Lib.SmallJoins
namespace Go.Proofs.Ytohhhodkmnpjpaa
open Go.Am Go.ChangeShapes Go.WideShapes Go.ChangeAt Go.RowKit
set_option maxRecDepth 100000
theorem law_t (a b c d e f x : Int) : bodyC Try.prog κ3 Try.f3 [.agg [.int .u32 a, .int .i64 b], .agg [.int .u32 c, .int .i64 d], .agg [.int .u32 e, .int .i64 f], .int .u32 x] [] =
    bif
        bif !coverB a b a b == bif decide (b ≥ 0) then decide (b ≤ 32) else false then true
        else !contB a b x == coverB a b x 32 then
      CTree.ret (SV.bool false) []
    else
      bif
          bif bif bif coverB a b c d then coverB c d e f else false then !coverB a b e f else false then true
          else bif bif coverB a b c d then contB c d x else false then !contB a b x else false then
        CTree.ret (SV.bool false) []
      else
        bif vld b then
          bif vld d then
            bif vld b then
              CTree.ret
                (SV.bool
                  (bif
                      bif
                          bif
                              bif
                                  (bif coverB a b c d then coverB c d a b else false) ==
                                    (clnI a b == clnI c d && b == d) then
                                clnI (clnI a b) b == clnI a b && b == b
                              else false then
                            0 == 0
                          else false then
                        coverB (clnI a b) b a b
                      else false then
                    coverB a b (clnI a b) b
                  else false))
                []
            else
              CTree.ret
                (SV.bool
                  (bif
                      bif
                          bif
                              bif
                                  (bif coverB a b c d then coverB c d a b else false) ==
                                    (clnI a b == clnI c d && b == d) then
                                0 == clnI a b && 0 == b
                              else false then
                            2 == 0
                          else false then
                        coverB (clnI a b) b a b
                      else false then
                    coverB a b (clnI a b) b
                  else false))
                []
          else CTree.ret (SV.bool !coverB a b c d) []
        else bif vld d then CTree.ret (SV.bool !coverB a b c d) [] else CTree.ret (SV.bool !coverB a b c d) [] := by kernel_rfl
theorem law_true (a b c d e f x : Int) : crun (bodyC Try.prog κ3 Try.f3 [.agg [.int .u32 a, .int .i64 b], .agg [.int .u32 c, .int .i64 d], .agg [.int .u32 e, .int .i64 f], .int .u32 x] []) = some (.bool true, []) := by
  rw [law_t]
  have hv : ∀ l : Int, (bif decide (l ≥ 0) then decide (l ≤ 32) else false) = vld l := fun l => by unfold vld; cases decide (l ≥ 0) <;> rfl
  have h1 : ∀ p q : Bool, (bif p then q else false) = (p && q) := fun p q => by cases p <;> rfl
  have h2 : ∀ p q : Bool, (bif p then true else q) = (p || q) := fun p q => by cases p <;> rfl
  simp only [hv, h1, h2, cover_refl, cover_one]
  have e1 : ∀ p : Bool, (p == p) = true := fun p => by cases p <;> rfl
  rw [e1, e1]
  have e2 : (coverB a b c d && coverB c d e f && !coverB a b e f) = false := by
    cases p : coverB a b c d <;> cases q : coverB c d e f <;> simp
    exact cover_trans p q
  have e3 : (coverB a b c d && contB c d x && !contB a b x) = false := by
    cases p : coverB a b c d <;> cases q : contB c d x <;> simp
    exact cover_cont p q
  rw [e2, e3]
  cases hb : vld b with
  | false =>
    rw [cover_not (.inl hb)]
    cases vld d <;> rfl
  | true =>
    cases hd : vld d with
    | false => rw [cover_not (.inr hd)]; rfl
    | true =>
      rw [cover_both hb hd, cln_twice, (cover_cln hb).1, (cover_cln hb).2]
      simp [crun]
end Go.Proofs.Ytohhhodkmnpjpaa
