/- Comparisons: what the code computes. -/
import Derived.Test.YtohhhodkmnpjpaaLOrd
namespace Go.Proofs.Ytohhhodkmnpjpaa
open Go.Am
set_option maxRecDepth 100000
theorem isNo (a : Int) : (a != a) = false := by simp
theorem cmp_u32_t (a b : Int) : bodyS Try.prog (tbl []) Try.f29 [.int .u32 a, .int .u32 b] [] =
    bif a != a then (bif b != b then .ret (.int .i64 0) [] else .ret (.int .i64 (-1)) []) else bif b != b then .ret (.int .i64 1) [] else
    bif decide (a < b) then .ret (.int .i64 (-1)) [] else bif decide (a > b) then .ret (.int .i64 1) [] else .ret (.int .i64 0) [] := by kernel_rfl
theorem cmp_i64_t (a b : Int) : bodyS Try.prog (tbl []) Try.f30 [.int .i64 a, .int .i64 b] [] =
    bif a != a then (bif b != b then .ret (.int .i64 0) [] else .ret (.int .i64 (-1)) []) else bif b != b then .ret (.int .i64 1) [] else
    bif decide (a < b) then .ret (.int .i64 (-1)) [] else bif decide (a > b) then .ret (.int .i64 1) [] else .ret (.int .i64 0) [] := by kernel_rfl
theorem cmp_u8_t (a b : Int) : bodyS Try.prog (tbl []) Try.f32 [.int .u8 a, .int .u8 b] [] =
    bif a != a then (bif b != b then .ret (.int .i64 0) [] else .ret (.int .i64 (-1)) []) else bif b != b then .ret (.int .i64 1) [] else
    bif decide (a < b) then .ret (.int .i64 (-1)) [] else bif decide (a > b) then .ret (.int .i64 1) [] else .ret (.int .i64 0) [] := by kernel_rfl
theorem cmp_tree (a b : Int) : crun (bif a != a then (bif b != b then .ret (.int .i64 0) [] else .ret (.int .i64 (-1)) []) else bif b != b then .ret (.int .i64 1) [] else
    bif decide (a < b) then .ret (.int .i64 (-1)) [] else bif decide (a > b) then .ret (.int .i64 1) [] else .ret (.int .i64 0) []) = some (.int .i64 (cmpI a b), []) := by
  rw [isNo, isNo]
  unfold cmpI
  cases decide (a < b) <;> cases decide (a > b) <;> rfl
theorem or_t (a b : Int) : bodyS Try.prog (tbl []) Try.f28 [.sl 0 1 0 2] [(0, .cells 3 [.int .i64 a, .int .i64 b])] =
    bif a != 0 then .ret (.int .i64 a) [] else bif b != 0 then .ret (.int .i64 b) [] else .ret (.int .i64 0) [] := by kernel_rfl
theorem cmpP_t (a b c d : Int) : bodyS Try.prog κp Try.f11 [.agg [.int .u32 a, .int .i64 b], .agg [.int .u32 c, .int .i64 d]] [] =
    .ret (.int .i64 (bif cmpI a c != 0 then cmpI a c else cmpI b d)) [] := by kernel_rfl
theorem cmpE_t (a0 a1 a2 a3 a4 a5 a6 a7 a8 a9 b0 b1 b2 b3 b4 b5 b6 b7 b8 b9 : Int) : bodyS Try.prog κc Try.f12 [.agg [.int .u8 a0, .int .u8 a1, .int .u8 a2, .int .u8 a3, .int .u8 a4, .int .u8 a5, .int .u8 a6, .int .u8 a7, .int .u8 a8, .int .u8 a9], .agg [.int .u8 b0, .int .u8 b1, .int .u8 b2, .int .u8 b3, .int .u8 b4, .int .u8 b5, .int .u8 b6, .int .u8 b7, .int .u8 b8, .int .u8 b9]] [] =
    bif cmpI a0 b0 != 0 then .ret (.int .i64 (cmpI a0 b0)) [] else
    bif cmpI a1 b1 != 0 then .ret (.int .i64 (cmpI a1 b1)) [] else
    bif cmpI a2 b2 != 0 then .ret (.int .i64 (cmpI a2 b2)) [] else
    bif cmpI a3 b3 != 0 then .ret (.int .i64 (cmpI a3 b3)) [] else
    bif cmpI a4 b4 != 0 then .ret (.int .i64 (cmpI a4 b4)) [] else
    bif cmpI a5 b5 != 0 then .ret (.int .i64 (cmpI a5 b5)) [] else
    bif cmpI a6 b6 != 0 then .ret (.int .i64 (cmpI a6 b6)) [] else
    bif cmpI a7 b7 != 0 then .ret (.int .i64 (cmpI a7 b7)) [] else
    bif cmpI a8 b8 != 0 then .ret (.int .i64 (cmpI a8 b8)) [] else
    bif cmpI a9 b9 != 0 then .ret (.int .i64 (cmpI a9 b9)) [] else .ret (.int .i64 0) [] := by kernel_rfl

theorem cmp_u32_k : Known Try.prog 29 cmp_u32 := known_of_bodyS noNumTry mixTry ok0 Try.func29 rfl (by
  intro args H v ups h
  unfold cmp_u32 at h
  split at h
  · rw [cmp_u32_t, cmp_tree]; exact h
  · cases h)
theorem cmp_i64_k : Known Try.prog 30 cmp_i64 := known_of_bodyS noNumTry mixTry ok0 Try.func30 rfl (by
  intro args H v ups h
  unfold cmp_i64 at h
  split at h
  · rw [cmp_i64_t, cmp_tree]; exact h
  · cases h)
theorem cmp_u8_k : Known Try.prog 32 cmp_u8 := known_of_bodyS noNumTry mixTry ok0 Try.func32 rfl (by
  intro args H v ups h
  unfold cmp_u8 at h
  split at h
  · rw [cmp_u8_t, cmp_tree]; exact h
  · cases h)
theorem or_k : Known Try.prog 28 or_s := known_of_bodyS noNumTry mixTry ok0 Try.func28 rfl (by
  intro args H v ups h
  unfold or_s at h
  split at h
  · rename_i a b
    rw [or_t, ← h]
    cases ha : (a != 0)
    · cases hb : (b != 0)
      · have : b = 0 := by simpa using hb
        subst this; rfl
      · rfl
    · rfl
  · cases h)
theorem okp : KOk Try.prog κp := tbl_cons cmp_u32_k (tbl_cons cmp_i64_k (tbl_cons or_k ok0))
theorem okc : KOk Try.prog κc := tbl_cons cmp_u8_k ok0
theorem cmpP_k : Known Try.prog 11 cmpP_s := known_of_bodyS noNumTry mixTry okp Try.func11 rfl (by
  intro args H v ups h
  unfold cmpP_s at h
  split at h
  · rename_i a b c d
    rw [cmpP_t, ← h]
    have : cmpE [a, b] [c, d] = bif cmpI a c != 0 then cmpI a c else cmpI b d := by
      simp only [cmpE]
      cases hb : (cmpI b d != 0)
      · have : cmpI b d = 0 := by simpa using hb
        rw [this]; rfl
      · rfl
    rw [this]
  · cases h)
theorem esi_step (c : Bool) (x y : Int) (t : CTree) (h : crun t = some (.int .i64 y, [])) : crun (bif c then .ret (.int .i64 x) [] else t) = some (.int .i64 (bif c then x else y), []) := by
  cases c
  · exact h
  · rfl
theorem cmpE_k : Known Try.prog 12 cmpE_s := known_of_bodyS noNumTry mixTry okc Try.func12 rfl (by
  intro args H v ups h
  unfold cmpE_s at h
  split at h
  · rw [cmpE_t, ← h]
    simp only [cmpE]
    exact esi_step _ _ _ _ (esi_step _ _ _ _ (esi_step _ _ _ _ (esi_step _ _ _ _ (esi_step _ _ _ _ (esi_step _ _ _ _ (esi_step _ _ _ _ (esi_step _ _ _ _ (esi_step _ _ _ _ (esi_step _ _ _ _ rfl)))))))))
  · cases h)
theorem oko : KOk Try.prog κo := tbl_cons lives_k (tbl_cons cmpP_k (tbl_cons cmpE_k ok0))
theorem ord_k : Known Try.prog 4 (bodyS Try.prog κo Try.f4) := known_of_bodyS noNumTry mixTry oko Try.func4 rfl (fun _ _ _ _ h => h)
end Go.Proofs.Ytohhhodkmnpjpaa
