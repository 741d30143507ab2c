/- Sessions: the step with its tests told apart; an established session. -/
import Derived.Test.YtbeolnccdhjjeaaS4
namespace Go.Proofs.Ytbeolnccdhjjeaa
open Go.Am
set_option maxRecDepth 100000
/-- Where the event is looked at. -/
def step_i : CSumm
  | [.agg [.int .i64 ph, .int .u32 asn, .int .u32 id, .int .u32 pe, .int .i64 ho, .int .i64 re, .int .i64 rs, .bool pas, .bool rsd, .int .u32 oas, .int .i64 oh, .int .u32 oid, .int .i64 ors, .bool ord, .int .i64 hold, .int .i64 ex, .int .i64 al, .int .i64 ret],
     .agg [.int .i64 k, .int .i64 kind, .int .u32 mas, .int .i64 mh, .int .u32 mid, .int .i64 mrs, .bool mrd, .int .i64 code, .int .i64 sub, .int .i64 ori, .psl 22 path, .int .u32 nx, .bool hm, .int .u32 med, .bool hp, .int .u32 prf, .bool hor, .int .u32 orr, .psl 23 cl, .psl 119 cm, .int .i64 tk, .int .u32 tl, .int .u32 tr, .int .u32 tg, .psl 103 reach, .psl 103 un],
     .int .i64 now], [] =>
    let m : Msg := ⟨kind, mas, mh, mid, mrs, mrd, code, sub, ori, path, nx, hm, med, hp, prf, hor, orr, cl, cm, tk, tl, tr, tg, reach, un⟩
    let s : Ses := ⟨ph, asn, id, pe, ho, re, rs, pas, rsd, oas, oh, oid, ors, ord, hold, ex, al, ret⟩
    .ite (lightB m) (.ite (goesB s k now) (stepG .ite .fail s k m now stepT) .fail) .fail
  | _, _ => .fail
theorem step_i_k : Known Try.prog 15 step_i := step_k.weak (by
  intro args H v ups h
  unfold step_i at h
  split at h
  · rename_i ph asn id pe ho re rs pas rsd oas oh oid ors ord hold ex al ret k kind mas mh mid mrs mrd code sub ori path nx hm med hp prf hor orr cl cm tk tl tr tg reach un now
    simp only [crun_ite] at h
    unfold step_s
    simp only [crun_ite]
    cases hl : lightB ⟨kind, mas, mh, mid, mrs, mrd, code, sub, ori, path, nx, hm, med, hp, prf, hor, orr, cl, cm, tk, tl, tr, tg, reach, un⟩ with
    | false => rw [hl] at h; cases h
    | true =>
      rw [hl] at h
      simp only [cond_true] at h ⊢
      cases hg : goesB ⟨ph, asn, id, pe, ho, re, rs, pas, rsd, oas, oh, oid, ors, ord, hold, ex, al, ret⟩ k now with
      | false => rw [hg] at h; cases h
      | true =>
        rw [hg] at h
        simp only [cond_true] at h
        rw [stepG_ite] at h
        rw [← h, crun_stepT]
        unfold stepP
        rw [hg]
        have e := stepG_nat (R := CTree) .fail (fun p => stepT p.1 p.2) (fun b _ _ => by cases b <;> rfl) ⟨ph, asn, id, pe, ho, re, rs, pas, rsd, oas, oh, oid, ors, ord, hold, ex, al, ret⟩ k ⟨kind, mas, mh, mid, mrs, mrd, code, sub, ori, path, nx, hm, med, hp, prf, hor, orr, cl, cm, tk, tl, tr, tg, reach, un⟩ now hl
        simp only at e
        simp only [cond_true]
        exact (congrArg crun e).symm
  · cases h)
abbrev evCo : List (Option TypeId) := [none, none, none, none, none, none, none, none, none, none, some 22, none, none, none, none, none, none, none, some 23, some 119, none, none, none, none, some 103, some 103]
abbrev stepC (s : CSumm) : CSumm := coS [[], evCo, []] s
theorem stepI_k : Known Try.prog 15 (stepC step_i) := step_i_k.co _
theorem stepS_k : Known Try.prog 15 (stepC step_s) := step_k.co _

abbrev κi := tbl [(15, stepC step_i), (29, hold_s)]
theorem oki : KOk Try.prog κi := tbl_cons stepI_k (tbl_cons hold_k ok0)
noncomputable abbrev estO : CSumm := bodyC Try.prog (openT Try.prog κi 300 5) (fun g => inl κi g && hasBody Try.prog g) true 300 Try.f23
abbrev cfgS (ph h hold ex al ret oas oh oid : Int) : Ses := ⟨ph, 65000, 1, 2, h, 5, 0, false, false, oas, oh, oid, 0, false, hold, ex, al, ret⟩
def minI (a b : Int) : Int := bif decide (b < a) then b else a
theorem est_t (h : Int) : estO [.int .i64 h] [] =
    bif !(and2 (and2 (and2 (and2 (and2 (and2 (and2 (1 != 0) (2 != 0)) (1 != 2)) (holdB h)) (decide (5 ≥ 1))) (decide (5 ≤ 65535))) (decide (0 ≥ 0))) (decide (0 ≤ 4095))) then .fail else
    bif goesB (cfgS 0 h 0 (-1) (-1) (-1) 0 0 0) 1 0 then bif goesB (cfgS 1 h 0 (-1) (-1) 5 0 0 0) 3 6 then bif goesB (cfgS 2 h 0 36 (-1) (-1) 0 0 0) 5 7 then
      bif !holdB h then bif goesB (cfgS 1 h 0 (-1) (-1) 12 0 0 0) 5 8 then .ret (Ses.v (cfgS 1 h 0 (-1) (-1) 12 0 0 0)) [] else .fail
      else bif minI h h == 0 then bif minI h h == 0 then bif goesB (cfgS 3 h (minI h h) (-1) (-1) (-1) 65000 h 2) 5 8 then bif minI h h == 0 then .ret (Ses.v (cfgS 4 h (minI h h) (-1) (-1) (-1) 65000 h 2)) [] else .ret (Ses.v (cfgS 4 h (minI h h) (w64 (8 + minI h h)) (-1) (-1) 65000 h 2)) [] else .fail
          else bif goesB (cfgS 3 h (minI h h) (-1) (w64 (7 + w64 ((minI h h).tdiv 3))) (-1) 65000 h 2) 5 8 then bif minI h h == 0 then .ret (Ses.v (cfgS 4 h (minI h h) (-1) (w64 (7 + w64 ((minI h h).tdiv 3))) (-1) 65000 h 2)) [] else .ret (Ses.v (cfgS 4 h (minI h h) (w64 (8 + minI h h)) (w64 (7 + w64 ((minI h h).tdiv 3))) (-1) 65000 h 2)) [] else .fail
        else bif minI h h == 0 then bif goesB (cfgS 3 h (minI h h) (w64 (7 + minI h h)) (-1) (-1) 65000 h 2) 5 8 then bif minI h h == 0 then .ret (Ses.v (cfgS 4 h (minI h h) (-1) (-1) (-1) 65000 h 2)) [] else .ret (Ses.v (cfgS 4 h (minI h h) (w64 (8 + minI h h)) (-1) (-1) 65000 h 2)) [] else .fail
          else bif goesB (cfgS 3 h (minI h h) (w64 (7 + minI h h)) (w64 (7 + w64 ((minI h h).tdiv 3))) (-1) 65000 h 2) 5 8 then bif minI h h == 0 then .ret (Ses.v (cfgS 4 h (minI h h) (-1) (w64 (7 + w64 ((minI h h).tdiv 3))) (-1) 65000 h 2)) [] else .ret (Ses.v (cfgS 4 h (minI h h) (w64 (8 + minI h h)) (w64 (7 + w64 ((minI h h).tdiv 3))) (-1) 65000 h 2)) [] else .fail
    else .fail else .fail else .fail := by kernel_rfl
end Go.Proofs.Ytbeolnccdhjjeaa
