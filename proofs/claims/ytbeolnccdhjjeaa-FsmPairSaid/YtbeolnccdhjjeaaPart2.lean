/- Sessions: what is known of the step. -/
import Derived.Test.YtbeolnccdhjjeaaPart1
import Derived.Test.YtbeolnccdhjjeaaMachine7
set_option linter.unusedVariables false
set_option linter.unusedSimpArgs false
namespace Go.Proofs.Ytbeolnccdhjjeaa
open Go.Am
set_option maxRecDepth 100000
theorem hold_k : Known Try.prog 29 hold_s := known_of_bodyS noNumTry mixTry ok0 Try.func29 rfl (by
 intro args H v ups h
 unfold hold_s at h
 split at h
 · rename_i n
   have e : bodyS Try.prog (tbl []) Try.f29 [.int .i64 n] [] = .ret (.bool (holdB n)) [] := by kernel_rfl
   rw [e, ← h]
 · cases h)
def timer_s : CSumm
 | [.int .i64 n], [] => .ret (.bool (timerB n)) []
 | _, _ => .fail
theorem timer_k : Known Try.prog 30 timer_s := known_of_bodyS noNumTry mixTry ok0 Try.func30 rfl (by
 intro args H v ups h
 unfold timer_s at h
 split at h
 · rename_i n
   have e : bodyS Try.prog (tbl []) Try.f30 [.int .i64 n] [] = .ret (.bool (timerB n)) [] := by kernel_rfl
   rw [e, ← h]
 · cases h)
abbrev κv := tbl [(29, hold_s), (30, timer_s)]
theorem okv : KOk Try.prog κv := tbl_cons hold_k (tbl_cons timer_k ok0)
noncomputable abbrev validO : CSumm := bodyC Try.prog (openT Try.prog κv 300 5) (fun g => inl κv g && hasBody Try.prog g) true 300 Try.f13
def and2 (a b : Bool) : Bool := bif a then b else false
theorem and2_eq (a b : Bool) : and2 a b = (a && b) := by cases a <;> rfl
theorem valid_t (ph asn id pe ho re rs : Int) (pas rsd : Bool) (oas oh oid ors : Int) (ord : Bool) (hold ex al ret : Int) : validO [Ses.v ⟨ph, asn, id, pe, ho, re, rs, pas, rsd, oas, oh, oid, ors, ord, hold, ex, al, ret⟩] [] =
  .ret (.bool (and2 (and2 (and2 (and2 (and2 (and2 (and2 (and2 (and2 (and2 (and2 (and2 (and2 (id != 0) (pe != 0)) (id != pe)) (holdB ho)) (decide (re ≥ 1))) (decide (re ≤ 65535))) (decide (rs ≥ 0))) (decide (rs ≤ 4095))) (decide (ph ≥ 0))) (decide (ph ≤ 4))) (holdB hold)) (timerB ex)) (timerB al)) (timerB ret))) [] := by kernel_rfl
def valid_s : CSumm
 | [.agg [.int .i64 ph, .int .u32 asn, .int .u32 id, .int .u32 pe, .int .i64 ho, .int .i64 re, .int .i64 rs, .bool pas, .bool rsd, .int .u32 oas, .int .i64 oh, .int .u32 oid, .int .i64 ors, .bool ord, .int .i64 hold, .int .i64 ex, .int .i64 al, .int .i64 ret]], [] =>
  .ret (.bool (Ses.ok ⟨ph, asn, id, pe, ho, re, rs, pas, rsd, oas, oh, oid, ors, ord, hold, ex, al, ret⟩)) []
 | _, _ => .fail
theorem openKnown {T : Nat → Option CSumm} (hT : KOk Try.prog T) {f : Nat} {fn : Func} (hf : Try.prog.funcs[f]? = some fn) (hb : fn.body.isNone = false) : Known Try.prog f (bodyC Try.prog (openT Try.prog T 300 5) (fun g => inl T g && hasBody Try.prog g) true 300 fn) :=
 known_of_bodyC noNumTry mixTry (openT_ok noNumTry mixTry hT 300 5) hf hb (fun _ _ _ _ h => h)
theorem valid_k : Known Try.prog 13 valid_s := (openKnown okv Try.func13 rfl).weak (by
 intro args H v ups h
 unfold valid_s at h
 split at h
 · rw [show bodyC Try.prog (openT Try.prog κv 300 5) (fun g => inl κv g && hasBody Try.prog g) true 300 Try.f13 = validO from rfl, valid_t, ← h]
   simp only [and2_eq, Ses.ok, soundB]
 · cases h)
theorem valid_yes_k : Known Try.prog 13 valid_yes := valid_k.weak (by
 intro args H v ups h
 unfold valid_yes at h
 split at h
 · rename_i ph asn id pe ho re rs pas rsd oas oh oid ors ord hold ex al ret
   unfold valid_s
   simp only [crun] at h ⊢
   split at h
   · rename_i hh; rw [hh]; exact h
   · cases h
 · cases h)
def valid_no : CSumm
 | [.agg [.int .i64 ph, .int .u32 asn, .int .u32 id, .int .u32 pe, .int .i64 ho, .int .i64 re, .int .i64 rs, .bool pas, .bool rsd, .int .u32 oas, .int .i64 oh, .int .u32 oid, .int .i64 ors, .bool ord, .int .i64 hold, .int .i64 ex, .int .i64 al, .int .i64 ret]], [] =>
  .ite (Ses.ok ⟨ph, asn, id, pe, ho, re, rs, pas, rsd, oas, oh, oid, ors, ord, hold, ex, al, ret⟩) .fail (.ret (.bool false) [])
 | _, _ => .fail
theorem valid_no_k : Known Try.prog 13 valid_no := valid_k.weak (by
 intro args H v ups h
 unfold valid_no at h
 split at h
 · rename_i ph asn id pe ho re rs pas rsd oas oh oid ors ord hold ex al ret
   unfold valid_s
   simp only [crun] at h ⊢
   split at h
   · cases h
   · rename_i hh; rw [Bool.not_eq_true] at hh; rw [hh]; exact h
 · cases h)
theorem known_yes_k : Known Try.prog 33 known_yes := known_k.weak (by
 intro args H v ups h
 unfold known_yes at h
 split at h
 · unfold known_s
   simp only [crun] at h ⊢
   split at h
   · rename_i hh; rw [hh]; exact h
   · cases h
 · cases h)
def known_no : CSumm
 | [.int .i64 k], [] => .ite (knownB k) .fail (.ret (.bool false) [])
 | _, _ => .fail
theorem known_no_k : Known Try.prog 33 known_no := known_k.weak (by
 intro args H v ups h
 unfold known_no at h
 split at h
 · unfold known_s
   simp only [crun] at h ⊢
   split at h
   · cases h
   · rename_i hh; rw [Bool.not_eq_true] at hh; rw [hh]; exact h
 · cases h)
theorem oks : KOk Try.prog κs := tbl_cons valid_yes_k (tbl_cons known_yes_k (tbl_cons hold_k (tbl_cons cl78_k (tbl_cons cl79_k (tbl_cons cl80_k (tbl_cons cl81_k ok0))))))
abbrev κs1 := tbl [(13, valid_no)]
abbrev κs2 := tbl [(13, valid_yes), (33, known_no)]
theorem oks1 : KOk Try.prog κs1 := tbl_cons valid_no_k ok0
theorem oks2 : KOk Try.prog κs2 := tbl_cons valid_yes_k (tbl_cons known_no_k ok0)
noncomputable abbrev stepB1 : CSumm := bodyC Try.prog (openT Try.prog κs1 300 5) (fun g => inl κs1 g && hasBody Try.prog g) true 300 Try.f15
noncomputable abbrev stepB2 : CSumm := bodyC Try.prog (openT Try.prog κs2 300 5) (fun g => inl κs2 g && hasBody Try.prog g) true 300 Try.f15
theorem step_no1 (s : Ses) (k : Int) (m : Msg) (now : Int) : stepB1 [s.v, evV k m, .int .i64 now] [] = bif s.ok then .fail else stepT s [] := by kernel_rfl
theorem step_no2 (s : Ses) (k : Int) (m : Msg) (now : Int) : stepB2 [s.v, evV k m, .int .i64 now] [] = bif s.ok then bif decide (now < 0) then stepT s [] else bif decide (now > 1099511627776) then stepT s [] else bif knownB k then .fail else stepT s [] else .fail := by kernel_rfl
theorem stepB_k : Known Try.prog 15 stepB := openKnown oks Try.func15 rfl
theorem stepB1_k : Known Try.prog 15 stepB1 := openKnown oks1 Try.func15 rfl
theorem stepB2_k : Known Try.prog 15 stepB2 := openKnown oks2 Try.func15 rfl
theorem known_or {f : Nat} {a b c s : CSumm} (ha : Known Try.prog f a) (hb : Known Try.prog f b) (hc : Known Try.prog f c) (h : ∀ args H v ups, crun (s args H) = some (v, ups) → crun (a args H) = some (v, ups) ∨ crun (b args H) = some (v, ups) ∨ crun (c args H) = some (v, ups)) : Known Try.prog f s :=
 ⟨ha.fn, fun args H v ups hr => (h args H v ups hr).elim (fun h => ha.ok args H v ups h) (fun h => h.elim (fun h => hb.ok args H v ups h) (fun h => hc.ok args H v ups h))⟩
def goesB (s : Ses) (k now : Int) : Bool := s.ok && decide (0 ≤ now) && decide (now ≤ 1099511627776) && knownB k
noncomputable def stepP (s : Ses) (k : Int) (m : Msg) (now : Int) : Ses × List Act := bif goesB s k now then stepG cond (s, []) s k m now Prod.mk else (s, [])
def resT (p : Ses × List Act) : CTree := .ite p.2.isEmpty (.ret (.tup [p.1.v, .nils]) []) (.ret (.tup [p.1.v, .qs 0 27 0 p.2.length]) [(0, some (.seq 57 (p.2.map Act.v)))])
noncomputable def step_s : CSumm
 | [.agg [.int .i64 ph, .int .u32 asn, .int .u32 id, .int .u32 pe, .int .i64 ho, .int .i64 re, .int .i64 rs, .bool pas, .bool rsd, .int .u32 oas, .int .i64 oh, .int .u32 oid, .int .i64 ors, .bool ord, .int .i64 hold, .int .i64 ex, .int .i64 al, .int .i64 ret],
    .agg [.int .i64 k, .int .i64 kind, .int .u32 mas, .int .i64 mh, .int .u32 mid, .int .i64 mrs, .bool mrd, .int .i64 code, .int .i64 sub, .int .i64 ori, .psl 22 path, .int .u32 nx, .bool hm, .int .u32 med, .bool hp, .int .u32 prf, .bool hor, .int .u32 orr, .psl 23 cl, .psl 119 cm, .int .i64 tk, .int .u32 tl, .int .u32 tr, .int .u32 tg, .psl 103 reach, .psl 103 un],
    .int .i64 now], [] =>
  let m : Msg := ⟨kind, mas, mh, mid, mrs, mrd, code, sub, ori, path, nx, hm, med, hp, prf, hor, orr, cl, cm, tk, tl, tr, tg, reach, un⟩
  .ite (lightB m) (resT (stepP ⟨ph, asn, id, pe, ho, re, rs, pas, rsd, oas, oh, oid, ors, ord, hold, ex, al, ret⟩ k m now)) .fail
 | _, _ => .fail
theorem crun_stepT (p : Ses × List Act) : crun (resT p) = crun (stepT p.1 p.2) := by
 obtain ⟨s, l⟩ := p
 cases l <;> rfl
theorem stepG_nat {R : Type} (fl : R) (f : Ses × List Act → R) (h' : ∀ (b : Bool) (x y : Ses × List Act), f (bif b then x else y) = bif b then f x else f y)
  (s : Ses) (k : Int) (m : Msg) (now : Int) (hl : lightB m = true) : stepG cond fl s k m now (fun s l => f (s, l)) = f (stepG cond (s, []) s k m now Prod.mk) := by
 simp only [lightB, Bool.and_eq_true] at hl
 simp only [stepG, laterG, failG, leaveG, setRetryG, setHoldG, setAliveG, h', hl, cond_true]
theorem crun_ite (b : Bool) (x y : CTree) : crun (.ite b x y) = bif b then crun x else crun y := by cases b <;> rfl
theorem crun_cond (b : Bool) (x y : CTree) : crun (bif b then x else y) = bif b then crun x else crun y := by cases b <;> rfl
theorem stepG_ite (s : Ses) (k : Int) (m : Msg) (now : Int) (κ : Ses → List Act → CTree) : crun (stepG CTree.ite .fail s k m now κ) = crun (stepG cond .fail s k m now κ) := by
 simp only [stepG, laterG, failG, leaveG, setRetryG, setHoldG, setAliveG, crun_ite, crun_cond]
theorem stepW_eq (s : Ses) (k : Int) (m : Msg) (now : Int) (hl : lightB m = true) (hg : goesB s k now = true) : crun (stepW s k m now) = crun (resT (stepP s k m now)) := by
 unfold stepP
 rw [hg]
 simp only [goesB, Bool.and_eq_true, decide_eq_true_eq] at hg
 obtain ⟨⟨⟨h1, h2⟩, h3⟩, h4⟩ := hg
 unfold stepW
 rw [h1, h4, show decide (now < 0) = false by simp; omega, show decide (now > 1099511627776) = false by simp; omega]
 simp only [cond_true, cond_false]
 rw [crun_stepT]
 have e := stepG_nat (R := CTree) .fail (fun p => stepT p.1 p.2) (fun b _ _ => by cases b <;> rfl) s k m now hl
 simp only at e
 exact congrArg crun e
theorem stepP_no {s : Ses} {k : Int} {m : Msg} {now : Int} (hg : goesB s k now = false) : stepP s k m now = (s, []) := by
 unfold stepP; rw [hg]; rfl
theorem step_lit (s : Ses) (k : Int) (m : Msg) (now : Int) (hs : s.ok = true) (hk : knownB k = true) : stepB [s.v, evV k m, .int .i64 now] [] = stepW s k m now := by
 obtain ⟨ph, asn, id, pe, ho, re, rs, pas, rsd, oas, oh, oid, ors, ord, hold, ex, al, ret⟩ := s
 have hp : ph = 0 ∨ ph = 1 ∨ ph = 2 ∨ ph = 3 ∨ ph = 4 := by
  simp only [Ses.ok, Bool.and_eq_true, decide_eq_true_eq] at hs
  omega
 have hk' : k = 1 ∨ k = 2 ∨ k = 3 ∨ k = 4 ∨ k = 5 ∨ k = 6 ∨ k = 7 := by
  simp only [knownB, Bool.or_eq_true, beq_iff_eq] at hk
  omega
 rcases hp with rfl | rfl | rfl | rfl | rfl <;> rcases hk' with rfl | rfl | rfl | rfl | rfl | rfl | rfl
 · exact step_0_1 ..
 · exact step_0_2 ..
 · exact step_0_3 ..
 · exact step_0_4 ..
 · exact step_0_5 ..
 · exact step_0_6 ..
 · exact step_0_7 ..
 · exact step_1_1 ..
 · exact step_1_2 ..
 · exact step_1_3 ..
 · exact step_1_4 ..
 · exact step_1_5 ..
 · exact step_1_6 ..
 · exact step_1_7 ..
 · exact step_2_1 ..
 · exact step_2_2 ..
 · exact step_2_3 ..
 · exact step_2_4 ..
 · exact step_2_5 ..
 · exact step_2_6 ..
 · exact step_2_7 ..
 · exact step_3_1 ..
 · exact step_3_2 ..
 · exact step_3_3 ..
 · exact step_3_4 ..
 · exact step_3_5 ..
 · exact step_3_6 ..
 · exact step_3_7 ..
 · exact step_4_1 ..
 · exact step_4_2 ..
 · exact step_4_3 ..
 · exact step_4_4 ..
 · exact step_4_5 ..
 · exact step_4_6 ..
 · exact step_4_7 ..
theorem step_k : Known Try.prog 15 step_s := known_or stepB1_k stepB2_k stepB_k (by
 intro args H v ups h
 unfold step_s at h
 split at h
 · rename_i ph asn id pe ho re rs pas rsd oas oh oid ors ord hold ex al ret k kind mas mh mid mrs mrd code sub ori path nx hm med hp prf hor orr cl cm tk tl tr tg reach un now
   simp only [crun] at h
   split at h
   · rename_i hl
     cases hg : goesB ⟨ph, asn, id, pe, ho, re, rs, pas, rsd, oas, oh, oid, ors, ord, hold, ex, al, ret⟩ k now with
     | true =>
      right; right
      have hg' := hg
      simp only [goesB, Bool.and_eq_true] at hg'
      rw [← stepW_eq _ _ _ _ hl hg] at h
      rw [← h]
      exact congrArg crun (step_lit ⟨ph, asn, id, pe, ho, re, rs, pas, rsd, oas, oh, oid, ors, ord, hold, ex, al, ret⟩ k ⟨kind, mas, mh, mid, mrs, mrd, code, sub, ori, path, nx, hm, med, hp, prf, hor, orr, cl, cm, tk, tl, tr, tg, reach, un⟩ now hg'.1.1.1 hg'.2)
     | false =>
      rw [stepP_no hg, crun_stepT] at h
      have e1 := step_no1 ⟨ph, asn, id, pe, ho, re, rs, pas, rsd, oas, oh, oid, ors, ord, hold, ex, al, ret⟩ k ⟨kind, mas, mh, mid, mrs, mrd, code, sub, ori, path, nx, hm, med, hp, prf, hor, orr, cl, cm, tk, tl, tr, tg, reach, un⟩ now
      have e2 := step_no2 ⟨ph, asn, id, pe, ho, re, rs, pas, rsd, oas, oh, oid, ors, ord, hold, ex, al, ret⟩ k ⟨kind, mas, mh, mid, mrs, mrd, code, sub, ori, path, nx, hm, med, hp, prf, hor, orr, cl, cm, tk, tl, tr, tg, reach, un⟩ now
      cases ho : Ses.ok ⟨ph, asn, id, pe, ho, re, rs, pas, rsd, oas, oh, oid, ors, ord, hold, ex, al, ret⟩ with
      | false =>
       left
       rw [ho] at e1
       rw [← h]
       exact congrArg crun e1
      | true =>
       right; left
       rw [ho] at e2
       rw [← h]
       refine (congrArg crun e2).trans ?_
       simp only [goesB, ho, Bool.true_and] at hg
       simp only [cond_true]
       cases h1 : decide (now < 0) with
       | true => rfl
       | false =>
        cases h2 : decide (now > 1099511627776) with
        | true => rfl
        | false =>
         have : knownB k = false := by
          simp only [decide_eq_false_iff_not] at h1 h2
          cases hk : knownB k with
          | false => rfl
          | true =>
           rw [hk, Bool.and_true, Bool.and_eq_false_iff] at hg
           simp only [decide_eq_false_iff_not] at hg
           omega
         rw [this]
         rfl
   · cases h
 · cases h)
end Go.Proofs.Ytbeolnccdhjjeaa
/- Sessions: the step with its tests told apart; an established session. -/
namespace Go.Proofs.Ytbeolnccdhjjeaa
open Go.Am
set_option maxRecDepth 100000
def step_i : CSumm
 | [.agg [.int .i64 ph, .int .u32 asn, .int .u32 id, .int .u32 pe, .int .i64 ho, .int .i64 re, .int .i64 rs, .bool pas, .bool rsd, .int .u32 oas, .int .i64 oh, .int .u32 oid, .int .i64 ors, .bool ord, .int .i64 hold, .int .i64 ex, .int .i64 al, .int .i64 ret],
    .agg [.int .i64 k, .int .i64 kind, .int .u32 mas, .int .i64 mh, .int .u32 mid, .int .i64 mrs, .bool mrd, .int .i64 code, .int .i64 sub, .int .i64 ori, .psl 22 path, .int .u32 nx, .bool hm, .int .u32 med, .bool hp, .int .u32 prf, .bool hor, .int .u32 orr, .psl 23 cl, .psl 119 cm, .int .i64 tk, .int .u32 tl, .int .u32 tr, .int .u32 tg, .psl 103 reach, .psl 103 un],
    .int .i64 now], [] =>
  let m : Msg := ⟨kind, mas, mh, mid, mrs, mrd, code, sub, ori, path, nx, hm, med, hp, prf, hor, orr, cl, cm, tk, tl, tr, tg, reach, un⟩
  let s : Ses := ⟨ph, asn, id, pe, ho, re, rs, pas, rsd, oas, oh, oid, ors, ord, hold, ex, al, ret⟩
  .ite (lightB m) (.ite (goesB s k now) (stepG .ite .fail s k m now stepT) .fail) .fail
 | _, _ => .fail
theorem step_i_k : Known Try.prog 15 step_i := step_k.weak (by
 intro args H v ups h
 unfold step_i at h
 split at h
 · rename_i ph asn id pe ho re rs pas rsd oas oh oid ors ord hold ex al ret k kind mas mh mid mrs mrd code sub ori path nx hm med hp prf hor orr cl cm tk tl tr tg reach un now
   simp only [crun_ite] at h
   unfold step_s
   simp only [crun_ite]
   cases hl : lightB ⟨kind, mas, mh, mid, mrs, mrd, code, sub, ori, path, nx, hm, med, hp, prf, hor, orr, cl, cm, tk, tl, tr, tg, reach, un⟩ with
   | false => rw [hl] at h; cases h
   | true =>
    rw [hl] at h
    simp only [cond_true] at h ⊢
    cases hg : goesB ⟨ph, asn, id, pe, ho, re, rs, pas, rsd, oas, oh, oid, ors, ord, hold, ex, al, ret⟩ k now with
    | false => rw [hg] at h; cases h
    | true =>
     rw [hg] at h
     simp only [cond_true] at h
     rw [stepG_ite] at h
     rw [← h, crun_stepT]
     unfold stepP
     rw [hg]
     have e := stepG_nat (R := CTree) .fail (fun p => stepT p.1 p.2) (fun b _ _ => by cases b <;> rfl) ⟨ph, asn, id, pe, ho, re, rs, pas, rsd, oas, oh, oid, ors, ord, hold, ex, al, ret⟩ k ⟨kind, mas, mh, mid, mrs, mrd, code, sub, ori, path, nx, hm, med, hp, prf, hor, orr, cl, cm, tk, tl, tr, tg, reach, un⟩ now hl
     simp only at e
     simp only [cond_true]
     exact (congrArg crun e).symm
 · cases h)
abbrev evCo : List (Option TypeId) := [none, none, none, none, none, none, none, none, none, none, some 22, none, none, none, none, none, none, none, some 23, some 119, none, none, none, none, some 103, some 103]
abbrev stepC (s : CSumm) : CSumm := coS [[], evCo, []] s
theorem stepI_k : Known Try.prog 15 (stepC step_i) := step_i_k.co _
abbrev cfgS (ph h hold ex al ret oas oh oid : Int) : Ses := ⟨ph, 65000, 1, 2, h, 5, 0, false, false, oas, oh, oid, 0, false, hold, ex, al, ret⟩
def minI (a b : Int) : Int := bif decide (b < a) then b else a
end Go.Proofs.Ytbeolnccdhjjeaa
/- Sessions: the step, as the reference computes it. -/
namespace Go.Proofs.Ytbeolnccdhjjeaa
open Go.Am
set_option maxRecDepth 100000
section
variable {R : Type} (ite : Bool → R → R → R)
end
end Go.Proofs.Ytbeolnccdhjjeaa
/- Sessions: what is known of the reference's step. -/
namespace Go.Proofs.Ytbeolnccdhjjeaa
open Go.Am
set_option maxRecDepth 100000
end Go.Proofs.Ytbeolnccdhjjeaa
/- Sessions that are established: a tick, a KEEPALIVE. -/
namespace Go.Proofs.Ytbeolnccdhjjeaa
open Go.Am
set_option maxRecDepth 100000
theorem w64_id {n : Int} (h1 : -9223372036854775808 ≤ n) (h2 : n ≤ 9223372036854775807) : w64 n = n := by
 simp [IntKind.wrap, IntKind.bits, IntKind.signed]; omega
theorem holdB_iff (n : Int) : holdB n = true ↔ n = 0 ∨ (3 ≤ n ∧ n ≤ 65535) := by
 unfold holdB
 cases h : (n == 0) with
 | true => simp at h; simp [h]
 | false => simp at h; simp only [cond_false]; cases h2 : decide (n ≥ 3) <;> simp at h2 ⊢ <;> omega
theorem timerB_iff (n : Int) : timerB n = true ↔ n = -1 ∨ (0 ≤ n ∧ n ≤ 2199023255552) := by
 unfold timerB
 cases h : (n == -1) with
 | true => simp at h; simp [h]
 | false => simp at h; simp only [cond_false]; cases h2 : decide (n ≥ 0) <;> simp at h2 ⊢ <;> omega
abbrev est (h ex al : Int) : Ses := cfgS 4 h h ex al (-1) 65000 h 2
def exAt (h t : Int) : Int := bif h == 0 then -1 else t + h
def alAt (h t : Int) : Int := bif h == 0 then -1 else t + h.tdiv 3
def est_s : CSumm
 | [.int .i64 h], [] => .ite (holdB h) (.ret (Ses.v (est h (exAt h 8) (alAt h 7))) []) .fail
 | _, _ => .fail
def pickI (x n : Int) : Int := bif decide (x.tmod n < 0) then w64 (x.tmod n + n) else x.tmod n
def pick_s : CSumm
 | [.int .i64 x, .int .i64 n], [] => .ite (n == 0) .fail (.ret (.int .i64 (pickI x n)) [])
 | _, _ => .fail
theorem pick_k : Known Try.prog 20 pick_s := known_of_bodyS noNumTry mixTry ok0 Try.func20 rfl (by
 intro args H v ups h
 unfold pick_s at h
 split at h
 · rename_i x n
   have e : bodyS Try.prog (tbl []) Try.f20 [.int .i64 x, .int .i64 n] [] = bif n == 0 then .fail else bif decide (x.tmod n < 0) then .ret (.int .i64 (w64 (x.tmod n + n))) [] else .ret (.int .i64 (x.tmod n)) [] := by kernel_rfl
   rw [e, ← h]
   unfold pickI
   rw [crun_ite]
   cases n == 0 <;> cases decide (x.tmod n < 0) <;> rfl
 · cases h)
theorem pick_range {x n : Int} (h1 : 0 < n) (h2 : n ≤ 1000000) : 0 ≤ pickI x n ∧ pickI x n < n := by
 have a := Int.tmod_lt_of_pos x h1
 have b : -n < x.tmod n := by
  have := Int.tmod_lt_of_pos (-x) h1
  rw [Int.neg_tmod] at this
  omega
 unfold pickI
 cases h : decide (x.tmod n < 0) with
 | true =>
  simp only [decide_eq_true_eq] at h
  rw [cond_true, w64_id (by omega) (by omega)]
  omega
 | false =>
  simp only [decide_eq_false_iff_not] at h
  rw [cond_false]
  omega
def lives_s : CSumm := constS (.bool true)
theorem lives_k : Known Try.prog 9 lives_s := known_closed noNumTry mixTry Try.func9 rfl (show callK (closedS Try.prog 300 12) 9 [] [] = some (.bool true, []) by kernel_rfl)
end Go.Proofs.Ytbeolnccdhjjeaa
/- Sessions: what a step leaves. -/
namespace Go.Proofs.Ytbeolnccdhjjeaa
open Go.Am
set_option maxRecDepth 100000
def runActs (same : Msg → Bool) : Bool → List Act → Option Bool
 | up, [] => some up
 | up, a :: l =>
  if a.kind == 4 then (if up then none else runActs same true l)
  else if a.kind == 5 then (if !up || decide (a.reason < 1) || decide (a.reason > 5) then none else runActs same false l)
  else if a.kind == 6 then (if !up || !same a.m then none else runActs same up l)
  else runActs same up l
structure Post (s : Ses) (k : Int) (m : Msg) (now : Int) (p : Ses × List Act) : Prop where
 ok : p.1.ok = true
 cfg : p.1.asn = s.asn ∧ p.1.id = s.id ∧ p.1.pe = s.pe ∧ p.1.ho = s.ho ∧ p.1.re = s.re ∧ p.1.rs = s.rs ∧ p.1.pas = s.pas ∧ p.1.rsd = s.rsd
 run : ∀ same : Msg → Bool, same m = true → runActs same (s.ph == 4) p.2 = some (p.1.ph == 4)
 idle : s.ph = 0 → p.1.ph ≠ 0 → k = 1
section
variable {R : Type}
def retS (s : Ses) (now : Int) : Ses := { s with ret := bif s.pas then -1 else w64 (now + s.re) }
def exS (s : Ses) (now : Int) : Ses := { s with ex := bif s.hold == 0 then -1 else w64 (now + s.hold) }
def alS (s : Ses) (now : Int) : Ses := { s with al := bif s.hold == 0 then -1 else w64 (now + w64 (s.hold.tdiv 3)) }
def leaveS (s : Ses) (now : Int) : Ses := { s with ph := 1, oas := 0, oh := 0, oid := 0, ors := 0, ord := false, hold := 0, ex := -1, al := -1, ret := bif s.pas then -1 else w64 (now + s.re) }
def downL (s : Ses) (r : Int) : List Act := bif s.ph == 4 then [⟨5, msg0, r⟩] else []
theorem setRetryG_eq (s : Ses) (now : Int) (κ : Ses → R) : setRetryG cond s now κ = κ (retS s now) := by
 unfold setRetryG retS; cases s.pas <;> rfl
theorem setHoldG_eq (s : Ses) (now : Int) (κ : Ses → R) : setHoldG cond s now κ = κ (exS s now) := by
 unfold setHoldG exS; cases s.hold == 0 <;> rfl
theorem setAliveG_eq (s : Ses) (now : Int) (κ : Ses → R) : setAliveG cond s now κ = κ (alS s now) := by
 unfold setAliveG alS; cases s.hold == 0 <;> rfl
theorem leaveG_eq (s : Ses) (l : List Act) (r now : Int) (κ : Ses → List Act → R) : leaveG cond s l r now κ = κ (leaveS s now) (l ++ downL s r) := by
 unfold leaveG
 rw [setRetryG_eq, setRetryG_eq]
 unfold downL
 cases s.ph == 4 with
 | true => rfl
 | false => rw [cond_false, cond_false, List.append_nil]; rfl
theorem failG_eq (s : Ses) (code sub r now : Int) (κ : Ses → List Act → R) : failG cond s code sub r now κ = κ (leaveS s now) ([send { msg0 with kind := 3, code := code, sub := sub }, plain 3] ++ downL s r) := leaveG_eq ..
end
variable {s : Ses} {k : Int} {m : Msg} {now : Int}
end Go.Proofs.Ytbeolnccdhjjeaa
/- Sessions: copies of events, bounds, new sessions. -/
namespace Go.Proofs.Ytbeolnccdhjjeaa
open Go.Am
set_option maxRecDepth 100000
noncomputable abbrev opn (T : Nat → Option CSumm) (fn : Func) : CSumm := bodyC Try.prog (openT Try.prog T 300 5) (fun g => inl T g && hasBody Try.prog g) true 300 fn
def ownA_s : CSumm
 | [.agg [.int .i64 ori, .psl 22 path, .int .u32 nx, .bool hm, .int .u32 med, .bool hp, .int .u32 prf, .bool hor, .int .u32 orr, .psl 23 cl, .psl 119 cm, .int .i64 tk, .int .u32 tl, .int .u32 tr, .int .u32 tg]], [] =>
  .ite (bndE 4 path) (.ite (bndE 4 cl) (.ite (bndE 8 cm) (.ret (.agg [.int .i64 ori, .psl 22 path, .int .u32 nx, .bool hm, .int .u32 med, .bool hp, .int .u32 prf, .bool hor, .int .u32 orr, .psl 23 cl, .psl 119 cm, .int .i64 tk, .int .u32 tl, .int .u32 tr, .int .u32 tg]) []) .fail) .fail) .fail
 | _, _ => .fail
def lightM (m : Msg) : Bool := and2 (and2 (and2 (and2 (decide ((m.path.length : Int) ≤ 40)) (decide ((m.cl.length : Int) ≤ 20))) (decide ((m.cm.length : Int) ≤ 80))) (decide ((m.reach.length : Int) ≤ 40))) (decide ((m.un.length : Int) ≤ 40))
def cfgOk (b c d e f : Int) : Bool := and2 (and2 (and2 (and2 (and2 (and2 (and2 (b != 0) (c != 0)) (b != c)) (holdB d)) (decide (e ≥ 1))) (decide (e ≤ 65535))) (decide (f ≥ 0))) (decide (f ≤ 4095))
def newS (a b c d e f : Int) (g h : Bool) : Ses := bif cfgOk b c d e f then ⟨0, a, b, c, d, e, f, g, h, 0, 0, 0, 0, false, 0, -1, -1, -1⟩ else ⟨0, 0, 0, 0, 0, 0, 0, false, false, 0, 0, 0, 0, false, 0, 0, 0, 0⟩
def new_s : CSumm
 | [.agg [.int .u32 a, .int .u32 b, .int .u32 c, .int .i64 d, .int .i64 e, .int .i64 f, .bool g, .bool h]], [] => .ret (.tup [(newS a b c d e f g h).v, .int .i64 (bif cfgOk b c d e f then 0 else 2)]) []
 | _, _ => .fail
theorem new_t (a b c d e f : Int) (g h : Bool) : opn (tbl [(29, hold_s)]) Try.f11 [.agg [.int .u32 a, .int .u32 b, .int .u32 c, .int .i64 d, .int .i64 e, .int .i64 f, .bool g, .bool h]] [] =
 bif !cfgOk b c d e f then .ret (.tup [Ses.v ⟨0, 0, 0, 0, 0, 0, 0, false, false, 0, 0, 0, 0, false, 0, 0, 0, 0⟩, .int .i64 2]) [] else .ret (.tup [Ses.v ⟨0, a, b, c, d, e, f, g, h, 0, 0, 0, 0, false, 0, -1, -1, -1⟩, .int .i64 0]) [] := by kernel_rfl
theorem new_tree (a b c d e f : Int) (g h : Bool) : crun (bif !cfgOk b c d e f then .ret (.tup [Ses.v ⟨0, 0, 0, 0, 0, 0, 0, false, false, 0, 0, 0, 0, false, 0, 0, 0, 0⟩, .int .i64 2]) [] else .ret (.tup [Ses.v ⟨0, a, b, c, d, e, f, g, h, 0, 0, 0, 0, false, 0, -1, -1, -1⟩, .int .i64 0]) []) =
  crun (.ret (.tup [(newS a b c d e f g h).v, .int .i64 (bif cfgOk b c d e f then 0 else 2)]) []) := by
 unfold newS
 cases cfgOk b c d e f <;> rfl
theorem new_k : Known Try.prog 11 new_s := (openKnown (T := tbl [(29, hold_s)]) (tbl_cons hold_k ok0) Try.func11 rfl).weak (by
 intro args H v ups h
 unfold new_s at h
 split at h
 · rename_i a b c d e f g h'
   rw [← h, ← new_tree]
   exact congrArg crun (new_t a b c d e f g h')
 · cases h)
end Go.Proofs.Ytbeolnccdhjjeaa
/- Sessions: a step in one leaf; lists that are equal are found the same. -/
namespace Go.Proofs.Ytbeolnccdhjjeaa
open Go.Am
set_option maxRecDepth 100000
noncomputable def stepL_s : CSumm
 | [.agg [.int .i64 ph, .int .u32 asn, .int .u32 id, .int .u32 pe, .int .i64 ho, .int .i64 re, .int .i64 rs, .bool pas, .bool rsd, .int .u32 oas, .int .i64 oh, .int .u32 oid, .int .i64 ors, .bool ord, .int .i64 hold, .int .i64 ex, .int .i64 al, .int .i64 ret],
    .agg [.int .i64 k, .int .i64 kind, .int .u32 mas, .int .i64 mh, .int .u32 mid, .int .i64 mrs, .bool mrd, .int .i64 code, .int .i64 sub, .int .i64 ori, .psl 22 path, .int .u32 nx, .bool hm, .int .u32 med, .bool hp, .int .u32 prf, .bool hor, .int .u32 orr, .psl 23 cl, .psl 119 cm, .int .i64 tk, .int .u32 tl, .int .u32 tr, .int .u32 tg, .psl 103 reach, .psl 103 un],
    .int .i64 now], [] =>
  let m : Msg := ⟨kind, mas, mh, mid, mrs, mrd, code, sub, ori, path, nx, hm, med, hp, prf, hor, orr, cl, cm, tk, tl, tr, tg, reach, un⟩
  let p := stepP ⟨ph, asn, id, pe, ho, re, rs, pas, rsd, oas, oh, oid, ors, ord, hold, ex, al, ret⟩ k m now
  .ite (lightB m) (.ret (.tup [p.1.v, .qs 0 27 0 p.2.length]) [(0, some (.seq 57 (p.2.map Act.v)))]) .fail
 | _, _ => .fail
theorem stepL_of {f : FuncId} (h : Known Try.prog f step_s) : Known Try.prog f stepL_s := known_grown h (by
 intro args H v ups hr
 unfold stepL_s at hr
 split at hr
 · rename_i ph asn id pe ho re rs pas rsd oas oh oid ors ord hold ex al ret k kind mas mh mid mrs mrd code sub ori path nx hm med hp prf hor orr cl cm tk tl tr tg reach un now
   unfold step_s
   simp only [crun_ite] at hr ⊢
   generalize lightB _ = b at hr ⊢
   generalize stepP _ _ _ _ = p at hr ⊢
   obtain ⟨s, l⟩ := p
   cases b with
   | false => cases hr
   | true =>
    simp only [cond_true, crun, Option.some.injEq, Prod.mk.injEq] at hr
    obtain ⟨rfl, rfl⟩ := hr
    cases l with
    | nil => first | exact .inr ⟨_, _, _, rfl, rfl, rfl, rfl, rfl, rfl⟩ | exact .inr ⟨_, _, _, trivial, rfl, rfl, rfl, rfl, rfl⟩
    | cons a l => exact .inl rfl
 · cases hr)
theorem stepL_k : Known Try.prog 15 (stepC stepL_s) := (stepL_of step_k).co _
def leftL (xs : List SV) (i : Int) : Nat := ((xs.length : Int) - i).toNat
end Go.Proofs.Ytbeolnccdhjjeaa
/- Sessions: messages and actions that are equal are found the same. -/
namespace Go.Proofs.Ytbeolnccdhjjeaa
open Go.Am
set_option maxRecDepth 100000
def msgAt (v : SV) : Msg := ⟨asI (cellAt v 1), asI (cellAt v 2), asI (cellAt v 3), asI (cellAt v 4), asI (cellAt v 5), asB (cellAt v 6), asI (cellAt v 7), asI (cellAt v 8), asI (cellAt v 9), asL (cellAt v 10), asI (cellAt v 11), asB (cellAt v 12), asI (cellAt v 13), asB (cellAt v 14), asI (cellAt v 15), asB (cellAt v 16), asI (cellAt v 17), asL (cellAt v 18), asL (cellAt v 19), asI (cellAt v 20), asI (cellAt v 21), asI (cellAt v 22), asI (cellAt v 23), asL (cellAt v 24), asL (cellAt v 25)⟩
end Go.Proofs.Ytbeolnccdhjjeaa
