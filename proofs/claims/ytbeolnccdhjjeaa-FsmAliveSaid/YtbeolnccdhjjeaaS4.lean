/- Sessions: what is known of the step. -/
import Derived.Test.YtbeolnccdhjjeaaS3
import Derived.Test.YtbeolnccdhjjeaaAmWeak
namespace Go.Proofs.Ytbeolnccdhjjeaa
open Go.Am
set_option maxRecDepth 100000

theorem hold_k : Known Try.prog 29 hold_s := known_of_bodyS noNumTry mixTry ok0 Try.func29 rfl (by
  intro args H v ups h
  unfold hold_s at h
  split at h
  · rename_i n
    have e : bodyS Try.prog (tbl []) Try.f29 [.int .i64 n] [] = .ret (.bool (holdB n)) [] := by kernel_rfl
    rw [e, ← h]
  · cases h)
def timer_s : CSumm
  | [.int .i64 n], [] => .ret (.bool (timerB n)) []
  | _, _ => .fail
theorem timer_k : Known Try.prog 30 timer_s := known_of_bodyS noNumTry mixTry ok0 Try.func30 rfl (by
  intro args H v ups h
  unfold timer_s at h
  split at h
  · rename_i n
    have e : bodyS Try.prog (tbl []) Try.f30 [.int .i64 n] [] = .ret (.bool (timerB n)) [] := by kernel_rfl
    rw [e, ← h]
  · cases h)
abbrev κv := tbl [(29, hold_s), (30, timer_s)]
theorem okv : KOk Try.prog κv := tbl_cons hold_k (tbl_cons timer_k ok0)
noncomputable abbrev validO : CSumm := bodyC Try.prog (openT Try.prog κv 300 5) (fun g => inl κv g && hasBody Try.prog g) true 300 Try.f13
def and2 (a b : Bool) : Bool := bif a then b else false
theorem and2_eq (a b : Bool) : and2 a b = (a && b) := by cases a <;> rfl
theorem valid_t (ph asn id pe ho re rs : Int) (pas rsd : Bool) (oas oh oid ors : Int) (ord : Bool) (hold ex al ret : Int) : validO [Ses.v ⟨ph, asn, id, pe, ho, re, rs, pas, rsd, oas, oh, oid, ors, ord, hold, ex, al, ret⟩] [] =
    .ret (.bool (and2 (and2 (and2 (and2 (and2 (and2 (and2 (and2 (and2 (and2 (and2 (and2 (and2 (id != 0) (pe != 0)) (id != pe)) (holdB ho)) (decide (re ≥ 1))) (decide (re ≤ 65535))) (decide (rs ≥ 0))) (decide (rs ≤ 4095))) (decide (ph ≥ 0))) (decide (ph ≤ 4))) (holdB hold)) (timerB ex)) (timerB al)) (timerB ret))) [] := by kernel_rfl
def valid_s : CSumm
  | [.agg [.int .i64 ph, .int .u32 asn, .int .u32 id, .int .u32 pe, .int .i64 ho, .int .i64 re, .int .i64 rs, .bool pas, .bool rsd, .int .u32 oas, .int .i64 oh, .int .u32 oid, .int .i64 ors, .bool ord, .int .i64 hold, .int .i64 ex, .int .i64 al, .int .i64 ret]], [] =>
    .ret (.bool (Ses.ok ⟨ph, asn, id, pe, ho, re, rs, pas, rsd, oas, oh, oid, ors, ord, hold, ex, al, ret⟩)) []
  | _, _ => .fail
theorem openKnown {T : Nat → Option CSumm} (hT : KOk Try.prog T) {f : Nat} {fn : Func} (hf : Try.prog.funcs[f]? = some fn) (hb : fn.body.isNone = false) : Known Try.prog f (bodyC Try.prog (openT Try.prog T 300 5) (fun g => inl T g && hasBody Try.prog g) true 300 fn) :=
  known_of_bodyC noNumTry mixTry (openT_ok noNumTry mixTry hT 300 5) hf hb (fun _ _ _ _ h => h)
theorem valid_k : Known Try.prog 13 valid_s := (openKnown okv Try.func13 rfl).weak (by
  intro args H v ups h
  unfold valid_s at h
  split at h
  · rw [show bodyC Try.prog (openT Try.prog κv 300 5) (fun g => inl κv g && hasBody Try.prog g) true 300 Try.f13 = validO from rfl, valid_t, ← h]
    simp only [and2_eq, Ses.ok, soundB]
  · cases h)
theorem valid_yes_k : Known Try.prog 13 valid_yes := valid_k.weak (by
  intro args H v ups h
  unfold valid_yes at h
  split at h
  · rename_i ph asn id pe ho re rs pas rsd oas oh oid ors ord hold ex al ret
    unfold valid_s
    simp only [crun] at h ⊢
    split at h
    · rename_i hh; rw [hh]; exact h
    · cases h
  · cases h)
def valid_no : CSumm
  | [.agg [.int .i64 ph, .int .u32 asn, .int .u32 id, .int .u32 pe, .int .i64 ho, .int .i64 re, .int .i64 rs, .bool pas, .bool rsd, .int .u32 oas, .int .i64 oh, .int .u32 oid, .int .i64 ors, .bool ord, .int .i64 hold, .int .i64 ex, .int .i64 al, .int .i64 ret]], [] =>
    .ite (Ses.ok ⟨ph, asn, id, pe, ho, re, rs, pas, rsd, oas, oh, oid, ors, ord, hold, ex, al, ret⟩) .fail (.ret (.bool false) [])
  | _, _ => .fail
theorem valid_no_k : Known Try.prog 13 valid_no := valid_k.weak (by
  intro args H v ups h
  unfold valid_no at h
  split at h
  · rename_i ph asn id pe ho re rs pas rsd oas oh oid ors ord hold ex al ret
    unfold valid_s
    simp only [crun] at h ⊢
    split at h
    · cases h
    · rename_i hh; rw [Bool.not_eq_true] at hh; rw [hh]; exact h
  · cases h)
theorem known_yes_k : Known Try.prog 33 known_yes := known_k.weak (by
  intro args H v ups h
  unfold known_yes at h
  split at h
  · unfold known_s
    simp only [crun] at h ⊢
    split at h
    · rename_i hh; rw [hh]; exact h
    · cases h
  · cases h)
def known_no : CSumm
  | [.int .i64 k], [] => .ite (knownB k) .fail (.ret (.bool false) [])
  | _, _ => .fail
theorem known_no_k : Known Try.prog 33 known_no := known_k.weak (by
  intro args H v ups h
  unfold known_no at h
  split at h
  · unfold known_s
    simp only [crun] at h ⊢
    split at h
    · cases h
    · rename_i hh; rw [Bool.not_eq_true] at hh; rw [hh]; exact h
  · cases h)
theorem oks : KOk Try.prog κs := tbl_cons valid_yes_k (tbl_cons known_yes_k (tbl_cons hold_k (tbl_cons cl78_k (tbl_cons cl79_k (tbl_cons cl80_k (tbl_cons cl81_k ok0))))))
abbrev κs1 := tbl [(13, valid_no)]
abbrev κs2 := tbl [(13, valid_yes), (33, known_no)]
theorem oks1 : KOk Try.prog κs1 := tbl_cons valid_no_k ok0
theorem oks2 : KOk Try.prog κs2 := tbl_cons valid_yes_k (tbl_cons known_no_k ok0)
noncomputable abbrev stepB1 : CSumm := bodyC Try.prog (openT Try.prog κs1 300 5) (fun g => inl κs1 g && hasBody Try.prog g) true 300 Try.f15
noncomputable abbrev stepB2 : CSumm := bodyC Try.prog (openT Try.prog κs2 300 5) (fun g => inl κs2 g && hasBody Try.prog g) true 300 Try.f15
theorem step_no1 (s : Ses) (k : Int) (m : Msg) (now : Int) : stepB1 [s.v, evV k m, .int .i64 now] [] = bif s.ok then .fail else stepT s [] := by kernel_rfl
theorem step_no2 (s : Ses) (k : Int) (m : Msg) (now : Int) : stepB2 [s.v, evV k m, .int .i64 now] [] = bif s.ok then bif decide (now < 0) then stepT s [] else bif decide (now > 1099511627776) then stepT s [] else bif knownB k then .fail else stepT s [] else .fail := by kernel_rfl
theorem stepB_k : Known Try.prog 15 stepB := openKnown oks Try.func15 rfl
theorem stepB1_k : Known Try.prog 15 stepB1 := openKnown oks1 Try.func15 rfl
theorem stepB2_k : Known Try.prog 15 stepB2 := openKnown oks2 Try.func15 rfl
/-- Three that are known: whichever. -/
theorem known_or {f : Nat} {a b c s : CSumm} (ha : Known Try.prog f a) (hb : Known Try.prog f b) (hc : Known Try.prog f c) (h : ∀ args H v ups, crun (s args H) = some (v, ups) → crun (a args H) = some (v, ups) ∨ crun (b args H) = some (v, ups) ∨ crun (c args H) = some (v, ups)) : Known Try.prog f s :=
  ⟨ha.fn, fun args H v ups hr => (h args H v ups hr).elim (fun h => ha.ok args H v ups h) (fun h => h.elim (fun h => hb.ok args H v ups h) (fun h => hc.ok args H v ups h))⟩

/-- Does the step look at the event? -/
def goesB (s : Ses) (k now : Int) : Bool := s.ok && decide (0 ≤ now) && decide (now ≤ 1099511627776) && knownB k
noncomputable def stepP (s : Ses) (k : Int) (m : Msg) (now : Int) : Ses × List Act := bif goesB s k now then stepG cond (s, []) s k m now Prod.mk else (s, [])
def resT (p : Ses × List Act) : CTree := .ite p.2.isEmpty (.ret (.tup [p.1.v, .nils]) []) (.ret (.tup [p.1.v, .qs 0 27 0 p.2.length]) [(0, some (.seq 57 (p.2.map Act.v)))])
noncomputable def step_s : CSumm
  | [.agg [.int .i64 ph, .int .u32 asn, .int .u32 id, .int .u32 pe, .int .i64 ho, .int .i64 re, .int .i64 rs, .bool pas, .bool rsd, .int .u32 oas, .int .i64 oh, .int .u32 oid, .int .i64 ors, .bool ord, .int .i64 hold, .int .i64 ex, .int .i64 al, .int .i64 ret],
     .agg [.int .i64 k, .int .i64 kind, .int .u32 mas, .int .i64 mh, .int .u32 mid, .int .i64 mrs, .bool mrd, .int .i64 code, .int .i64 sub, .int .i64 ori, .psl 22 path, .int .u32 nx, .bool hm, .int .u32 med, .bool hp, .int .u32 prf, .bool hor, .int .u32 orr, .psl 23 cl, .psl 119 cm, .int .i64 tk, .int .u32 tl, .int .u32 tr, .int .u32 tg, .psl 103 reach, .psl 103 un],
     .int .i64 now], [] =>
    let m : Msg := ⟨kind, mas, mh, mid, mrs, mrd, code, sub, ori, path, nx, hm, med, hp, prf, hor, orr, cl, cm, tk, tl, tr, tg, reach, un⟩
    .ite (lightB m) (resT (stepP ⟨ph, asn, id, pe, ho, re, rs, pas, rsd, oas, oh, oid, ors, ord, hold, ex, al, ret⟩ k m now)) .fail
  | _, _ => .fail

theorem crun_stepT (p : Ses × List Act) : crun (resT p) = crun (stepT p.1 p.2) := by
  obtain ⟨s, l⟩ := p
  cases l <;> rfl
theorem stepG_nat {R : Type} (fl : R) (f : Ses × List Act → R) (h' : ∀ (b : Bool) (x y : Ses × List Act), f (bif b then x else y) = bif b then f x else f y)
    (s : Ses) (k : Int) (m : Msg) (now : Int) (hl : lightB m = true) : stepG cond fl s k m now (fun s l => f (s, l)) = f (stepG cond (s, []) s k m now Prod.mk) := by
  simp only [lightB, Bool.and_eq_true] at hl
  simp only [stepG, laterG, failG, leaveG, setRetryG, setHoldG, setAliveG, h', hl, cond_true]
theorem crun_ite (b : Bool) (x y : CTree) : crun (.ite b x y) = bif b then crun x else crun y := by cases b <;> rfl
theorem crun_cond (b : Bool) (x y : CTree) : crun (bif b then x else y) = bif b then crun x else crun y := by cases b <;> rfl
theorem stepG_ite (s : Ses) (k : Int) (m : Msg) (now : Int) (κ : Ses → List Act → CTree) : crun (stepG CTree.ite .fail s k m now κ) = crun (stepG cond .fail s k m now κ) := by
  simp only [stepG, laterG, failG, leaveG, setRetryG, setHoldG, setAliveG, crun_ite, crun_cond]
theorem stepW_eq (s : Ses) (k : Int) (m : Msg) (now : Int) (hl : lightB m = true) (hg : goesB s k now = true) : crun (stepW s k m now) = crun (resT (stepP s k m now)) := by
  unfold stepP
  rw [hg]
  simp only [goesB, Bool.and_eq_true, decide_eq_true_eq] at hg
  obtain ⟨⟨⟨h1, h2⟩, h3⟩, h4⟩ := hg
  unfold stepW
  rw [h1, h4, show decide (now < 0) = false by simp; omega, show decide (now > 1099511627776) = false by simp; omega]
  simp only [cond_true, cond_false]
  rw [crun_stepT]
  have e := stepG_nat (R := CTree) .fail (fun p => stepT p.1 p.2) (fun b _ _ => by cases b <;> rfl) s k m now hl
  simp only at e
  exact congrArg crun e
theorem stepP_no {s : Ses} {k : Int} {m : Msg} {now : Int} (hg : goesB s k now = false) : stepP s k m now = (s, []) := by
  unfold stepP; rw [hg]; rfl
theorem step_lit (s : Ses) (k : Int) (m : Msg) (now : Int) (hs : s.ok = true) (hk : knownB k = true) : stepB [s.v, evV k m, .int .i64 now] [] = stepW s k m now := by
  obtain ⟨ph, asn, id, pe, ho, re, rs, pas, rsd, oas, oh, oid, ors, ord, hold, ex, al, ret⟩ := s
  have hp : ph = 0 ∨ ph = 1 ∨ ph = 2 ∨ ph = 3 ∨ ph = 4 := by
    simp only [Ses.ok, Bool.and_eq_true, decide_eq_true_eq] at hs
    omega
  have hk' : k = 1 ∨ k = 2 ∨ k = 3 ∨ k = 4 ∨ k = 5 ∨ k = 6 ∨ k = 7 := by
    simp only [knownB, Bool.or_eq_true, beq_iff_eq] at hk
    omega
  rcases hp with rfl | rfl | rfl | rfl | rfl <;> rcases hk' with rfl | rfl | rfl | rfl | rfl | rfl | rfl
  · exact step_0_1 ..
  · exact step_0_2 ..
  · exact step_0_3 ..
  · exact step_0_4 ..
  · exact step_0_5 ..
  · exact step_0_6 ..
  · exact step_0_7 ..
  · exact step_1_1 ..
  · exact step_1_2 ..
  · exact step_1_3 ..
  · exact step_1_4 ..
  · exact step_1_5 ..
  · exact step_1_6 ..
  · exact step_1_7 ..
  · exact step_2_1 ..
  · exact step_2_2 ..
  · exact step_2_3 ..
  · exact step_2_4 ..
  · exact step_2_5 ..
  · exact step_2_6 ..
  · exact step_2_7 ..
  · exact step_3_1 ..
  · exact step_3_2 ..
  · exact step_3_3 ..
  · exact step_3_4 ..
  · exact step_3_5 ..
  · exact step_3_6 ..
  · exact step_3_7 ..
  · exact step_4_1 ..
  · exact step_4_2 ..
  · exact step_4_3 ..
  · exact step_4_4 ..
  · exact step_4_5 ..
  · exact step_4_6 ..
  · exact step_4_7 ..
theorem step_k : Known Try.prog 15 step_s := known_or stepB1_k stepB2_k stepB_k (by
  intro args H v ups h
  unfold step_s at h
  split at h
  · rename_i ph asn id pe ho re rs pas rsd oas oh oid ors ord hold ex al ret k kind mas mh mid mrs mrd code sub ori path nx hm med hp prf hor orr cl cm tk tl tr tg reach un now
    simp only [crun] at h
    split at h
    · rename_i hl
      cases hg : goesB ⟨ph, asn, id, pe, ho, re, rs, pas, rsd, oas, oh, oid, ors, ord, hold, ex, al, ret⟩ k now with
      | true =>
        right; right
        have hg' := hg
        simp only [goesB, Bool.and_eq_true] at hg'
        rw [← stepW_eq _ _ _ _ hl hg] at h
        rw [← h]
        exact congrArg crun (step_lit ⟨ph, asn, id, pe, ho, re, rs, pas, rsd, oas, oh, oid, ors, ord, hold, ex, al, ret⟩ k ⟨kind, mas, mh, mid, mrs, mrd, code, sub, ori, path, nx, hm, med, hp, prf, hor, orr, cl, cm, tk, tl, tr, tg, reach, un⟩ now hg'.1.1.1 hg'.2)
      | false =>
        rw [stepP_no hg, crun_stepT] at h
        have e1 := step_no1 ⟨ph, asn, id, pe, ho, re, rs, pas, rsd, oas, oh, oid, ors, ord, hold, ex, al, ret⟩ k ⟨kind, mas, mh, mid, mrs, mrd, code, sub, ori, path, nx, hm, med, hp, prf, hor, orr, cl, cm, tk, tl, tr, tg, reach, un⟩ now
        have e2 := step_no2 ⟨ph, asn, id, pe, ho, re, rs, pas, rsd, oas, oh, oid, ors, ord, hold, ex, al, ret⟩ k ⟨kind, mas, mh, mid, mrs, mrd, code, sub, ori, path, nx, hm, med, hp, prf, hor, orr, cl, cm, tk, tl, tr, tg, reach, un⟩ now
        cases ho : Ses.ok ⟨ph, asn, id, pe, ho, re, rs, pas, rsd, oas, oh, oid, ors, ord, hold, ex, al, ret⟩ with
        | false =>
          left
          rw [ho] at e1
          rw [← h]
          exact congrArg crun e1
        | true =>
          right; left
          rw [ho] at e2
          rw [← h]
          refine (congrArg crun e2).trans ?_
          simp only [goesB, ho, Bool.true_and] at hg
          simp only [cond_true]
          cases h1 : decide (now < 0) with
          | true => rfl
          | false =>
            cases h2 : decide (now > 1099511627776) with
            | true => rfl
            | false =>
              have : knownB k = false := by
                simp only [decide_eq_false_iff_not] at h1 h2
                cases hk : knownB k with
                | false => rfl
                | true =>
                  rw [hk, Bool.and_true, Bool.and_eq_false_iff] at hg
                  simp only [decide_eq_false_iff_not] at hg
                  omega
              rw [this]
              rfl
    · cases h
  · cases h)
end Go.Proofs.Ytbeolnccdhjjeaa
