/- FsmAlive: the plain law. -/
import Derived.Test.YtbeolnccdhjjeaaS7
import Derived.Test.YtbeolnccdhjjeaaAmRow2
namespace Go.Proofs.Ytbeolnccdhjjeaa
open Go.Am
set_option maxRecDepth 100000
theorem aliveI_iff {h t last now ex al : Int} : aliveI h t last now ex al = true ↔ 3 ≤ h ∧ h ≤ 60 ∧ 0 ≤ t ∧ t ≤ 300 ∧ 9 ≤ now ∧ now ≤ t + 9 ∧ ex = now - 1 + h ∧ al = last + h.tdiv 3 ∧ 7 ≤ last ∧ last < now ∧ (last = 7 ∨ now ≤ al) := by
  simp only [aliveI, Bool.and_eq_true, Bool.or_eq_true, decide_eq_true_eq, and_assoc]
theorem tdiv3 {h : Int} (h0 : 0 ≤ h) : h.tdiv 3 = h / 3 := Int.tdiv_eq_ediv_of_nonneg h0
theorem next_run {n : Nat} {h t last now ex al : Int} (hb : left t now < n) (hi : aliveI h t last now ex al = true) :
    crun (nextT n h t last now ex al) = some (.tup [.int .i64 2], [(0, some (.cells 29 (Ses.cs (est h (aliveR (left t now) h now ex al).1 (aliveR (left t now) h now ex al).2))))]) := by
  unfold nextT
  have : Nat.blt (left t now) n = true := by rw [Nat.blt_eq]; exact hb
  rw [this, hi]
  simp only [decide_true, Bool.and_self, cond_true]
  cases hl : (left t now == 0) with
  | false => rfl
  | true =>
    rw [beq_iff_eq] at hl
    rw [hl]
    rfl
theorem aliveR_succ (m : Nat) (h now ex al : Int) : aliveR (m + 1) h now ex al = bif dueB al now then aliveR m h (now + 1) (now + h) (now + h.tdiv 3) else aliveR m h (now + 1) (now + h) al := rfl
theorem round_alive (n : Nat) (h t last now ex al : Int) (hi : aliveI h t last now ex al = true) (hb : left t now < n + 1) :
    crun (loopOnce Try.prog κao ιa (ltab []) true 300 e7 { e7 with s := boundT aliveM alive_s n } c7 [.int .i64 h, .int .i64 t, .ptr 0 0, .int .i64 last, .int .i64 now] [(0, .cells 29 (Ses.cs (est h ex al)))]) =
      crun (.ite (left t now == 0) (.ret (.tup [.int .i64 2]) []) (.ret (.tup [.int .i64 2]) [(0, some (.cells 29 (Ses.cs (est h (aliveR (left t now) h now ex al).1 (aliveR (left t now) h now ex al).2))))])) := by
  rw [round7, crun_ite]
  obtain ⟨h1, h2, t1, t2, n1, n2, e1, a1, l1, l2, l3⟩ := aliveI_iff.1 hi
  have hd := tdiv3 (show 0 ≤ h by omega)
  have w1 : w64 (8 + t) = 8 + t := w64_id (by omega) (by omega)
  have w2 : w64 (h.tdiv 3) = h.tdiv 3 := w64_id (by omega) (by omega)
  have w3 : w64 (now + h.tdiv 3) = now + h.tdiv 3 := w64_id (by omega) (by omega)
  have w4 : w64 (now - last) = now - last := w64_id (by omega) (by omega)
  have w5 : w64 (now + 1) = now + 1 := w64_id (by omega) (by omega)
  have w6 : w64 (now + h) = now + h := w64_id (by omega) (by omega)
  have hth : third h = h.tdiv 3 := by
    unfold third
    rw [w2, show decide (h.tdiv 3 < 1) = false by simp; omega]
    rfl
  rw [w1, w2, w3, w4, w5, w6, hth]
  by_cases hz : left t now = 0
  · have hn : now = t + 9 := by unfold left at hz; omega
    rw [show decide (now ≤ 8 + t) = false by simp; omega, hz]
    rfl
  · obtain ⟨m, hm⟩ : ∃ m, left t now = m + 1 := ⟨left t now - 1, by omega⟩
    have hnt : now ≤ 8 + t := by unfold left at hm; omega
    have hm' : left t (now + 1) = m := by unfold left at hm ⊢; omega
    have hh : holdB h = true := (holdB_iff h).2 (by omega)
    have tm : timerB (-1) = true := by decide
    have g1 : goesB (est h ex al) 7 now = true := goes_cfg.2 ⟨hh, by omega, by omega, hh, (timerB_iff _).2 (by omega), (timerB_iff _).2 (by omega), tm, by omega, by omega, by decide⟩
    have g2 : goesB (est h ex (now + h.tdiv 3)) 5 now = true := goes_cfg.2 ⟨hh, by omega, by omega, hh, (timerB_iff _).2 (by omega), (timerB_iff _).2 (by omega), tm, by omega, by omega, by decide⟩
    have g3 : goesB (est h ex al) 5 now = true := goes_cfg.2 ⟨hh, by omega, by omega, hh, (timerB_iff _).2 (by omega), (timerB_iff _).2 (by omega), tm, by omega, by omega, by decide⟩
    have d1 : dueB ex now = false := by
      cases hq : dueB ex now with
      | false => rfl
      | true => have := (dueB_iff _ _).1 hq; omega
    have hz2 : (h == 0) = false := by simp; omega
    rw [decide_eq_true hnt, g1, g2, g3, d1, hz2, hm, aliveR_succ]
    simp only [cond_true, cond_false]
    have hne : (m + 1 == 0) = false := by simp
    rw [hne]
    cases hd2 : dueB al now with
    | true =>
      simp only [cond_true]
      have hal := (dueB_iff _ _).1 hd2
      have nx : aliveI h t now (now + 1) (now + h) (now + h.tdiv 3) = true := aliveI_iff.2 ⟨h1, h2, t1, t2, by omega, by omega, by omega, rfl, by omega, by omega, by omega⟩
      have hr := next_run (n := n) (by omega) nx
      rw [hm'] at hr
      cases hc : (now - last != h.tdiv 3) with
      | false => simp only [cond_false]; exact hr
      | true =>
        simp only [bne_iff_ne, ne_eq] at hc
        have hl7 : (last != 7) = false := by simp; omega
        rw [hl7]
        simp only [cond_true, cond_false]
        exact hr
    | false =>
      simp only [cond_false]
      have hal : ¬ al ≤ now := fun hh => by
        have := (dueB_iff al now).2 ⟨by omega, hh⟩
        rw [hd2] at this; cases this
      rw [show decide (now - last > h.tdiv 3) = false by simp; omega]
      simp only [cond_false]
      have nx : aliveI h t last (now + 1) (now + h) al = true := aliveI_iff.2 ⟨h1, h2, t1, t2, by omega, by omega, by omega, a1, by omega, by omega, by omega⟩
      have hr := next_run (n := n) (by omega) nx
      rw [hm'] at hr
      exact hr
theorem alive_valid : ValidL Try.prog e7 := loop_valid (κ := κao) (ι := ιa) (T := ltab []) (sp := true) (fuel := 300) (c := c7) (μ := aliveM) (openT_ok noNumTry mixTry oka 300 5) mixTry ltab_nil (show fillC (ltab []) c7 = c7 by kernel_rfl) (by
  intro n args H r hb hr
  have hr' : crun (alive_s args H) = some r := hr
  unfold alive_s at hr'
  split at hr'
  · rename_i h t last now h' h2 h3 ex al
    rw [crun_ite] at hr'
    cases hc : (aliveI h t last now ex al && decide (h' = h) && decide (h2 = h) && decide (h3 = h)) with
    | false => rw [hc] at hr'; cases hr'
    | true =>
      rw [hc, cond_true] at hr'
      simp only [Bool.and_eq_true, decide_eq_true_eq] at hc
      obtain ⟨⟨⟨hi, rfl⟩, rfl⟩, rfl⟩ := hc
      rw [← hr']
      exact round_alive n _ t last now ex al hi (by
        have : Nat.blt (left t now) (n + 1) = true := hb
        rwa [Nat.blt_eq] at this)
  · cases hr')
noncomputable abbrev T7 : LTab := ltab [("a", e7)]
theorem T7_ok : LOk Try.prog T7 := ltab_cons alive_valid ltab_nil
noncomputable def m7 : Code := markC [(6, "a")] body7
theorem fill7 : Try.f7.body = some (fillC T7 m7) := by kernel_rfl
noncomputable abbrev law7 : CSumm := bodyCL Try.prog κao ιa T7 true 300 Try.f7 m7
theorem law7_k : Known Try.prog 7 law7 := ⟨⟨Try.f7, Try.func7, noNum_at noNumTry Try.func7, rfl⟩, bodyL_valid (openT_ok noNumTry mixTry oka 300 5) mixTry T7_ok Try.func7 fill7⟩
theorem law7_t (a b : Int) : law7 [.int .i64 a, .int .i64 b] [] =
    bif holdB (w64 (pickI a 58 + 3)) then
      bif aliveI (w64 (pickI a 58 + 3)) (pickI b 301) 7 9 (exAt (w64 (pickI a 58 + 3)) 8) (alAt (w64 (pickI a 58 + 3)) 7) && decide (w64 (pickI a 58 + 3) = w64 (pickI a 58 + 3)) && decide (w64 (pickI a 58 + 3) = w64 (pickI a 58 + 3)) && decide (w64 (pickI a 58 + 3) = w64 (pickI a 58 + 3)) then
        bif left (pickI b 301) 9 == 0 then .ret (.bool true) [] else .ret (.bool true) []
      else .fail
    else .fail := by kernel_rfl
theorem law7_true (a b : Int) : crun (law7 [.int .i64 a, .int .i64 b] []) = some (.bool true, []) := by
  rw [law7_t]
  have p := pick_range (x := a) (n := 58) (by omega) (by omega)
  have q := pick_range (x := b) (n := 301) (by omega) (by omega)
  generalize pickI a 58 = x at p ⊢
  generalize pickI b 301 = y at q ⊢
  have w : w64 (x + 3) = x + 3 := w64_id (by omega) (by omega)
  rw [w]
  have hd := tdiv3 (show 0 ≤ x + 3 by omega)
  have hz : (x + 3 == 0) = false := by simp; omega
  have e1 : exAt (x + 3) 8 = 8 + (x + 3) := by unfold exAt; rw [hz]; rfl
  have e2 : alAt (x + 3) 7 = 7 + (x + 3).tdiv 3 := by unfold alAt; rw [hz]; rfl
  rw [e1, e2, (holdB_iff _).2 (by omega), show aliveI (x + 3) y 7 9 (8 + (x + 3)) (7 + (x + 3).tdiv 3) = true from aliveI_iff.2 ⟨by omega, by omega, by omega, by omega, by omega, by omega, by omega, rfl, by omega, by omega, by omega⟩]
  simp only [decide_true, Bool.and_self, cond_true]
  cases left y 9 == 0 <;> rfl
end Go.Proofs.Ytbeolnccdhjjeaa
