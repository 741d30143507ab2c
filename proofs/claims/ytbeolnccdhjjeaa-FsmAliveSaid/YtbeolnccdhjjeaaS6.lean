/- Sessions that are established: a tick, a KEEPALIVE. -/
import Derived.Test.YtbeolnccdhjjeaaS5
namespace Go.Proofs.Ytbeolnccdhjjeaa
open Go.Am
set_option maxRecDepth 100000
theorem w64_id {n : Int} (h1 : -9223372036854775808 ≤ n) (h2 : n ≤ 9223372036854775807) : w64 n = n := by
  simp [IntKind.wrap, IntKind.bits, IntKind.signed]; omega
theorem holdB_iff (n : Int) : holdB n = true ↔ n = 0 ∨ (3 ≤ n ∧ n ≤ 65535) := by
  unfold holdB
  cases h : (n == 0) with
  | true => simp at h; simp [h]
  | false => simp at h; simp only [cond_false]; cases h2 : decide (n ≥ 3) <;> simp at h2 ⊢ <;> omega
theorem timerB_iff (n : Int) : timerB n = true ↔ n = -1 ∨ (0 ≤ n ∧ n ≤ 2199023255552) := by
  unfold timerB
  cases h : (n == -1) with
  | true => simp at h; simp [h]
  | false => simp at h; simp only [cond_false]; cases h2 : decide (n ≥ 0) <;> simp at h2 ⊢ <;> omega
theorem dueB_iff (t n : Int) : dueB t n = true ↔ t ≠ -1 ∧ t ≤ n := by
  unfold dueB
  cases h : (t != -1) <;> simp_all
theorem goes_cfg {ph h hold ex al ret oas oh oid k now : Int} : goesB (cfgS ph h hold ex al ret oas oh oid) k now = true ↔ holdB h = true ∧ 0 ≤ ph ∧ ph ≤ 4 ∧ holdB hold = true ∧ timerB ex = true ∧ timerB al = true ∧ timerB ret = true ∧ 0 ≤ now ∧ now ≤ 1099511627776 ∧ knownB k = true := by
  simp only [goesB, Ses.ok, soundB, Bool.and_eq_true, decide_eq_true_eq]
  constructor
  · rintro ⟨⟨⟨⟨⟨⟨⟨⟨⟨⟨⟨⟨⟨⟨⟨⟨_, _⟩, _⟩, h1⟩, _⟩, _⟩, _⟩, _⟩, h2⟩, h3⟩, h4⟩, h5⟩, h6⟩, h7⟩, h8⟩, h9⟩, h10⟩
    exact ⟨h1, h2, h3, h4, h5, h6, h7, h8, h9, h10⟩
  · rintro ⟨h1, h2, h3, h4, h5, h6, h7, h8, h9, h10⟩
    exact ⟨⟨⟨⟨⟨⟨⟨⟨⟨⟨⟨⟨⟨⟨⟨⟨by decide, by decide⟩, by decide⟩, h1⟩, by decide⟩, by decide⟩, by decide⟩, by decide⟩, h2⟩, h3⟩, h4⟩, h5⟩, h6⟩, h7⟩, h8⟩, h9⟩, h10⟩
/-- An established session. -/
abbrev est (h ex al : Int) : Ses := cfgS 4 h h ex al (-1) 65000 h 2
def exAt (h t : Int) : Int := bif h == 0 then -1 else t + h
def alAt (h t : Int) : Int := bif h == 0 then -1 else t + h.tdiv 3
def est_s : CSumm
  | [.int .i64 h], [] => .ite (holdB h) (.ret (Ses.v (est h (exAt h 8) (alAt h 7))) []) .fail
  | _, _ => .fail
theorem est_k : Known Try.prog 23 est_s := (openKnown oki Try.func23 rfl).weak (by
  intro args H v ups hr
  unfold est_s at hr
  split at hr
  · rename_i h
    rw [crun_ite] at hr
    cases hh : holdB h with
    | false => rw [hh] at hr; cases hr
    | true =>
      rw [hh, cond_true] at hr
      rw [← hr]
      refine (congrArg crun (est_t h)).trans ?_
      have hm : minI h h = h := by unfold minI; simp
      have hi := (holdB_iff h).1 hh
      have hd : h.tdiv 3 ≤ h ∧ 0 ≤ h.tdiv 3 := by
        have : 0 ≤ h := by omega
        rw [Int.tdiv_eq_ediv_of_nonneg this]; omega
      have w1 : w64 (h.tdiv 3) = h.tdiv 3 := w64_id (by omega) (by omega)
      have w2 : w64 (7 + h.tdiv 3) = 7 + h.tdiv 3 := w64_id (by omega) (by omega)
      have w3 : w64 (8 + h) = 8 + h := w64_id (by omega) (by omega)
      have w4 : w64 (7 + h) = 7 + h := w64_id (by omega) (by omega)
      rw [hm, hh, w1, w2, w3, w4]
      have t0 : timerB (-1) = true := by decide
      have g0 : goesB (cfgS 0 h 0 (-1) (-1) (-1) 0 0 0) 1 0 = true := goes_cfg.2 ⟨hh, by omega, by omega, by decide, t0, t0, t0, by omega, by omega, by decide⟩
      have g1 : goesB (cfgS 1 h 0 (-1) (-1) 5 0 0 0) 3 6 = true := goes_cfg.2 ⟨hh, by omega, by omega, by decide, t0, t0, by decide, by omega, by omega, by decide⟩
      have g2 : goesB (cfgS 2 h 0 36 (-1) (-1) 0 0 0) 5 7 = true := goes_cfg.2 ⟨hh, by omega, by omega, by decide, by decide, t0, t0, by omega, by omega, by decide⟩
      rw [g0, g1, g2]
      unfold exAt alAt
      cases hz : (h == 0) with
      | true =>
        have g3 : goesB (cfgS 3 h h (-1) (-1) (-1) 65000 h 2) 5 8 = true := goes_cfg.2 ⟨hh, by omega, by omega, hh, t0, t0, t0, by omega, by omega, by decide⟩
        rw [g3]
        rfl
      | false =>
        simp only [beq_eq_false_iff_ne] at hz
        have g3 : goesB (cfgS 3 h h (7 + h) (7 + h.tdiv 3) (-1) 65000 h 2) 5 8 = true := goes_cfg.2 ⟨hh, by omega, by omega, hh, (timerB_iff _).2 (by omega), (timerB_iff _).2 (by omega), t0, by omega, by omega, by decide⟩
        rw [g3]
        rfl
  · cases hr)

def pickI (x n : Int) : Int := bif decide (x.tmod n < 0) then w64 (x.tmod n + n) else x.tmod n
def pick_s : CSumm
  | [.int .i64 x, .int .i64 n], [] => .ite (n == 0) .fail (.ret (.int .i64 (pickI x n)) [])
  | _, _ => .fail
theorem pick_k : Known Try.prog 20 pick_s := known_of_bodyS noNumTry mixTry ok0 Try.func20 rfl (by
  intro args H v ups h
  unfold pick_s at h
  split at h
  · rename_i x n
    have e : bodyS Try.prog (tbl []) Try.f20 [.int .i64 x, .int .i64 n] [] = bif n == 0 then .fail else bif decide (x.tmod n < 0) then .ret (.int .i64 (w64 (x.tmod n + n))) [] else .ret (.int .i64 (x.tmod n)) [] := by kernel_rfl
    rw [e, ← h]
    unfold pickI
    rw [crun_ite]
    cases n == 0 <;> cases decide (x.tmod n < 0) <;> rfl
  · cases h)
theorem pick_range {x n : Int} (h1 : 0 < n) (h2 : n ≤ 1000000) : 0 ≤ pickI x n ∧ pickI x n < n := by
  have a := Int.tmod_lt_of_pos x h1
  have b : -n < x.tmod n := by
    have := Int.tmod_lt_of_pos (-x) h1
    rw [Int.neg_tmod] at this
    omega
  unfold pickI
  cases h : decide (x.tmod n < 0) with
  | true =>
    simp only [decide_eq_true_eq] at h
    rw [cond_true, w64_id (by omega) (by omega)]
    omega
  | false =>
    simp only [decide_eq_false_iff_not] at h
    rw [cond_false]
    omega
def lives_s : CSumm := constS (.bool true)
theorem lives_k : Known Try.prog 9 lives_s := known_closed noNumTry mixTry Try.func9 rfl (show callK (closedS Try.prog 300 12) 9 [] [] = some (.bool true, []) by kernel_rfl)
end Go.Proofs.Ytbeolnccdhjjeaa
