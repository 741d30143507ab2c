/- FsmAlive: the plain law. -/
import Derived.Test.YtbeolnccdhjjeaaPart1
import Derived.Test.YtbeolnccdhjjeaaMachine4
namespace Go.Proofs.Ytbeolnccdhjjeaa
open Go.Am
set_option maxRecDepth 100000
theorem aliveI_iff {h t last now ex al : Int} : aliveI h t last now ex al = true ↔ 3 ≤ h ∧ h ≤ 60 ∧ 0 ≤ t ∧ t ≤ 300 ∧ 9 ≤ now ∧ now ≤ t + 9 ∧ ex = now - 1 + h ∧ al = last + h.tdiv 3 ∧ 7 ≤ last ∧ last < now ∧ (last = 7 ∨ now ≤ al) := by
  simp only [aliveI, Bool.and_eq_true, Bool.or_eq_true, decide_eq_true_eq, and_assoc]
theorem tdiv3 {h : Int} (h0 : 0 ≤ h) : h.tdiv 3 = h / 3 := Int.tdiv_eq_ediv_of_nonneg h0
theorem next_run {n : Nat} {h t last now ex al : Int} (hb : left t now < n) (hi : aliveI h t last now ex al = true) :
    crun (nextT n h t last now ex al) = some (.tup [.int .i64 2], [(0, some (.cells 29 (Ses.cs (est h (aliveR (left t now) h now ex al).1 (aliveR (left t now) h now ex al).2))))]) := by
  unfold nextT
  have : Nat.blt (left t now) n = true := by rw [Nat.blt_eq]; exact hb
  rw [this, hi]
  simp only [decide_true, Bool.and_self, cond_true]
  cases hl : (left t now == 0) with
  | false => rfl
  | true =>
    rw [beq_iff_eq] at hl
    rw [hl]
    rfl
theorem aliveR_succ (m : Nat) (h now ex al : Int) : aliveR (m + 1) h now ex al = bif dueB al now then aliveR m h (now + 1) (now + h) (now + h.tdiv 3) else aliveR m h (now + 1) (now + h) al := rfl
theorem round_alive (n : Nat) (h t last now ex al : Int) (hi : aliveI h t last now ex al = true) (hb : left t now < n + 1) :
    crun (loopOnce Try.prog κao ιa (ltab []) true 300 e7 { e7 with s := boundT aliveM alive_s n } c7 [.int .i64 h, .int .i64 t, .ptr 0 0, .int .i64 last, .int .i64 now] [(0, .cells 29 (Ses.cs (est h ex al)))]) =
      crun (.ite (left t now == 0) (.ret (.tup [.int .i64 2]) []) (.ret (.tup [.int .i64 2]) [(0, some (.cells 29 (Ses.cs (est h (aliveR (left t now) h now ex al).1 (aliveR (left t now) h now ex al).2))))])) := by
  rw [round7, crun_ite]
  obtain ⟨h1, h2, t1, t2, n1, n2, e1, a1, l1, l2, l3⟩ := aliveI_iff.1 hi
  have hd := tdiv3 (show 0 ≤ h by omega)
  have w1 : w64 (8 + t) = 8 + t := w64_id (by omega) (by omega)
  have w2 : w64 (h.tdiv 3) = h.tdiv 3 := w64_id (by omega) (by omega)
  have w3 : w64 (now + h.tdiv 3) = now + h.tdiv 3 := w64_id (by omega) (by omega)
  have w4 : w64 (now - last) = now - last := w64_id (by omega) (by omega)
  have w5 : w64 (now + 1) = now + 1 := w64_id (by omega) (by omega)
  have w6 : w64 (now + h) = now + h := w64_id (by omega) (by omega)
  have hth : third h = h.tdiv 3 := by
    unfold third
    rw [w2, show decide (h.tdiv 3 < 1) = false by simp; omega]
    rfl
  rw [w1, w2, w3, w4, w5, w6, hth]
  by_cases hz : left t now = 0
  · have hn : now = t + 9 := by unfold left at hz; omega
    rw [show decide (now ≤ 8 + t) = false by simp; omega, hz]
    rfl
  · obtain ⟨m, hm⟩ : ∃ m, left t now = m + 1 := ⟨left t now - 1, by omega⟩
    have hnt : now ≤ 8 + t := by unfold left at hm; omega
    have hm' : left t (now + 1) = m := by unfold left at hm ⊢; omega
    have hh : holdB h = true := (holdB_iff h).2 (by omega)
    have tm : timerB (-1) = true := by decide
    have g1 : goesB (est h ex al) 7 now = true := goes_cfg.2 ⟨hh, by omega, by omega, hh, (timerB_iff _).2 (by omega), (timerB_iff _).2 (by omega), tm, by omega, by omega, by decide⟩
    have g2 : goesB (est h ex (now + h.tdiv 3)) 5 now = true := goes_cfg.2 ⟨hh, by omega, by omega, hh, (timerB_iff _).2 (by omega), (timerB_iff _).2 (by omega), tm, by omega, by omega, by decide⟩
    have g3 : goesB (est h ex al) 5 now = true := goes_cfg.2 ⟨hh, by omega, by omega, hh, (timerB_iff _).2 (by omega), (timerB_iff _).2 (by omega), tm, by omega, by omega, by decide⟩
    have d1 : dueB ex now = false := by
      cases hq : dueB ex now with
      | false => rfl
      | true => have := (dueB_iff _ _).1 hq; omega
    have hz2 : (h == 0) = false := by simp; omega
    rw [decide_eq_true hnt, g1, g2, g3, d1, hz2, hm, aliveR_succ]
    simp only [cond_true, cond_false]
    have hne : (m + 1 == 0) = false := by simp
    rw [hne]
    cases hd2 : dueB al now with
    | true =>
      simp only [cond_true]
      have hal := (dueB_iff _ _).1 hd2
      have nx : aliveI h t now (now + 1) (now + h) (now + h.tdiv 3) = true := aliveI_iff.2 ⟨h1, h2, t1, t2, by omega, by omega, by omega, rfl, by omega, by omega, by omega⟩
      have hr := next_run (n := n) (by omega) nx
      rw [hm'] at hr
      cases hc : (now - last != h.tdiv 3) with
      | false => simp only [cond_false]; exact hr
      | true =>
        simp only [bne_iff_ne, ne_eq] at hc
        have hl7 : (last != 7) = false := by simp; omega
        rw [hl7]
        simp only [cond_true, cond_false]
        exact hr
    | false =>
      simp only [cond_false]
      have hal : ¬ al ≤ now := fun hh => by
        have := (dueB_iff al now).2 ⟨by omega, hh⟩
        rw [hd2] at this; cases this
      rw [show decide (now - last > h.tdiv 3) = false by simp; omega]
      simp only [cond_false]
      have nx : aliveI h t last (now + 1) (now + h) al = true := aliveI_iff.2 ⟨h1, h2, t1, t2, by omega, by omega, by omega, a1, by omega, by omega, by omega⟩
      have hr := next_run (n := n) (by omega) nx
      rw [hm'] at hr
      exact hr
theorem alive_valid : ValidL Try.prog e7 := loop_valid (κ := κao) (ι := ιa) (T := ltab []) (sp := true) (fuel := 300) (c := c7) (μ := aliveM) (openT_ok noNumTry mixTry oka 300 5) mixTry ltab_nil (show fillC (ltab []) c7 = c7 by kernel_rfl) (by
  intro n args H r hb hr
  have hr' : crun (alive_s args H) = some r := hr
  unfold alive_s at hr'
  split at hr'
  · rename_i h t last now h' h2 h3 ex al
    rw [crun_ite] at hr'
    cases hc : (aliveI h t last now ex al && decide (h' = h) && decide (h2 = h) && decide (h3 = h)) with
    | false => rw [hc] at hr'; cases hr'
    | true =>
      rw [hc, cond_true] at hr'
      simp only [Bool.and_eq_true, decide_eq_true_eq] at hc
      obtain ⟨⟨⟨hi, rfl⟩, rfl⟩, rfl⟩ := hc
      rw [← hr']
      exact round_alive n _ t last now ex al hi (by
        have : Nat.blt (left t now) (n + 1) = true := hb
        rwa [Nat.blt_eq] at this)
  · cases hr')
noncomputable abbrev T7 : LTab := ltab [("a", e7)]
theorem T7_ok : LOk Try.prog T7 := ltab_cons alive_valid ltab_nil
noncomputable def m7 : Code := markC [(6, "a")] body7
theorem fill7 : Try.f7.body = some (fillC T7 m7) := by kernel_rfl
noncomputable abbrev law7 : CSumm := bodyCL Try.prog κao ιa T7 true 300 Try.f7 m7
theorem law7_k : Known Try.prog 7 law7 := ⟨⟨Try.f7, Try.func7, noNum_at noNumTry Try.func7, rfl⟩, bodyL_valid (openT_ok noNumTry mixTry oka 300 5) mixTry T7_ok Try.func7 fill7⟩
theorem law7_t (a b : Int) : law7 [.int .i64 a, .int .i64 b] [] =
    bif holdB (w64 (pickI a 58 + 3)) then
      bif aliveI (w64 (pickI a 58 + 3)) (pickI b 301) 7 9 (exAt (w64 (pickI a 58 + 3)) 8) (alAt (w64 (pickI a 58 + 3)) 7) && decide (w64 (pickI a 58 + 3) = w64 (pickI a 58 + 3)) && decide (w64 (pickI a 58 + 3) = w64 (pickI a 58 + 3)) && decide (w64 (pickI a 58 + 3) = w64 (pickI a 58 + 3)) then
        bif left (pickI b 301) 9 == 0 then .ret (.bool true) [] else .ret (.bool true) []
      else .fail
    else .fail := by kernel_rfl
theorem law7_true (a b : Int) : crun (law7 [.int .i64 a, .int .i64 b] []) = some (.bool true, []) := by
  rw [law7_t]
  have p := pick_range (x := a) (n := 58) (by omega) (by omega)
  have q := pick_range (x := b) (n := 301) (by omega) (by omega)
  generalize pickI a 58 = x at p ⊢
  generalize pickI b 301 = y at q ⊢
  have w : w64 (x + 3) = x + 3 := w64_id (by omega) (by omega)
  rw [w]
  have hd := tdiv3 (show 0 ≤ x + 3 by omega)
  have hz : (x + 3 == 0) = false := by simp; omega
  have e1 : exAt (x + 3) 8 = 8 + (x + 3) := by unfold exAt; rw [hz]; rfl
  have e2 : alAt (x + 3) 7 = 7 + (x + 3).tdiv 3 := by unfold alAt; rw [hz]; rfl
  rw [e1, e2, (holdB_iff _).2 (by omega), show aliveI (x + 3) y 7 9 (8 + (x + 3)) (7 + (x + 3).tdiv 3) = true from aliveI_iff.2 ⟨by omega, by omega, by omega, by omega, by omega, by omega, by omega, rfl, by omega, by omega, by omega⟩]
  simp only [decide_true, Bool.and_self, cond_true]
  cases left y 9 == 0 <;> rfl
end Go.Proofs.Ytbeolnccdhjjeaa
/- FsmHold: the loops. -/
namespace Go.Proofs.Ytbeolnccdhjjeaa
open Go.Am
set_option maxRecDepth 100000
noncomputable def body6 : Code := Try.f6.body.getD .skip
noncomputable def cB : Code := (loopAt 12 body6).getD .skip
noncomputable def cA : Code := (loopAt 8 body6).getD .skip
noncomputable def cC : Code := (loopAt 24 body6).getD .skip
/-- The keepalive timer behind so many ticks. -/
def tickR : Nat → Int → Int → Int → Int
  | 0, _, _, al => al
  | n + 1, h, now, al => bif dueB al (now + 1) then tickR n h (now + 1) (now + 1 + h.tdiv 3) else tickR n h (now + 1) al
def togo (g k : Int) : Nat := (g - k).toNat
def bI (h now g k ex al : Int) : Bool := decide (3 ≤ h) && decide (h ≤ 60) && decide (0 ≤ now) && decide (now + (g - k) ≤ 10000) && decide (0 ≤ k) && decide (k ≤ g) && decide (g < h) && decide (ex ≤ 20000) && decide (now + (g - k) < ex) && decide (0 ≤ al) && decide (al ≤ 20000)
def b_s : CSumm
  | [.ptr 0 0, .int .i64 now, .int .i64 g, .int .i64 k], [(0, .cells 29 [.int .i64 4, .int .u32 65000, .int .u32 1, .int .u32 2, .int .i64 h, .int .i64 5, .int .i64 0, .bool false, .bool false, .int .u32 65000, .int .i64 h2, .int .u32 2, .int .i64 0, .bool false, .int .i64 h3, .int .i64 ex, .int .i64 al, .int .i64 (-1)])] =>
    .ite (bI h now g k ex al && decide (h2 = h) && decide (h3 = h)) (.ite (togo g k == 0) (.ret (.tup [.int .i64 4, .ptr 0 0, .int .i64 now]) [])
      (.ret (.tup [.int .i64 4, .ptr 0 0, .int .i64 (now + (g - k))]) [(0, some (.cells 29 (Ses.cs (est h ex (tickR (togo g k) h now al)))))])) .fail
  | _, _ => .fail
def bM : List SV → HpL → Nat
  | [.ptr 0 0, .int .i64 _, .int .i64 g, .int .i64 k], _ => togo g k
  | _, _ => 0
noncomputable def eB : LEnt := { ins := [5, 6, 8, 9], outs := [5, 6], keep := [0, 1, 7], size := 138, code := cB, s := b_s }
def nextB (n : Nat) (h now g k ex al : Int) : CTree :=
  bif Nat.blt (togo g k) n then bif (bI h now g k ex al && decide (h = h) && decide (h = h)) then
    bif togo g k == 0 then .ret (.tup [.int .i64 4, .ptr 0 0, .int .i64 now]) [(0, some (.cells 29 (Ses.cs (est h ex al))))]
    else .ret (.tup [.int .i64 4, .ptr 0 0, .int .i64 (now + (g - k))]) [(0, some (.cells 29 (Ses.cs (est h ex (tickR (togo g k) h now al)))))] else .fail else .fail
theorem roundB (n : Nat) (h now g k ex al : Int) : loopOnce Try.prog κao ιa (ltab []) true 300 eB { eB with s := boundT bM b_s n } cB [.ptr 0 0, .int .i64 now, .int .i64 g, .int .i64 k] [(0, .cells 29 (Ses.cs (est h ex al)))] =
  bif decide (k < g) then
    bif goesB (est h ex al) 7 (w64 (now + 1)) then bif dueB ex (w64 (now + 1)) then .fail else
      bif dueB al (w64 (now + 1)) then nextB n h (w64 (now + 1)) g (w64 (k + 1)) ex (w64 (w64 (now + 1) + w64 (h.tdiv 3)))
      else nextB n h (w64 (now + 1)) g (w64 (k + 1)) ex al
    else .fail
  else .ret (.tup [.int .i64 4, .ptr 0 0, .int .i64 now]) [] := by kernel_rfl
theorem bI_iff {h now g k ex al : Int} : bI h now g k ex al = true ↔ 3 ≤ h ∧ h ≤ 60 ∧ 0 ≤ now ∧ now + (g - k) ≤ 10000 ∧ 0 ≤ k ∧ k ≤ g ∧ g < h ∧ ex ≤ 20000 ∧ now + (g - k) < ex ∧ 0 ≤ al ∧ al ≤ 20000 := by
  simp only [bI, Bool.and_eq_true, decide_eq_true_eq, and_assoc]
theorem nextB_run {n : Nat} {h now g k ex al : Int} (hb : togo g k < n) (hi : bI h now g k ex al = true) :
    crun (nextB n h now g k ex al) = some (.tup [.int .i64 4, .ptr 0 0, .int .i64 (now + (g - k))], [(0, some (.cells 29 (Ses.cs (est h ex (tickR (togo g k) h now al)))))]) := by
  unfold nextB
  have : Nat.blt (togo g k) n = true := by rw [Nat.blt_eq]; exact hb
  rw [this, hi]
  simp only [decide_true, Bool.and_self, cond_true]
  cases hl : (togo g k == 0) with
  | false => rfl
  | true =>
    rw [beq_iff_eq] at hl
    obtain ⟨-, -, -, -, -, hk, -⟩ := bI_iff.1 hi
    have : g - k = 0 := by unfold togo at hl; omega
    rw [hl, this, Int.add_zero]
    rfl
theorem tickR_succ (m : Nat) (h now al : Int) : tickR (m + 1) h now al = bif dueB al (now + 1) then tickR m h (now + 1) (now + 1 + h.tdiv 3) else tickR m h (now + 1) al := rfl
theorem round_b (n : Nat) (h now g k ex al : Int) (hi : bI h now g k ex al = true) (hb : togo g k < n + 1) :
    crun (loopOnce Try.prog κao ιa (ltab []) true 300 eB { eB with s := boundT bM b_s n } cB [.ptr 0 0, .int .i64 now, .int .i64 g, .int .i64 k] [(0, .cells 29 (Ses.cs (est h ex al)))]) =
      crun (.ite (togo g k == 0) (.ret (.tup [.int .i64 4, .ptr 0 0, .int .i64 now]) []) (.ret (.tup [.int .i64 4, .ptr 0 0, .int .i64 (now + (g - k))]) [(0, some (.cells 29 (Ses.cs (est h ex (tickR (togo g k) h now al)))))])) := by
  rw [roundB, crun_ite]
  obtain ⟨h1, h2, t1, t2, n1, n2, e1, a1, l1, l2, l3⟩ := bI_iff.1 hi
  have hd := tdiv3 (show 0 ≤ h by omega)
  have w1 : w64 (now + 1) = now + 1 := w64_id (by omega) (by omega)
  have w2 : w64 (h.tdiv 3) = h.tdiv 3 := w64_id (by omega) (by omega)
  have w3 : w64 (now + 1 + h.tdiv 3) = now + 1 + h.tdiv 3 := w64_id (by omega) (by omega)
  have w4 : w64 (k + 1) = k + 1 := w64_id (by omega) (by omega)
  rw [w1, w2, w3, w4]
  by_cases hz : togo g k = 0
  · have hn : k = g := by unfold togo at hz; omega
    rw [show decide (k < g) = false by simp; omega, hz]
    rfl
  · obtain ⟨m, hm⟩ : ∃ m, togo g k = m + 1 := ⟨togo g k - 1, by omega⟩
    have hnt : k < g := by unfold togo at hm; omega
    have hm' : togo g (k + 1) = m := by unfold togo at hm ⊢; omega
    have hh : holdB h = true := (holdB_iff h).2 (by omega)
    have g1 : goesB (est h ex al) 7 (now + 1) = true := goes_cfg.2 ⟨hh, by omega, by omega, hh, (timerB_iff _).2 (by omega), (timerB_iff _).2 (by omega), by decide, by omega, by omega, by decide⟩
    have d1 : dueB ex (now + 1) = false := by
      cases hq : dueB ex (now + 1) with
      | false => rfl
      | true => have := (dueB_iff _ _).1 hq; omega
    have hne : (m + 1 == 0) = false := by simp
    rw [decide_eq_true hnt, g1, d1, hm, tickR_succ, hne]
    simp only [cond_true, cond_false]
    have e2 : now + 1 + (g - (k + 1)) = now + (g - k) := by omega
    cases hd2 : dueB al (now + 1) with
    | true =>
      have nx : bI h (now + 1) g (k + 1) ex (now + 1 + h.tdiv 3) = true := bI_iff.2 ⟨h1, h2, by omega, by omega, by omega, by omega, by omega, by omega, by omega, by omega, by omega⟩
      have hr := nextB_run (n := n) (by omega) nx
      rw [hm', e2] at hr
      exact hr
    | false =>
      have nx : bI h (now + 1) g (k + 1) ex al = true := bI_iff.2 ⟨h1, h2, by omega, by omega, by omega, by omega, by omega, by omega, by omega, by omega, by omega⟩
      have hr := nextB_run (n := n) (by omega) nx
      rw [hm', e2] at hr
      exact hr
theorem b_valid : ValidL Try.prog eB := loop_valid (κ := κao) (ι := ιa) (T := ltab []) (sp := true) (fuel := 300) (c := cB) (μ := bM) (openT_ok noNumTry mixTry oka 300 5) mixTry ltab_nil (show fillC (ltab []) cB = cB by kernel_rfl) (by
  intro n args H r hb hr
  have hr' : crun (b_s args H) = some r := hr
  unfold b_s at hr'
  split at hr'
  · rename_i now g k h h2 h3 ex al
    rw [crun_ite] at hr'
    cases hc : (bI h now g k ex al && decide (h2 = h) && decide (h3 = h)) with
    | false => rw [hc] at hr'; cases hr'
    | true =>
      rw [hc, cond_true] at hr'
      simp only [Bool.and_eq_true, decide_eq_true_eq] at hc
      obtain ⟨⟨hi, rfl⟩, rfl⟩ := hc
      rw [← hr']
      exact round_b n _ now g k ex al hi (by
        have : Nat.blt (togo g k) (n + 1) = true := hb
        rwa [Nat.blt_eq] at this)
  · cases hr')
end Go.Proofs.Ytbeolnccdhjjeaa
/- FsmHold: the loop over the gaps. -/
namespace Go.Proofs.Ytbeolnccdhjjeaa
open Go.Am
set_option maxRecDepth 100000
/-- The i-th gap. -/
def gapAt (h : Int) (es : List SV) (i : Int) : Int := pickI (asI (es.getD i.toNat .junk)) h
/-- Time and keepalive timer behind so many gaps. -/
def gapsR : Nat → Int → List SV → Int → Int → Int → Int × Int
  | 0, _, _, _, now, al => (now, al)
  | n + 1, h, es, i, now, al => gapsR n h es (i + 1) (now + gapAt h es i) (tickR (gapAt h es i).toNat h now al)
def rest (es : List SV) (i : Int) : Nat := ((es.length : Int) - i).toNat
def aI (h : Int) (es : List SV) (now i ex al : Int) : Bool := decide (3 ≤ h) && decide (h ≤ 60) && decide (es.length ≤ 20) && decide (0 ≤ i) && decide (i ≤ es.length) && decide (0 ≤ now) && decide (now ≤ 8 + 60 * i) && decide (ex = now + h) && decide (0 ≤ al) && decide (al ≤ 10100)
def a_s : CSumm
  | [.int .i64 h, .psl 3 es, .ptr 0 0, .int .i64 now, .int .i64 i], [(0, .cells 29 [.int .i64 4, .int .u32 65000, .int .u32 1, .int .u32 2, .int .i64 h', .int .i64 5, .int .i64 0, .bool false, .bool false, .int .u32 65000, .int .i64 h2, .int .u32 2, .int .i64 0, .bool false, .int .i64 h3, .int .i64 ex, .int .i64 al, .int .i64 (-1)])] =>
    .ite (aI h es now i ex al && decide (h' = h) && decide (h2 = h) && decide (h3 = h)) (.ite (rest es i == 0) (.ret (.tup [.int .i64 2, .int .i64 h, .ptr 0 0, .int .i64 now]) [])
      (.ret (.tup [.int .i64 2, .int .i64 h, .ptr 0 0, .int .i64 (gapsR (rest es i) h es i now al).1]) [(0, some (.cells 29 (Ses.cs (est h ((gapsR (rest es i) h es i now al).1 + h) (gapsR (rest es i) h es i now al).2))))])) .fail
  | _, _ => .fail
def aM : List SV → HpL → Nat
  | [.int .i64 _, .psl _ es, .ptr 0 0, .int .i64 _, .int .i64 i], _ => rest es i
  | _, _ => 0
noncomputable def eA : LEnt := { ins := [0, 1, 5, 6, 7], outs := [0, 5, 6], keep := [], size := 138, code := cA, s := a_s }
noncomputable abbrev TA : LTab := ltab [("b", eB)]
noncomputable def cAm : Code := markC [(12, "b")] cA
theorem TA_ok : LOk Try.prog TA := ltab_cons b_valid ltab_nil
def nextA (n : Nat) (h : Int) (es : List SV) (now i ex al : Int) : CTree :=
  bif Nat.blt (rest es i) n then bif (aI h es now i ex al && decide (h = h) && decide (h = h) && decide (h = h)) then
    bif rest es i == 0 then .ret (.tup [.int .i64 2, .int .i64 h, .ptr 0 0, .int .i64 now]) [(0, some (.cells 29 (Ses.cs (est h ex al))))]
    else .ret (.tup [.int .i64 2, .int .i64 h, .ptr 0 0, .int .i64 (gapsR (rest es i) h es i now al).1]) [(0, some (.cells 29 (Ses.cs (est h ((gapsR (rest es i) h es i now al).1 + h) (gapsR (rest es i) h es i now al).2))))] else .fail else .fail
def keepA (n : Nat) (h : Int) (es : List SV) (now i ex al : Int) : CTree :=
  bif goesB (est h ex al) 5 now then bif h == 0 then .fail else nextA n h es now (w64 (i + 1)) (w64 (now + h)) al else .fail
theorem roundA (n : Nat) (h : Int) (es : List SV) (now i ex al : Int) : loopOnce Try.prog κao ιa TA true 300 eA { eA with s := boundT aM a_s n } cAm [.int .i64 h, .psl 3 es, .ptr 0 0, .int .i64 now, .int .i64 i] [(0, .cells 29 (Ses.cs (est h ex al)))] =
  bif decide (i < (es.length : Int)) then bif inB i es.length then bif h == 0 then .fail else
    bif bI h now (gapAt h es i) 0 ex al && decide (h = h) && decide (h = h) then
      bif togo (gapAt h es i) 0 == 0 then keepA n h es now i ex al
      else keepA n h es (now + (gapAt h es i - 0)) i ex (tickR (togo (gapAt h es i) 0) h now al)
    else .fail
  else .fail
  else .ret (.tup [.int .i64 2, .int .i64 h, .ptr 0 0, .int .i64 now]) [] := by kernel_rfl
theorem aI_iff {h : Int} {es : List SV} {now i ex al : Int} : aI h es now i ex al = true ↔ 3 ≤ h ∧ h ≤ 60 ∧ es.length ≤ 20 ∧ 0 ≤ i ∧ i ≤ es.length ∧ 0 ≤ now ∧ now ≤ 8 + 60 * i ∧ ex = now + h ∧ 0 ≤ al ∧ al ≤ 10100 := by
  simp only [aI, Bool.and_eq_true, decide_eq_true_eq, and_assoc]
theorem nextA_run {n : Nat} {h : Int} {es : List SV} {now i ex al : Int} (hb : rest es i < n) (hi : aI h es now i ex al = true) :
    crun (nextA n h es now i ex al) = some (.tup [.int .i64 2, .int .i64 h, .ptr 0 0, .int .i64 (gapsR (rest es i) h es i now al).1], [(0, some (.cells 29 (Ses.cs (est h ((gapsR (rest es i) h es i now al).1 + h) (gapsR (rest es i) h es i now al).2))))]) := by
  unfold nextA
  have : Nat.blt (rest es i) n = true := by rw [Nat.blt_eq]; exact hb
  rw [this, hi]
  simp only [decide_true, Bool.and_self, cond_true]
  cases hl : (rest es i == 0) with
  | false => rfl
  | true =>
    rw [beq_iff_eq] at hl
    obtain ⟨-, -, -, -, -, -, -, hk, -⟩ := aI_iff.1 hi
    rw [hl, hk]
    rfl
theorem tickR_le (n : Nat) : ∀ (h now al : Int), 0 ≤ h → h ≤ 60 → 0 ≤ now → 0 ≤ al → al ≤ 10100 → now + n ≤ 10000 → 0 ≤ tickR n h now al ∧ tickR n h now al ≤ 10100 := by
  induction n with
  | zero => intro h now al _ _ _ h1 h2 _; exact ⟨h1, h2⟩
  | succ n ih =>
    intro h now al h0 h60 hn h1 h2 hs
    have hd := tdiv3 h0
    rw [tickR_succ]
    cases dueB al (now + 1) with
    | true => exact ih h (now + 1) _ h0 h60 (by omega) (by omega) (by omega) (by omega)
    | false => exact ih h (now + 1) al h0 h60 (by omega) h1 h2 (by omega)
theorem gapsR_succ (m : Nat) (h : Int) (es : List SV) (i now al : Int) : gapsR (m + 1) h es i now al = gapsR m h es (i + 1) (now + gapAt h es i) (tickR (gapAt h es i).toNat h now al) := rfl
theorem round_a (n : Nat) (h : Int) (es : List SV) (now i ex al : Int) (hi : aI h es now i ex al = true) (hb : rest es i < n + 1) :
    crun (loopOnce Try.prog κao ιa TA true 300 eA { eA with s := boundT aM a_s n } cAm [.int .i64 h, .psl 3 es, .ptr 0 0, .int .i64 now, .int .i64 i] [(0, .cells 29 (Ses.cs (est h ex al)))]) =
      crun (.ite (rest es i == 0) (.ret (.tup [.int .i64 2, .int .i64 h, .ptr 0 0, .int .i64 now]) [])
      (.ret (.tup [.int .i64 2, .int .i64 h, .ptr 0 0, .int .i64 (gapsR (rest es i) h es i now al).1]) [(0, some (.cells 29 (Ses.cs (est h ((gapsR (rest es i) h es i now al).1 + h) (gapsR (rest es i) h es i now al).2))))])) := by
  rw [roundA, crun_ite]
  obtain ⟨h1, h2, t1, t2, n1, n2, e1, a1, l1, l2⟩ := aI_iff.1 hi
  by_cases hz : rest es i = 0
  · have hn : i = es.length := by unfold rest at hz; omega
    rw [show decide (i < (es.length : Int)) = false by simp; omega, hz]
    rfl
  · obtain ⟨m, hm⟩ : ∃ m, rest es i = m + 1 := ⟨rest es i - 1, by omega⟩
    have hnt : i < es.length := by unfold rest at hm; omega
    have hm' : rest es (i + 1) = m := by unfold rest at hm ⊢; omega
    have hg : 0 ≤ gapAt h es i ∧ gapAt h es i < h := pick_range (by omega) (by omega)
    rw [hm, gapsR_succ]
    generalize gapAt h es i = g at hg ⊢
    have hin : inB i es.length = true := by unfold inB; simp; omega
    have hz2 : (h == 0) = false := by simp; omega
    have hbI : bI h now g 0 ex al = true := bI_iff.2 ⟨h1, h2, by omega, by omega, by omega, by omega, by omega, by omega, by omega, by omega, by omega⟩
    have htg : togo g 0 = g.toNat := by unfold togo; rw [Int.sub_zero]
    have hal := tickR_le g.toNat h now al (by omega) h2 n2 l1 l2 (by omega)
    have hne : (m + 1 == 0) = false := by simp
    rw [decide_eq_true hnt, hin, hz2, hbI, htg, Int.sub_zero, hne]
    simp only [decide_true, Bool.and_self, cond_true, cond_false]
    have hh : holdB h = true := (holdB_iff h).2 (by omega)
    have key : ∀ now' al', now' = now + g → 0 ≤ al' → al' ≤ 10100 → crun (keepA n h es now' i ex al') = some (.tup [.int .i64 2, .int .i64 h, .ptr 0 0, .int .i64 (gapsR m h es (i + 1) now' al').1], [(0, some (.cells 29 (Ses.cs (est h ((gapsR m h es (i + 1) now' al').1 + h) (gapsR m h es (i + 1) now' al').2))))]) := by
      intro now' al' hn' ha0 ha1
      unfold keepA
      have g1 : goesB (est h ex al') 5 now' = true := goes_cfg.2 ⟨hh, by omega, by omega, hh, (timerB_iff _).2 (by omega), (timerB_iff _).2 (by omega), by decide, by omega, by omega, by decide⟩
      have w1 : w64 (i + 1) = i + 1 := w64_id (by omega) (by omega)
      have w2 : w64 (now' + h) = now' + h := w64_id (by omega) (by omega)
      rw [g1, hz2, w1, w2]
      simp only [cond_true, cond_false]
      have nx : aI h es now' (i + 1) (now' + h) al' = true := aI_iff.2 ⟨h1, h2, t1, by omega, by omega, by omega, by omega, rfl, ha0, ha1⟩
      have hr := nextA_run (n := n) (by omega) nx
      rw [hm'] at hr
      exact hr
    cases hg0 : (g.toNat == 0) with
    | true =>
      rw [beq_iff_eq] at hg0
      rw [hg0]
      have : now + g = now := by omega
      rw [this]
      exact key now al this.symm l1 l2
    | false => exact key (now + g) _ rfl hal.1 hal.2
theorem a_valid : ValidL Try.prog eA := loop_valid (κ := κao) (ι := ιa) (T := TA) (sp := true) (fuel := 300) (c := cAm) (μ := aM) (openT_ok noNumTry mixTry oka 300 5) mixTry TA_ok (show fillC TA cAm = cA by kernel_rfl) (by
  intro n args H r hb hr
  have hr' : crun (a_s args H) = some r := hr
  unfold a_s at hr'
  split at hr'
  · rename_i h es now i h' h2 h3 ex al
    rw [crun_ite] at hr'
    cases hc : (aI h es now i ex al && decide (h' = h) && decide (h2 = h) && decide (h3 = h)) with
    | false => rw [hc] at hr'; cases hr'
    | true =>
      rw [hc, cond_true] at hr'
      simp only [Bool.and_eq_true, decide_eq_true_eq] at hc
      obtain ⟨⟨⟨hi, rfl⟩, rfl⟩, rfl⟩ := hc
      rw [← hr']
      exact round_a n _ es now i ex al hi (by
        have : Nat.blt (rest es i) (n + 1) = true := hb
        rwa [Nat.blt_eq] at this)
  · cases hr')
end Go.Proofs.Ytbeolnccdhjjeaa
/- FsmHold: the last loop. -/
namespace Go.Proofs.Ytbeolnccdhjjeaa
open Go.Am
set_option maxRecDepth 100000
abbrev conn (h t : Int) : Ses := cfgS 1 h 0 (-1) (-1) (t + 5) 0 0 0
def cI (h now k ex al : Int) : Bool := decide (3 ≤ h) && decide (h ≤ 60) && decide (0 ≤ now) && decide (now ≤ 2000) && decide (1 ≤ k) && decide (k ≤ h) && decide (ex = now + h) && decide (0 ≤ al) && decide (al ≤ 20000)
def c_s : CSumm
  | [.int .i64 h, .ptr 0 0, .int .i64 now, .int .i64 k], [(0, .cells 29 [.int .i64 4, .int .u32 65000, .int .u32 1, .int .u32 2, .int .i64 h', .int .i64 5, .int .i64 0, .bool false, .bool false, .int .u32 65000, .int .i64 h2, .int .u32 2, .int .i64 0, .bool false, .int .i64 h3, .int .i64 ex, .int .i64 al, .int .i64 (-1)])] =>
      .ite (cI h now k ex al && decide (h' = h) && decide (h2 = h) && decide (h3 = h)) (.ret (.tup [.int .i64 6]) [(0, some (.cells 29 (Ses.cs (conn h (now + h)))))]) .fail
  | [.int .i64 h, .ptr 0 0, .int .i64 _, .int .i64 k], [(0, .cells 29 [.int .i64 1, .int .u32 65000, .int .u32 1, .int .u32 2, .int .i64 _, .int .i64 5, .int .i64 0, .bool false, .bool false, .int .u32 0, .int .i64 0, .int .u32 0, .int .i64 0, .bool false, .int .i64 0, .int .i64 (-1), .int .i64 (-1), .int .i64 _])] =>
    .ite (decide (h < k)) (.ret (.tup [.int .i64 6]) []) .fail
  | _, _ => .fail
def step_4 : CSumm := fun args H => match args with
  | .agg (.int .i64 4 :: cs) :: r => step_i (.agg (.int .i64 4 :: cs) :: r) H
  | _ => .fail
theorem step_4_k : Known Try.prog 15 (stepC step_4) := (step_i_k.weak (s' := step_4) (by
  intro args H v ups h
  unfold step_4 at h
  split at h
  · exact h
  · cases h)).co _
def cM : List SV → HpL → Nat
  | [.int .i64 h, .ptr 0 0, .int .i64 _, .int .i64 k], _ => togo (h + 1) k
  | _, _ => 0
noncomputable def eC : LEnt := { ins := [0, 5, 6, 14], outs := [], keep := [], size := 138, code := cC, s := c_s }
noncomputable abbrev κc := tbl [(15, stepC step_4)]
theorem okc : KOk Try.prog κc := tbl_cons step_4_k ok0
noncomputable abbrev κco := openT Try.prog κc 300 5
noncomputable abbrev ιc : Nat → Bool := fun g => inl κc g && hasBody Try.prog g
def nextC (n : Nat) (h now k ex al : Int) : CTree :=
  bif Nat.blt (togo (h + 1) k) n then
    bif (cI h now k ex al && decide (h = h) && decide (h = h) && decide (h = h)) then .ret (.tup [.int .i64 6]) [(0, some (.cells 29 (Ses.cs (conn h (now + h)))))] else .fail
  else .fail
def nextD (n : Nat) (h k ret : Int) : CTree :=
  bif Nat.blt (togo (h + 1) k) n then
    bif decide (h < k) then .ret (.tup [.int .i64 6]) [(0, some (.cells 29 (Ses.cs (cfgS 1 h 0 (-1) (-1) ret 0 0 0))))] else .fail
  else .fail
def liveC (n : Nat) (h now k ex al : Int) : CTree :=
  bif !((4 == (4 : Int)) == decide (k < h)) then .ret (.tup [.int .i64 1]) [(0, some (.cells 29 (Ses.cs (est h ex al))))]
  else bif k == h then .ret (.tup [.int .i64 1]) [(0, some (.cells 29 (Ses.cs (est h ex al))))] else nextC n h now (w64 (k + 1)) ex al
theorem roundC (n : Nat) (h now k ex al : Int) : loopOnce Try.prog κco ιc (ltab []) true 300 eC { eC with s := boundT cM c_s n } cC [.int .i64 h, .ptr 0 0, .int .i64 now, .int .i64 k] [(0, .cells 29 (Ses.cs (est h ex al)))] =
  bif decide (k ≤ h) then
    bif goesB (est h ex al) 7 (w64 (now + k)) then
      bif dueB ex (w64 (now + k)) then
        bif !((1 == (4 : Int)) == decide (k < h)) then .ret (.tup [.int .i64 1]) [(0, some (.cells 29 (Ses.cs (cfgS 1 h 0 (-1) (-1) (w64 (w64 (now + k) + 5)) 0 0 0))))]
        else bif k == h then nextD n h (w64 (k + 1)) (w64 (w64 (now + k) + 5)) else nextD n h (w64 (k + 1)) (w64 (w64 (now + k) + 5))
      else bif dueB al (w64 (now + k)) then liveC n h now k ex (w64 (w64 (now + k) + w64 (h.tdiv 3)))
      else liveC n h now k ex al
    else .fail
  else .ret (.tup [.int .i64 6]) [] := by kernel_rfl
theorem cI_iff {h now k ex al : Int} : cI h now k ex al = true ↔ 3 ≤ h ∧ h ≤ 60 ∧ 0 ≤ now ∧ now ≤ 2000 ∧ 1 ≤ k ∧ k ≤ h ∧ ex = now + h ∧ 0 ≤ al ∧ al ≤ 20000 := by
  simp only [cI, Bool.and_eq_true, decide_eq_true_eq, and_assoc]
/-- Where the loop is behind its last round. -/
theorem roundD (n : Nat) (h' ret h now k : Int) : loopOnce Try.prog κco ιc (ltab []) true 300 eC { eC with s := boundT cM c_s n } cC [.int .i64 h, .ptr 0 0, .int .i64 now, .int .i64 k] [(0, .cells 29 [.int .i64 1, .int .u32 65000, .int .u32 1, .int .u32 2, .int .i64 h', .int .i64 5, .int .i64 0, .bool false, .bool false, .int .u32 0, .int .i64 0, .int .u32 0, .int .i64 0, .bool false, .int .i64 0, .int .i64 (-1), .int .i64 (-1), .int .i64 ret])] =
  bif decide (k ≤ h) then .fail else .ret (.tup [.int .i64 6]) [] := by kernel_rfl
theorem nextC_run {n : Nat} {h now k ex al : Int} (hb : togo (h + 1) k < n) (hi : cI h now k ex al = true) :
    crun (nextC n h now k ex al) = some (.tup [.int .i64 6], [(0, some (.cells 29 (Ses.cs (conn h (now + h)))))]) := by
  unfold nextC
  have : Nat.blt (togo (h + 1) k) n = true := by rw [Nat.blt_eq]; exact hb
  rw [this, hi]
  simp only [decide_true, Bool.and_self, cond_true]
  rfl
theorem round_c (n : Nat) (h now k ex al : Int) (hi : cI h now k ex al = true) (hb : togo (h + 1) k < n + 1) :
    crun (loopOnce Try.prog κco ιc (ltab []) true 300 eC { eC with s := boundT cM c_s n } cC [.int .i64 h, .ptr 0 0, .int .i64 now, .int .i64 k] [(0, .cells 29 (Ses.cs (est h ex al)))]) =
      some (.tup [.int .i64 6], [(0, some (.cells 29 (Ses.cs (conn h (now + h)))))]) := by
  rw [roundC]
  obtain ⟨h1, h2, t1, t2, n1, n2, e1, a1, l1⟩ := cI_iff.1 hi
  have hd := tdiv3 (show 0 ≤ h by omega)
  have w1 : w64 (now + k) = now + k := w64_id (by omega) (by omega)
  have w2 : w64 (h.tdiv 3) = h.tdiv 3 := w64_id (by omega) (by omega)
  have w3 : w64 (now + k + h.tdiv 3) = now + k + h.tdiv 3 := w64_id (by omega) (by omega)
  have w4 : w64 (k + 1) = k + 1 := w64_id (by omega) (by omega)
  have w5 : w64 (now + k + 5) = now + k + 5 := w64_id (by omega) (by omega)
  rw [w1, w2, w3, w4, w5]
  have hh : holdB h = true := (holdB_iff h).2 (by omega)
  have g1 : goesB (est h ex al) 7 (now + k) = true := goes_cfg.2 ⟨hh, by omega, by omega, hh, (timerB_iff _).2 (by omega), (timerB_iff _).2 (by omega), by decide, by omega, by omega, by decide⟩
  rw [decide_eq_true n2, g1]
  simp only [cond_true]
  by_cases hk : k = h
  · have d1 : dueB ex (now + k) = true := (dueB_iff _ _).2 (by omega)
    have hlt : decide (k < h) = false := by simp; omega
    have hkh : (k == h) = true := by simp [hk]
    rw [d1, hlt, hkh]
    have e14 : ((1 : Int) == 4) = false := by decide
    rw [e14]
    simp only [beq_self_eq_true, Bool.not_true, cond_true, cond_false]
    unfold nextD
    have hbb : Nat.blt (togo (h + 1) (k + 1)) n = true := by rw [Nat.blt_eq]; unfold togo at hb ⊢; omega
    have hl2 : decide (h < k + 1) = true := by simp; omega
    rw [hbb, hl2, hk]
    rfl
  · have d1 : dueB ex (now + k) = false := by
      cases hq : dueB ex (now + k) with
      | false => rfl
      | true => have := (dueB_iff _ _).1 hq; omega
    have hlt : decide (k < h) = true := by simp; omega
    have hkh : (k == h) = false := by simp [hk]
    have live : ∀ al', 0 ≤ al' → al' ≤ 20000 → crun (bif !((4 == (4 : Int)) == decide (k < h)) then .ret (.tup [.int .i64 1]) [(0, some (.cells 29 (Ses.cs (est h ex al'))))]
        else bif k == h then .ret (.tup [.int .i64 1]) [(0, some (.cells 29 (Ses.cs (est h ex al'))))] else nextC n h now (k + 1) ex al') = some (.tup [.int .i64 6], [(0, some (.cells 29 (Ses.cs (conn h (now + h)))))]) := by
      intro al' ha0 ha1
      rw [hlt, hkh]
      simp only [beq_self_eq_true, Bool.not_true, cond_false]
      exact nextC_run (by unfold togo at hb ⊢; omega) (cI_iff.2 ⟨h1, h2, t1, t2, by omega, by omega, e1, ha0, ha1⟩)
    rw [d1]
    simp only [cond_false]
    unfold liveC
    rw [w4]
    cases dueB al (now + k) with
    | true => exact live _ (by omega) (by omega)
    | false => exact live _ (by omega) (by omega)
theorem c_valid : ValidL Try.prog eC := loop_valid (κ := κco) (ι := ιc) (T := ltab []) (sp := true) (fuel := 300) (c := cC) (μ := cM) (openT_ok noNumTry mixTry okc 300 5) mixTry ltab_nil (show fillC (ltab []) cC = cC by kernel_rfl) (by
  intro n args H r hb hr
  have hr' : crun (c_s args H) = some r := hr
  unfold c_s at hr'
  split at hr'
  · rename_i h now k h' h2 h3 ex al
    rw [crun_ite] at hr'
    cases hc : (cI h now k ex al && decide (h' = h) && decide (h2 = h) && decide (h3 = h)) with
    | false => rw [hc] at hr'; cases hr'
    | true =>
      rw [hc, cond_true] at hr'
      simp only [Bool.and_eq_true, decide_eq_true_eq] at hc
      obtain ⟨⟨⟨hi, rfl⟩, rfl⟩, rfl⟩ := hc
      rw [← hr']
      exact round_c n _ now k ex al hi (by
        have : Nat.blt (togo (_ + 1) k) (n + 1) = true := hb
        rwa [Nat.blt_eq] at this)
  · rename_i h now k h' ret
    rw [crun_ite] at hr'
    cases hc : decide (h < k) with
    | false => rw [hc] at hr'; cases hr'
    | true =>
      rw [hc, cond_true] at hr'
      rw [← hr']
      refine (congrArg crun (roundD n h' ret h now k)).trans ?_
      simp only [decide_eq_true_eq] at hc
      rw [show decide (k ≤ h) = false by simp; omega]
      rfl
  · cases hr')
end Go.Proofs.Ytbeolnccdhjjeaa
/- FsmHold: the plain law. -/
namespace Go.Proofs.Ytbeolnccdhjjeaa
open Go.Am
set_option maxRecDepth 100000
noncomputable abbrev T6 : LTab := ltab [("a", eA), ("c", eC)]
theorem T6_ok : LOk Try.prog T6 := ltab_cons a_valid (ltab_cons c_valid ltab_nil)
noncomputable def m6 : Code := markC [(8, "a"), (24, "c")] body6
theorem fill6 : Try.f6.body = some (fillC T6 m6) := by kernel_rfl
noncomputable abbrev law6 : CSumm := bodyCL Try.prog κao ιa T6 true 300 Try.f6 m6
theorem law6_k : Known Try.prog 6 law6 := ⟨⟨Try.f6, Try.func6, noNum_at noNumTry Try.func6, rfl⟩, bodyL_valid (openT_ok noNumTry mixTry oka 300 5) mixTry T6_ok Try.func6 fill6⟩
abbrev thrice (x : Int) : Bool := decide (x = x) && decide (x = x) && decide (x = x)
theorem law6_t (a : Int) (es : List SV) : law6 [.int .i64 a, .psl 3 es] [] =
  bif decide ((es.length : Int) > 20) then .ret (.bool true) [] else
    bif holdB (w64 (pickI a 58 + 3)) then
      bif aI (w64 (pickI a 58 + 3)) es 8 0 (exAt (w64 (pickI a 58 + 3)) 8) (alAt (w64 (pickI a 58 + 3)) 7) && decide (w64 (pickI a 58 + 3) = w64 (pickI a 58 + 3)) && decide (w64 (pickI a 58 + 3) = w64 (pickI a 58 + 3)) && decide (w64 (pickI a 58 + 3) = w64 (pickI a 58 + 3)) then
        bif rest es 0 == 0 then
          bif cI (w64 (pickI a 58 + 3)) 8 1 (exAt (w64 (pickI a 58 + 3)) 8) (alAt (w64 (pickI a 58 + 3)) 7) && decide (w64 (pickI a 58 + 3) = w64 (pickI a 58 + 3)) && decide (w64 (pickI a 58 + 3) = w64 (pickI a 58 + 3)) && decide (w64 (pickI a 58 + 3) = w64 (pickI a 58 + 3)) then .ret (.bool (bif (4 : Int) == 4 then (0 : Int) == 0 else false)) [] else .fail
        else
          bif cI (w64 (pickI a 58 + 3)) (gapsR (rest es 0) (w64 (pickI a 58 + 3)) es 0 8 (alAt (w64 (pickI a 58 + 3)) 7)).1 1 ((gapsR (rest es 0) (w64 (pickI a 58 + 3)) es 0 8 (alAt (w64 (pickI a 58 + 3)) 7)).1 + w64 (pickI a 58 + 3)) (gapsR (rest es 0) (w64 (pickI a 58 + 3)) es 0 8 (alAt (w64 (pickI a 58 + 3)) 7)).2
            && decide (w64 (pickI a 58 + 3) = w64 (pickI a 58 + 3)) && decide (w64 (pickI a 58 + 3) = w64 (pickI a 58 + 3)) && decide (w64 (pickI a 58 + 3) = w64 (pickI a 58 + 3)) then .ret (.bool (bif (4 : Int) == 4 then (0 : Int) == 0 else false)) [] else .fail
      else .fail
    else .fail := by kernel_rfl
theorem gapsR_le (n : Nat) : ∀ (h : Int) (es : List SV) (i now al : Int), 3 ≤ h → h ≤ 60 → 0 ≤ i → i + n ≤ 20 → 0 ≤ now → now ≤ 8 + 60 * i → 0 ≤ al → al ≤ 10100 →
    0 ≤ (gapsR n h es i now al).1 ∧ (gapsR n h es i now al).1 ≤ 1208 ∧ 0 ≤ (gapsR n h es i now al).2 ∧ (gapsR n h es i now al).2 ≤ 10100 := by
  induction n with
  | zero => intro h es i now al _ _ _ _ _ _ _ _; exact ⟨by simpa [gapsR], by simp only [gapsR]; omega, by simpa [gapsR], by simpa [gapsR]⟩
  | succ n ih =>
    intro h es i now al h3 h60 hi hin hn hnl ha hal
    rw [gapsR_succ]
    have hg : 0 ≤ gapAt h es i ∧ gapAt h es i < h := pick_range (by omega) (by omega)
    generalize gapAt h es i = g at hg ⊢
    have ht := tickR_le g.toNat h now al (by omega) h60 hn ha hal (by omega)
    exact ih h es (i + 1) _ _ h3 h60 (by omega) (by omega) (by omega) (by omega) ht.1 ht.2
theorem law6_true (a : Int) (es : List SV) : crun (law6 [.int .i64 a, .psl 3 es] []) = some (.bool true, []) := by
  rw [law6_t]
  cases hl : decide ((es.length : Int) > 20) with
  | true => rfl
  | false =>
    simp only [decide_eq_false_iff_not] at hl
    rw [cond_false]
    have p := pick_range (x := a) (n := 58) (by omega) (by omega)
    generalize pickI a 58 = x at p ⊢
    have w : w64 (x + 3) = x + 3 := w64_id (by omega) (by omega)
    rw [w]
    have hd := tdiv3 (show 0 ≤ x + 3 by omega)
    have hz : (x + 3 == 0) = false := by simp; omega
    have e1 : exAt (x + 3) 8 = 8 + (x + 3) := by unfold exAt; rw [hz]; rfl
    have e2 : alAt (x + 3) 7 = 7 + (x + 3).tdiv 3 := by unfold alAt; rw [hz]; rfl
    have hr := gapsR_le (rest es 0) (x + 3) es 0 8 (7 + (x + 3).tdiv 3) (by omega) (by omega) (by omega) (by unfold rest; omega) (by omega) (by omega) (by omega) (by omega)
    rw [e1, e2, (holdB_iff _).2 (by omega), show aI (x + 3) es 8 0 (8 + (x + 3)) (7 + (x + 3).tdiv 3) = true from aI_iff.2 ⟨by omega, by omega, by omega, by omega, by omega, by omega, by omega, rfl, by omega, by omega⟩,
      show cI (x + 3) 8 1 (8 + (x + 3)) (7 + (x + 3).tdiv 3) = true from cI_iff.2 ⟨by omega, by omega, by omega, by omega, by omega, by omega, by omega, by omega, by omega⟩,
      show cI (x + 3) (gapsR (rest es 0) (x + 3) es 0 8 (7 + (x + 3).tdiv 3)).1 1 ((gapsR (rest es 0) (x + 3) es 0 8 (7 + (x + 3).tdiv 3)).1 + (x + 3)) (gapsR (rest es 0) (x + 3) es 0 8 (7 + (x + 3).tdiv 3)).2 = true from cI_iff.2 ⟨by omega, by omega, by omega, by omega, by omega, by omega, by omega, by omega, by omega⟩]
    simp only [decide_true, Bool.and_self, cond_true]
    cases rest es 0 == 0 <;> rfl
end Go.Proofs.Ytbeolnccdhjjeaa
/- Sessions: of the rows. -/
namespace Go.Proofs.Ytbeolnccdhjjeaa
open Go.Am Go.ChangeShapes Go.WideShapes Go.ChangeAt Go.RowKit Go.Joins
theorem Try.own : ownKnob Try.prog.godebug = none := by kernel_rfl
theorem laidTry : laidOutB Try.prog = true := by kernel_rfl
theorem mapsTry : mapsRowed Try.prog = true := by kernel_rfl
theorem fullTry : ((List.range Try.prog.types.size).all fun t => match Try.prog.underlying t with | some (.slice e) => decide (0 < Try.prog.cellsOf e) | _ => true) = true := by kernel_rfl
end Go.Proofs.Ytbeolnccdhjjeaa
