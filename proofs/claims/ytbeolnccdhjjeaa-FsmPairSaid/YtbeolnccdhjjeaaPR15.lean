/- 'FsmPair' answers true, whatever it is handed. No condition. -/
import Derived.Test.YtbeolnccdhjjeaaPart5
set_option linter.unusedVariables false
set_option linter.unusedSimpArgs false
namespace Go.Proofs.Ytbeolnccdhjjeaa
open Go.Am Go.ChangeShapes Go.WideShapes Go.ChangeAt Go.RowKit Go.Joins
set_option maxRecDepth 100000
theorem cfg_i {a b h r : Int} (h1 : a ≠ 0) (h2 : b ≠ 0) (h3 : a ≠ b) (h4 : 3 ≤ h ∧ h ≤ 300) (h5 : 1 ≤ r ∧ r ≤ 300) : cfgOk a b h r 0 = true := by
 rw [show cfgOk a b h r 0 = soundB a b h r 0 by unfold cfgOk soundB; simp only [and2_eq]]
 unfold soundB
 rw [bne_yes h1, bne_yes h2, bne_yes h3, (holdB_iff _).2 (by omega), decide_eq_true (show r ≥ 1 by omega), decide_eq_true (show r ≤ 65535 by omega)]
 rfl
theorem minI_comm (a b : Int) : minI a b = minI b a := by
 unfold minI
 by_cases h : b < a
 · rw [decide_eq_true h, decide_eq_false (by omega)]; rfl
 · by_cases h' : a < b
   · rw [decide_eq_false h, decide_eq_true h']; rfl
   · rw [decide_eq_false h, decide_eq_false h']; simp only [cond_false]; omega
theorem minI_le (a b : Int) : (minI a b = a ∨ minI a b = b) := by
 unfold minI
 cases decide (b < a)
 · exact .inl rfl
 · exact .inr rfl
abbrev cfA (H O R : Int) (pa : Bool) : Cf := ⟨1, 2, H, O, R, minI H O, pa⟩
abbrev cfB (H O R : Int) (pb : Bool) : Cf := ⟨2, 1, O, H, R, minI O H, pb⟩
theorem pairT_true {H O R D T : Int} (pa pb : Bool) (hH : 3 ≤ H ∧ H ≤ 300) (hO : 3 ≤ O ∧ O ≤ 300) (hR : 1 ≤ R ∧ R ≤ 300) (hD : 0 ≤ D ∧ D ≤ 8) (hT : 0 ≤ T ∧ T ≤ 900) : crun (pairT H O R D T pa pb) = some (.bool true, []) := by
 have g : ∀ (ph id pe ho : Int) (p : Bool) (ex ret k : Int), id ≠ 0 → pe ≠ 0 → id ≠ pe → 3 ≤ ho ∧ ho ≤ 300 → 0 ≤ ph ∧ ph ≤ 4 → ex = -1 → (ret = -1 ∨ 0 ≤ ret ∧ ret ≤ 10000) → knownB k = true → goesB (sQ ph id pe ho R p ex ret) k 0 = true := by
  intro ph id pe ho p ex ret k h1 h2 h3 h4 h5 h6 h7 h8
  exact goes_i h1 h2 h3 h4 hR rfl h5 (.inl rfl) (.inl h6) (.inl rfl) h7 ⟨by decide, by decide⟩ h8
 have hr : ∀ p : Bool, rT p R = -1 ∨ 0 ≤ rT p R ∧ rT p R ≤ 10000 := by
  intro p
  cases p with
  | true => exact .inl rfl
  | false =>
   have : rT false R = R := by show w64 (0 + R) = R; rw [w_id (by omega) (by omega)]; omega
   rw [this]; omega
 unfold pairT
 rw [cfg_i (by decide) (by decide) (by decide) hH hR, cfg_i (by decide) (by decide) (by decide) hO hR,
  g 0 1 2 H pa _ _ 1 (by decide) (by decide) (by decide) hH (by decide) rfl (.inl rfl) (by decide),
  g 0 2 1 O pb _ _ 1 (by decide) (by decide) (by decide) hO (by decide) rfl (.inl rfl) (by decide),
  g 1 1 2 H pa _ _ 3 (by decide) (by decide) (by decide) hH (by decide) rfl (hr pa) (by decide),
  g 1 2 1 O pb _ _ 3 (by decide) (by decide) (by decide) hO (by decide) rfl (hr pb) (by decide)]
 rw [cond_true, cond_true, cond_true, cond_true, cond_true, cond_true]
 have wD : w64 (0 + D) = D := by rw [w_id (by omega) (by omega)]; omega
 have ea : eQ 1 2 H O R pa D = b2 (cfA H O R pa) D := by
  show (⟨sQ 2 1 2 H R pa (w64 (0 + 30)) (-1), [ltV (opnM O 2) (w64 (0 + D))], !pa, false⟩ : Ed) = _
  rw [wD]; rfl
 have eb : eQ 2 1 O H R pb D = b2 (cfB H O R pb) D := by
  show (⟨sQ 2 2 1 O R pb (w64 (0 + 30)) (-1), [ltV (opnM H 1) (w64 (0 + D))], !pb, false⟩ : Ed) = _
  rw [wD]; rfl
 rw [ea, eb]
 have hg : goodB (minI H O) D (T + 1 - 0).toNat 0 (b2 (cfA H O R pa) D) (b2 (cfB H O R pb) D) = true := by
  by_cases hl : 2 * D + 6 ≤ minI H O
  · have lL : minI H O ≤ 300 := by rcases minI_le H O with h | h <;> omega
    have oa : (cfA H O R pa).Ok := ⟨show (1 : Int) ≠ 0 by decide, show (2 : Int) ≠ 0 by decide, show (1 : Int) ≠ 2 by decide, hH, hO, hR, show 6 ≤ minI H O ∧ minI H O ≤ 300 by omega, rfl⟩
    have ob : (cfB H O R pb).Ok := ⟨show (2 : Int) ≠ 0 by decide, show (1 : Int) ≠ 0 by decide, show (2 : Int) ≠ 1 by decide, hO, hH, hR, show 6 ≤ minI O H ∧ minI O H ≤ 300 by rw [minI_comm O H]; omega, rfl⟩
    exact good_wait oa ob (minI_comm O H) hD hl _ 0 (by omega) hD.1 (by omega)
  · exact good_idle hD (by omega) _ _ _ _
 have li : ∀ (m : Msg), m.path = [] ∧ m.cl = [] ∧ m.cm = [] ∧ m.reach = [] ∧ m.un = [] → liOk [ltV m D] := fun m hm => liOk_app (q := []) liOk_nil (light_nil hm)
 rw [loOk_i (a := b2 (cfA H O R pa) D) (b := b2 (cfB H O R pb) D) rfl (by show ((1 : Nat) : Int) + ((1 : Nat) : Int) ≤ cap 0; decide) (li _ ⟨rfl, rfl, rfl, rfl, rfl⟩) (li _ ⟨rfl, rfl, rfl, rfl, rfl⟩) (by decide) (by omega) (by omega) hD.1 (by omega) hg]
 rfl
theorem pair_true (h o r d t : Int) (p f : Bool) : crun (pair_b [.int .i64 h, .int .i64 o, .int .i64 r, .int .i64 d, .int .i64 t, .bool p, .bool f] []) = some (.bool true, []) := by
 have a1 := pick_range (x := h) (n := 200) (by omega) (by omega)
 have a2 := pick_range (x := o) (n := 200) (by omega) (by omega)
 have a3 := pick_range (x := r) (n := 60) (by omega) (by omega)
 have a4 := pick_range (x := d) (n := 9) (by omega) (by omega)
 have a5 := pick_range (x := t) (n := 361) (by omega) (by omega)
 have w1 : w64 (3 + pickI h 200) = 3 + pickI h 200 := w_id (by omega) (by omega)
 have w2 : w64 (3 + pickI o 200) = 3 + pickI o 200 := w_id (by omega) (by omega)
 have w3 : w64 (1 + pickI r 60) = 1 + pickI r 60 := w_id (by omega) (by omega)
 have w5 : w64 (40 + pickI t 361) = 40 + pickI t 361 := w_id (by omega) (by omega)
 have main : ∀ pa pb, crun (pairT (w64 (3 + pickI h 200)) (w64 (3 + pickI o 200)) (w64 (1 + pickI r 60)) (pickI d 9) (w64 (40 + pickI t 361)) pa pb) = some (.bool true, []) := by
  intro pa pb
  rw [w1, w2, w3, w5]
  exact pairT_true pa pb (by omega) (by omega) (by omega) (by omega) (by omega)
 cases p with
 | true =>
  cases f with
  | true => exact (congrArg crun (pair_t1 h o r d t)).trans (main _ _)
  | false => exact (congrArg crun (pair_t2 h o r d t)).trans (main _ _)
 | false => exact (congrArg crun (pair_t3 h o r d t f)).trans (main _ _)
theorem fsmPair_lifted (os : Os) (started : os.Started) (H : Type) (enc : TypeId × Value → H) :
  ReturnsInHanded {} Try.checked os 5 .any (Rows.fsmPairSpec.pre6 enc Try.prog Try.f5 Rows.fsmPairRow.domain false) (Rows.fsmPairSpec.post enc Try.prog Try.f5 false true false false) := by
 refine returnsInHanded_of_change (C := Try.checked) Try.own started (by kernel_rfl) Try.func5
  (ChangeSpec.witness6 (enc := enc) (C := Try.checked) false ⟨#[], #[.int .i64 0, .int .i64 0, .int .i64 0, .int .i64 0, .int .i64 0, .bool false, .bool false], []⟩ 8 (by kernel_rfl) (by kernel_rfl) (by kernel_rfl) (by kernel_rfl)) ?_
 intro W base args ds gs before hval0 hW hcnd _
 exact row_true (tb := 4) laidTry mapsTry fullTry (by kernel_rfl) (by kernel_rfl) pair_k rfl Try.underlying4 rfl (fun ss h => by
  rw [Try.params5] at h
  obtain ⟨s0, ss, rfl, h0, h⟩ := h.cons_inv
  obtain ⟨s1, ss, rfl, h1, h⟩ := h.cons_inv
  obtain ⟨s2, ss, rfl, h2, h⟩ := h.cons_inv
  obtain ⟨s3, ss, rfl, h3, h⟩ := h.cons_inv
  obtain ⟨s4, ss, rfl, h4, h⟩ := h.cons_inv
  obtain ⟨s5, ss, rfl, h5, h⟩ := h.cons_inv
  obtain ⟨s6, ss, rfl, h6, h⟩ := h.cons_inv
  obtain rfl := h.nil_inv
  obtain ⟨a0, rfl, -⟩ := h0.int_inv Try.underlying3
  obtain ⟨a1, rfl, -⟩ := h1.int_inv Try.underlying3
  obtain ⟨a2, rfl, -⟩ := h2.int_inv Try.underlying3
  obtain ⟨a3, rfl, -⟩ := h3.int_inv Try.underlying3
  obtain ⟨a4, rfl, -⟩ := h4.int_inv Try.underlying3
  obtain ⟨a5, rfl⟩ := h5.bool_inv Try.underlying4
  obtain ⟨a6, rfl⟩ := h6.bool_inv Try.underlying4
  exact pair_true a0 a1 a2 a3 a4 a5 a6) (fun ds h => by
   match ds, h with
   | [d0, d1, d2, d3, d4, d5, d6], _ => rfl) hval0 hW (GlobR.empty (by kernel_rfl))
theorem fsmPair_holds : Rows.FsmPairSaid :=
 OpenClaim.holds_of_wide 5 Try.f5 rfl rfl rfl rfl rfl rfl rfl ⟨rfl, rfl, rfl, rfl, rfl⟩ rfl rfl rfl rfl rfl (by kernel_rfl) Try.func5 (by kernel_rfl)
  (of_decide_eq_true (by kernel_rfl)) (by unfold Func.isWrapper; first | (rw [if_pos (by decide +kernel)]; kernel_rfl) | (rw [if_neg (by decide +kernel)]; exact ⟨rfl, rfl⟩))
  (fun os started H enc _ => fsmPair_lifted os started H enc)
end Go.Proofs.Ytbeolnccdhjjeaa
#print axioms Go.Proofs.Ytbeolnccdhjjeaa.fsmPair_holds
