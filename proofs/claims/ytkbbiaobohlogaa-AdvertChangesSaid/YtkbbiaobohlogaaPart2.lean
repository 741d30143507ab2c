/- What is advertised: lists are the same, or not. -/
import Derived.Test.YtkbbiaobohlogaaPart1
set_option linter.unusedVariables false
set_option linter.unusedSimpArgs false
namespace Go.Proofs.Ytkbbiaobohlogaa
open Go.Am
set_option maxRecDepth 100000
theorem drop_step {a b : List SV} {i : Nat} (ha : i < a.length) (hb : i < b.length) : a.drop i = b.drop i ↔ (a.getD i .junk = b.getD i .junk ∧ a.drop (i + 1) = b.drop (i + 1)) := by
 rw [List.drop_eq_getElem_cons ha, List.drop_eq_getElem_cons hb, List.cons.injEq]
 have e1 : a.getD i .junk = a[i] := by simp [List.getD_eq_getElem?_getD, ha]
 have e2 : b.getD i .junk = b[i] := by simp [List.getD_eq_getElem?_getD, hb]
 rw [e1, e2]
theorem getD_mem {a : List SV} {i : Nat} (h : i < a.length) : a.getD i .junk ∈ a := by
 have e1 : a.getD i .junk = a[i] := by simp [List.getD_eq_getElem?_getD, h]
 rw [e1]; exact List.getElem_mem h
def n32 (x : SV) : Prop := x = .int .u32 (asI x)
def n8s (x : SV) : Prop := x = .agg [.int .u8 (asI (cellAt x 0)), .int .u8 (asI (cellAt x 1)), .int .u8 (asI (cellAt x 2)), .int .u8 (asI (cellAt x 3)), .int .u8 (asI (cellAt x 4)), .int .u8 (asI (cellAt x 5)), .int .u8 (asI (cellAt x 6)), .int .u8 (asI (cellAt x 7))]
def ne32 (x y : SV) : Bool := asI x != asI y
def ne8s (x y : SV) : Bool := !((asI (cellAt x 0) == asI (cellAt y 0)) && ((asI (cellAt x 1) == asI (cellAt y 1)) && ((asI (cellAt x 2) == asI (cellAt y 2)) && ((asI (cellAt x 3) == asI (cellAt y 3)) && ((asI (cellAt x 4) == asI (cellAt y 4)) && ((asI (cellAt x 5) == asI (cellAt y 5)) && ((asI (cellAt x 6) == asI (cellAt y 6)) && (asI (cellAt x 7) == asI (cellAt y 7)))))))))
theorem ne32_ok {x y : SV} (hx : n32 x) (hy : n32 y) : ne32 x y = false ↔ x = y := by
 unfold ne32
 rw [bne_eq_false_iff_eq]
 constructor
 · intro h; rw [hx, hy, h]
 · intro h; rw [h]
theorem ne8s_ok {x y : SV} (hx : n8s x) (hy : n8s y) : ne8s x y = false ↔ x = y := by
 unfold ne8s
 rw [Bool.not_eq_false', Bool.and_eq_true, Bool.and_eq_true, Bool.and_eq_true, Bool.and_eq_true, Bool.and_eq_true, Bool.and_eq_true, Bool.and_eq_true]
 simp only [beq_iff_eq]
 constructor
 · rintro ⟨h0, h1, h2, h3, h4, h5, h6, h7⟩
   rw [hx, hy, h0, h1, h2, h3, h4, h5, h6, h7]
 · intro h; rw [h]; exact ⟨rfl, rfl, rfl, rfl, rfl, rfl, rfl, rfl⟩
def nrm33 (a : List SV) : Prop := ∀ x ∈ a, n32 x
def nrm35 (a : List SV) : Prop := ∀ x ∈ a, n32 x
def nrm80 (a : List SV) : Prop := ∀ x ∈ a, n8s x
theorem dec_f {p : Prop} (h : ¬ p) : dec p = false := by
 cases hd : dec p with
 | false => rfl
 | true => exact absurd (dec_iff.1 hd) h
theorem dec_congr {p q : Prop} (h : p ↔ q) : dec p = dec q := by
 cases hd : dec q with
 | true => exact dec_iff.2 (h.2 (dec_iff.1 hd))
 | false => exact dec_f (fun hp => by rw [dec_iff.2 (h.1 hp)] at hd; cases hd)
noncomputable def gb30 : Code := Try.f30.body.getD .skip
noncomputable def gc30 : Code := (loopAt 4 gb30).getD .skip
noncomputable def gm30_s : CSumm := fun args H => match args, H with
 | [.psl 33 a, .psl 33 b, .int .i64 i], [] => .ite (dec (a.length = b.length ∧ a.length ≤ 100000 ∧ 0 ≤ i ∧ nrm33 a ∧ nrm33 b)) (.ite (dec (a.drop i.toNat = b.drop i.toNat)) (.ret (.tup [.int .i64 2, .junk]) []) (.ret (.tup [.int .i64 1, .bool false]) [])) .fail
 | _, _ => .fail
def gM30 : List SV → HpL → Nat
 | [.psl _ a, _, .int _ i], _ => a.length - i.toNat
 | _, _ => 0
noncomputable def g30 : LEnt := { ins := [0, 1, 5], outs := [4], keep := [], size := 26, code := gc30, s := gm30_s }
theorem gm30_t (N : Nat) (a b : List SV) (i : Int) : loopOnce Try.prog (openT Try.prog (tbl []) 300 5) (fun _ => false) (ltab []) true 300 g30 { g30 with s := boundT gM30 gm30_s N } gc30 [.psl 33 a, .psl 33 b, .int .i64 i] [] =
 bif decide (i < a.length) then bif inB i a.length then bif inB i b.length then bif ne32 (a.getD i.toNat .junk) (b.getD i.toNat .junk) then .ret (.tup [.int .i64 1, .bool false]) [] else
  (bif Nat.blt (a.length - (w64 (i + 1)).toNat) N then bif dec (a.length = b.length ∧ a.length ≤ 100000 ∧ 0 ≤ w64 (i + 1) ∧ nrm33 a ∧ nrm33 b) then (bif dec (a.drop (w64 (i + 1)).toNat = b.drop (w64 (i + 1)).toNat) then .ret (.tup [.int .i64 2, .junk]) [] else .ret (.tup [.int .i64 1, .bool false]) []) else .fail else .fail) else .fail else .fail
 else .ret (.tup [.int .i64 2, .junk]) [] := by kernel_rfl
theorem gm30_v : ValidL Try.prog g30 := loop_valid (κ := openT Try.prog (tbl []) 300 5) (ι := fun _ => false) (T := ltab []) (sp := true) (fuel := 300) (c := gc30) (μ := gM30) (openT_ok noNumTry mixTry ok0 300 5) mixTry ltab_nil (show fillC (ltab []) gc30 = gc30 by kernel_rfl) (by
 intro N args H r hb h
 unfold g30 gm30_s at h
 simp only [] at h
 split at h
 · rename_i a b i
   rw [crun_ite] at h
   cases hc : dec _ with
   | false => rw [hc] at h; cases h
   | true =>
    rw [hc, cond_true, crun_ite] at h
    obtain ⟨h0, h1, h2, h3, h4⟩ := dec_iff.1 hc
    refine (congrArg crun (gm30_t N a b i)).trans ?_
    by_cases hi : i < a.length
    · have hN : Nat.blt (a.length - i.toNat) (N + 1) = true := hb
      rw [Nat.blt_eq] at hN
      have la : i.toNat < a.length := by omega
      have lb : i.toNat < b.length := by omega
      rw [decide_eq_true (by omega), cond_true, show inB i a.length = true by unfold inB; simp; omega, cond_true, show inB i b.length = true by unfold inB; simp; omega, cond_true]
      have hne := ne32_ok (h3 _ (getD_mem la)) (h4 _ (getD_mem lb))
      have hst := drop_step la lb
      cases hn : ne32 (a.getD i.toNat .junk) (b.getD i.toNat .junk) with
      | true =>
       rw [dec_f (fun hd => by rw [hne.2 (hst.1 hd).1] at hn; cases hn)] at h
       exact h
      | false =>
       rw [cond_false, show w64 (i + 1) = i + 1 from w64_id (by omega) (by omega), show Nat.blt (a.length - (i + 1).toNat) N = true by rw [Nat.blt_eq]; omega, dec_iff.2 ⟨h0, h1, by omega, h3, h4⟩, cond_true, cond_true, show (i + 1).toNat = i.toNat + 1 by omega]
       rw [dec_congr (show a.drop i.toNat = b.drop i.toNat ↔ a.drop (i.toNat + 1) = b.drop (i.toNat + 1) from ⟨fun hd => (hst.1 hd).2, fun hd => hst.2 ⟨hne.1 hn, hd⟩⟩)] at h
       rw [crun_cond]; exact h
    · rw [decide_eq_false (by omega)]
      rw [dec_iff.2 (by rw [List.drop_eq_nil_of_le (by omega), List.drop_eq_nil_of_le (by omega)])] at h
      exact h
 · cases h)
noncomputable def eq30_s : CSumm := fun args H => match args, H with
 | [.psl 33 a, .psl 33 b], [] => .ite (dec (a.length ≤ 100000 ∧ b.length ≤ 100000 ∧ nrm33 a ∧ nrm33 b)) (.ret (.bool (dec (a = b))) []) .fail
 | _, _ => .fail
theorem eq30_t (a b : List SV) : bodyCL Try.prog (openT Try.prog (tbl []) 300 5) (fun _ => false) (ltab [("s", g30)]) true 300 Try.f30 (markC [(4, "s")] gb30) [.psl 33 a, .psl 33 b] [] =
 bif (a.length : Int) != (b.length : Int) then .ret (.bool false) [] else bif dec (a.length = b.length ∧ a.length ≤ 100000 ∧ (0 : Int) ≤ 0 ∧ nrm33 a ∧ nrm33 b) then (bif dec (a.drop (0 : Int).toNat = b.drop (0 : Int).toNat) then .ret (.bool true) [] else .ret (.bool false) []) else .fail := by kernel_rfl
theorem eq30_k : Known Try.prog 30 eq30_s := by
 have h0 : Known Try.prog 30 (bodyCL Try.prog (openT Try.prog (tbl []) 300 5) (fun _ => false) (ltab [("s", g30)]) true 300 Try.f30 (markC [(4, "s")] gb30)) := ⟨⟨Try.f30, Try.func30, noNum_at noNumTry Try.func30, rfl⟩, bodyL_valid (openT_ok noNumTry mixTry ok0 300 5) mixTry (ltab_cons gm30_v ltab_nil) Try.func30 (show Try.f30.body = some (fillC (ltab [("s", g30)]) (markC [(4, "s")] gb30)) by kernel_rfl)⟩
 refine h0.weak (fun args H v ups h => ?_)
 unfold eq30_s at h
 split at h
 · rename_i a b
   rw [crun_ite] at h
   cases hc : dec _ with
   | false => rw [hc] at h; cases h
   | true =>
    rw [hc, cond_true] at h
    obtain ⟨h1, h2, h3, h4⟩ := dec_iff.1 hc
    refine (congrArg crun (eq30_t a b)).trans ?_
    by_cases hl : a.length = b.length
    · rw [show ((a.length : Int) != (b.length : Int)) = false by simp; omega, cond_false, dec_iff.2 ⟨hl, h1, by omega, h3, h4⟩, cond_true]
      show crun (bif dec (a = b) then _ else _) = _
      cases hd : dec (a = b) with
      | true => rw [hd] at h; exact h
      | false => rw [hd] at h; exact h
    · rw [show ((a.length : Int) != (b.length : Int)) = true by simp; omega, cond_true]
      rw [dec_f (fun hd => hl (by rw [hd]))] at h
      exact h
 · cases h
noncomputable def gb31 : Code := Try.f31.body.getD .skip
noncomputable def gc31 : Code := (loopAt 4 gb31).getD .skip
noncomputable def gm31_s : CSumm := fun args H => match args, H with
 | [.psl 35 a, .psl 35 b, .int .i64 i], [] => .ite (dec (a.length = b.length ∧ a.length ≤ 100000 ∧ 0 ≤ i ∧ nrm35 a ∧ nrm35 b)) (.ite (dec (a.drop i.toNat = b.drop i.toNat)) (.ret (.tup [.int .i64 2, .junk]) []) (.ret (.tup [.int .i64 1, .bool false]) [])) .fail
 | _, _ => .fail
def gM31 : List SV → HpL → Nat
 | [.psl _ a, _, .int _ i], _ => a.length - i.toNat
 | _, _ => 0
noncomputable def g31 : LEnt := { ins := [0, 1, 5], outs := [4], keep := [], size := 26, code := gc31, s := gm31_s }
theorem gm31_t (N : Nat) (a b : List SV) (i : Int) : loopOnce Try.prog (openT Try.prog (tbl []) 300 5) (fun _ => false) (ltab []) true 300 g31 { g31 with s := boundT gM31 gm31_s N } gc31 [.psl 35 a, .psl 35 b, .int .i64 i] [] =
 bif decide (i < a.length) then bif inB i a.length then bif inB i b.length then bif ne32 (a.getD i.toNat .junk) (b.getD i.toNat .junk) then .ret (.tup [.int .i64 1, .bool false]) [] else
  (bif Nat.blt (a.length - (w64 (i + 1)).toNat) N then bif dec (a.length = b.length ∧ a.length ≤ 100000 ∧ 0 ≤ w64 (i + 1) ∧ nrm35 a ∧ nrm35 b) then (bif dec (a.drop (w64 (i + 1)).toNat = b.drop (w64 (i + 1)).toNat) then .ret (.tup [.int .i64 2, .junk]) [] else .ret (.tup [.int .i64 1, .bool false]) []) else .fail else .fail) else .fail else .fail
 else .ret (.tup [.int .i64 2, .junk]) [] := by kernel_rfl
theorem gm31_v : ValidL Try.prog g31 := loop_valid (κ := openT Try.prog (tbl []) 300 5) (ι := fun _ => false) (T := ltab []) (sp := true) (fuel := 300) (c := gc31) (μ := gM31) (openT_ok noNumTry mixTry ok0 300 5) mixTry ltab_nil (show fillC (ltab []) gc31 = gc31 by kernel_rfl) (by
 intro N args H r hb h
 unfold g31 gm31_s at h
 simp only [] at h
 split at h
 · rename_i a b i
   rw [crun_ite] at h
   cases hc : dec _ with
   | false => rw [hc] at h; cases h
   | true =>
    rw [hc, cond_true, crun_ite] at h
    obtain ⟨h0, h1, h2, h3, h4⟩ := dec_iff.1 hc
    refine (congrArg crun (gm31_t N a b i)).trans ?_
    by_cases hi : i < a.length
    · have hN : Nat.blt (a.length - i.toNat) (N + 1) = true := hb
      rw [Nat.blt_eq] at hN
      have la : i.toNat < a.length := by omega
      have lb : i.toNat < b.length := by omega
      rw [decide_eq_true (by omega), cond_true, show inB i a.length = true by unfold inB; simp; omega, cond_true, show inB i b.length = true by unfold inB; simp; omega, cond_true]
      have hne := ne32_ok (h3 _ (getD_mem la)) (h4 _ (getD_mem lb))
      have hst := drop_step la lb
      cases hn : ne32 (a.getD i.toNat .junk) (b.getD i.toNat .junk) with
      | true =>
       rw [dec_f (fun hd => by rw [hne.2 (hst.1 hd).1] at hn; cases hn)] at h
       exact h
      | false =>
       rw [cond_false, show w64 (i + 1) = i + 1 from w64_id (by omega) (by omega), show Nat.blt (a.length - (i + 1).toNat) N = true by rw [Nat.blt_eq]; omega, dec_iff.2 ⟨h0, h1, by omega, h3, h4⟩, cond_true, cond_true, show (i + 1).toNat = i.toNat + 1 by omega]
       rw [dec_congr (show a.drop i.toNat = b.drop i.toNat ↔ a.drop (i.toNat + 1) = b.drop (i.toNat + 1) from ⟨fun hd => (hst.1 hd).2, fun hd => hst.2 ⟨hne.1 hn, hd⟩⟩)] at h
       rw [crun_cond]; exact h
    · rw [decide_eq_false (by omega)]
      rw [dec_iff.2 (by rw [List.drop_eq_nil_of_le (by omega), List.drop_eq_nil_of_le (by omega)])] at h
      exact h
 · cases h)
noncomputable def eq31_s : CSumm := fun args H => match args, H with
 | [.psl 35 a, .psl 35 b], [] => .ite (dec (a.length ≤ 100000 ∧ b.length ≤ 100000 ∧ nrm35 a ∧ nrm35 b)) (.ret (.bool (dec (a = b))) []) .fail
 | _, _ => .fail
theorem eq31_t (a b : List SV) : bodyCL Try.prog (openT Try.prog (tbl []) 300 5) (fun _ => false) (ltab [("s", g31)]) true 300 Try.f31 (markC [(4, "s")] gb31) [.psl 35 a, .psl 35 b] [] =
 bif (a.length : Int) != (b.length : Int) then .ret (.bool false) [] else bif dec (a.length = b.length ∧ a.length ≤ 100000 ∧ (0 : Int) ≤ 0 ∧ nrm35 a ∧ nrm35 b) then (bif dec (a.drop (0 : Int).toNat = b.drop (0 : Int).toNat) then .ret (.bool true) [] else .ret (.bool false) []) else .fail := by kernel_rfl
theorem eq31_k : Known Try.prog 31 eq31_s := by
 have h0 : Known Try.prog 31 (bodyCL Try.prog (openT Try.prog (tbl []) 300 5) (fun _ => false) (ltab [("s", g31)]) true 300 Try.f31 (markC [(4, "s")] gb31)) := ⟨⟨Try.f31, Try.func31, noNum_at noNumTry Try.func31, rfl⟩, bodyL_valid (openT_ok noNumTry mixTry ok0 300 5) mixTry (ltab_cons gm31_v ltab_nil) Try.func31 (show Try.f31.body = some (fillC (ltab [("s", g31)]) (markC [(4, "s")] gb31)) by kernel_rfl)⟩
 refine h0.weak (fun args H v ups h => ?_)
 unfold eq31_s at h
 split at h
 · rename_i a b
   rw [crun_ite] at h
   cases hc : dec _ with
   | false => rw [hc] at h; cases h
   | true =>
    rw [hc, cond_true] at h
    obtain ⟨h1, h2, h3, h4⟩ := dec_iff.1 hc
    refine (congrArg crun (eq31_t a b)).trans ?_
    by_cases hl : a.length = b.length
    · rw [show ((a.length : Int) != (b.length : Int)) = false by simp; omega, cond_false, dec_iff.2 ⟨hl, h1, by omega, h3, h4⟩, cond_true]
      show crun (bif dec (a = b) then _ else _) = _
      cases hd : dec (a = b) with
      | true => rw [hd] at h; exact h
      | false => rw [hd] at h; exact h
    · rw [show ((a.length : Int) != (b.length : Int)) = true by simp; omega, cond_true]
      rw [dec_f (fun hd => hl (by rw [hd]))] at h
      exact h
 · cases h
noncomputable def gb32 : Code := Try.f32.body.getD .skip
noncomputable def gc32 : Code := (loopAt 4 gb32).getD .skip
noncomputable def gm32_s : CSumm := fun args H => match args, H with
 | [.psl 80 a, .psl 80 b, .int .i64 i], [] => .ite (dec (a.length = b.length ∧ a.length ≤ 100000 ∧ 0 ≤ i ∧ nrm80 a ∧ nrm80 b)) (.ite (dec (a.drop i.toNat = b.drop i.toNat)) (.ret (.tup [.int .i64 2, .junk]) []) (.ret (.tup [.int .i64 1, .bool false]) [])) .fail
 | _, _ => .fail
def gM32 : List SV → HpL → Nat
 | [.psl _ a, _, .int _ i], _ => a.length - i.toNat
 | _, _ => 0
noncomputable def g32 : LEnt := { ins := [0, 1, 5], outs := [4], keep := [], size := 26, code := gc32, s := gm32_s }
theorem gm32_t (N : Nat) (a b : List SV) (i : Int) : loopOnce Try.prog (openT Try.prog (tbl []) 300 5) (fun _ => false) (ltab []) true 300 g32 { g32 with s := boundT gM32 gm32_s N } gc32 [.psl 80 a, .psl 80 b, .int .i64 i] [] =
 bif decide (i < a.length) then bif inB i a.length then bif inB i b.length then bif ne8s (a.getD i.toNat .junk) (b.getD i.toNat .junk) then .ret (.tup [.int .i64 1, .bool false]) [] else
  (bif Nat.blt (a.length - (w64 (i + 1)).toNat) N then bif dec (a.length = b.length ∧ a.length ≤ 100000 ∧ 0 ≤ w64 (i + 1) ∧ nrm80 a ∧ nrm80 b) then (bif dec (a.drop (w64 (i + 1)).toNat = b.drop (w64 (i + 1)).toNat) then .ret (.tup [.int .i64 2, .junk]) [] else .ret (.tup [.int .i64 1, .bool false]) []) else .fail else .fail) else .fail else .fail
 else .ret (.tup [.int .i64 2, .junk]) [] := by kernel_rfl
theorem gm32_v : ValidL Try.prog g32 := loop_valid (κ := openT Try.prog (tbl []) 300 5) (ι := fun _ => false) (T := ltab []) (sp := true) (fuel := 300) (c := gc32) (μ := gM32) (openT_ok noNumTry mixTry ok0 300 5) mixTry ltab_nil (show fillC (ltab []) gc32 = gc32 by kernel_rfl) (by
 intro N args H r hb h
 unfold g32 gm32_s at h
 simp only [] at h
 split at h
 · rename_i a b i
   rw [crun_ite] at h
   cases hc : dec _ with
   | false => rw [hc] at h; cases h
   | true =>
    rw [hc, cond_true, crun_ite] at h
    obtain ⟨h0, h1, h2, h3, h4⟩ := dec_iff.1 hc
    refine (congrArg crun (gm32_t N a b i)).trans ?_
    by_cases hi : i < a.length
    · have hN : Nat.blt (a.length - i.toNat) (N + 1) = true := hb
      rw [Nat.blt_eq] at hN
      have la : i.toNat < a.length := by omega
      have lb : i.toNat < b.length := by omega
      rw [decide_eq_true (by omega), cond_true, show inB i a.length = true by unfold inB; simp; omega, cond_true, show inB i b.length = true by unfold inB; simp; omega, cond_true]
      have hne := ne8s_ok (h3 _ (getD_mem la)) (h4 _ (getD_mem lb))
      have hst := drop_step la lb
      cases hn : ne8s (a.getD i.toNat .junk) (b.getD i.toNat .junk) with
      | true =>
       rw [dec_f (fun hd => by rw [hne.2 (hst.1 hd).1] at hn; cases hn)] at h
       exact h
      | false =>
       rw [cond_false, show w64 (i + 1) = i + 1 from w64_id (by omega) (by omega), show Nat.blt (a.length - (i + 1).toNat) N = true by rw [Nat.blt_eq]; omega, dec_iff.2 ⟨h0, h1, by omega, h3, h4⟩, cond_true, cond_true, show (i + 1).toNat = i.toNat + 1 by omega]
       rw [dec_congr (show a.drop i.toNat = b.drop i.toNat ↔ a.drop (i.toNat + 1) = b.drop (i.toNat + 1) from ⟨fun hd => (hst.1 hd).2, fun hd => hst.2 ⟨hne.1 hn, hd⟩⟩)] at h
       rw [crun_cond]; exact h
    · rw [decide_eq_false (by omega)]
      rw [dec_iff.2 (by rw [List.drop_eq_nil_of_le (by omega), List.drop_eq_nil_of_le (by omega)])] at h
      exact h
 · cases h)
noncomputable def eq32_s : CSumm := fun args H => match args, H with
 | [.psl 80 a, .psl 80 b], [] => .ite (dec (a.length ≤ 100000 ∧ b.length ≤ 100000 ∧ nrm80 a ∧ nrm80 b)) (.ret (.bool (dec (a = b))) []) .fail
 | _, _ => .fail
theorem eq32_t (a b : List SV) : bodyCL Try.prog (openT Try.prog (tbl []) 300 5) (fun _ => false) (ltab [("s", g32)]) true 300 Try.f32 (markC [(4, "s")] gb32) [.psl 80 a, .psl 80 b] [] =
 bif (a.length : Int) != (b.length : Int) then .ret (.bool false) [] else bif dec (a.length = b.length ∧ a.length ≤ 100000 ∧ (0 : Int) ≤ 0 ∧ nrm80 a ∧ nrm80 b) then (bif dec (a.drop (0 : Int).toNat = b.drop (0 : Int).toNat) then .ret (.bool true) [] else .ret (.bool false) []) else .fail := by kernel_rfl
theorem eq32_k : Known Try.prog 32 eq32_s := by
 have h0 : Known Try.prog 32 (bodyCL Try.prog (openT Try.prog (tbl []) 300 5) (fun _ => false) (ltab [("s", g32)]) true 300 Try.f32 (markC [(4, "s")] gb32)) := ⟨⟨Try.f32, Try.func32, noNum_at noNumTry Try.func32, rfl⟩, bodyL_valid (openT_ok noNumTry mixTry ok0 300 5) mixTry (ltab_cons gm32_v ltab_nil) Try.func32 (show Try.f32.body = some (fillC (ltab [("s", g32)]) (markC [(4, "s")] gb32)) by kernel_rfl)⟩
 refine h0.weak (fun args H v ups h => ?_)
 unfold eq32_s at h
 split at h
 · rename_i a b
   rw [crun_ite] at h
   cases hc : dec _ with
   | false => rw [hc] at h; cases h
   | true =>
    rw [hc, cond_true] at h
    obtain ⟨h1, h2, h3, h4⟩ := dec_iff.1 hc
    refine (congrArg crun (eq32_t a b)).trans ?_
    by_cases hl : a.length = b.length
    · rw [show ((a.length : Int) != (b.length : Int)) = false by simp; omega, cond_false, dec_iff.2 ⟨hl, h1, by omega, h3, h4⟩, cond_true]
      show crun (bif dec (a = b) then _ else _) = _
      cases hd : dec (a = b) with
      | true => rw [hd] at h; exact h
      | false => rw [hd] at h; exact h
    · rw [show ((a.length : Int) != (b.length : Int)) = true by simp; omega, cond_true]
      rw [dec_f (fun hd => hl (by rw [hd]))] at h
      exact h
 · cases h
noncomputable def gb35 : Code := Try.f35.body.getD .skip
noncomputable def gc35 : Code := (loopAt 4 gb35).getD .skip
noncomputable def gm35_s : CSumm := fun args H => match args, H with
 | [.psl 33 a, .psl 33 b, .int .i64 l, .int .i64 i], [] => .ite (dec (a.length = b.length ∧ a.length ≤ 100000 ∧ 0 ≤ i ∧ nrm33 a ∧ nrm33 b ∧ l = a.length)) (.ite (dec (a.drop i.toNat = b.drop i.toNat)) (.ret (.tup [.int .i64 2, .junk]) []) (.ret (.tup [.int .i64 1, .bool false]) [])) .fail
 | _, _ => .fail
def gM35 : List SV → HpL → Nat
 | [.psl _ a, _, _, .int _ i], _ => a.length - i.toNat
 | _, _ => 0
noncomputable def g35 : LEnt := { ins := [0, 1, 12, 13], outs := [4], keep := [], size := 26, code := gc35, s := gm35_s }
theorem gm35_t (N : Nat) (a b : List SV) (l : Int) (i : Int) : loopOnce Try.prog (openT Try.prog (tbl []) 300 5) (fun _ => false) (ltab []) true 300 g35 { g35 with s := boundT gM35 gm35_s N } gc35 [.psl 33 a, .psl 33 b, .int .i64 l, .int .i64 i] [] =
 bif decide (i < l) then bif inB i a.length then bif inB i b.length then bif ne32 (a.getD i.toNat .junk) (b.getD i.toNat .junk) then .ret (.tup [.int .i64 1, .bool false]) [] else
  (bif Nat.blt (a.length - (w64 (i + 1)).toNat) N then bif dec (a.length = b.length ∧ a.length ≤ 100000 ∧ 0 ≤ w64 (i + 1) ∧ nrm33 a ∧ nrm33 b ∧ l = a.length) then (bif dec (a.drop (w64 (i + 1)).toNat = b.drop (w64 (i + 1)).toNat) then .ret (.tup [.int .i64 2, .junk]) [] else .ret (.tup [.int .i64 1, .bool false]) []) else .fail else .fail) else .fail else .fail
 else .ret (.tup [.int .i64 2, .junk]) [] := by kernel_rfl
theorem gm35_v : ValidL Try.prog g35 := loop_valid (κ := openT Try.prog (tbl []) 300 5) (ι := fun _ => false) (T := ltab []) (sp := true) (fuel := 300) (c := gc35) (μ := gM35) (openT_ok noNumTry mixTry ok0 300 5) mixTry ltab_nil (show fillC (ltab []) gc35 = gc35 by kernel_rfl) (by
 intro N args H r hb h
 unfold g35 gm35_s at h
 simp only [] at h
 split at h
 · rename_i a b l i
   rw [crun_ite] at h
   cases hc : dec _ with
   | false => rw [hc] at h; cases h
   | true =>
    rw [hc, cond_true, crun_ite] at h
    obtain ⟨h0, h1, h2, h3, h4, h5⟩ := dec_iff.1 hc
    refine (congrArg crun (gm35_t N a b l i)).trans ?_
    by_cases hi : i < a.length
    · have hN : Nat.blt (a.length - i.toNat) (N + 1) = true := hb
      rw [Nat.blt_eq] at hN
      have la : i.toNat < a.length := by omega
      have lb : i.toNat < b.length := by omega
      rw [decide_eq_true (by omega), cond_true, show inB i a.length = true by unfold inB; simp; omega, cond_true, show inB i b.length = true by unfold inB; simp; omega, cond_true]
      have hne := ne32_ok (h3 _ (getD_mem la)) (h4 _ (getD_mem lb))
      have hst := drop_step la lb
      cases hn : ne32 (a.getD i.toNat .junk) (b.getD i.toNat .junk) with
      | true =>
       rw [dec_f (fun hd => by rw [hne.2 (hst.1 hd).1] at hn; cases hn)] at h
       exact h
      | false =>
       rw [cond_false, show w64 (i + 1) = i + 1 from w64_id (by omega) (by omega), show Nat.blt (a.length - (i + 1).toNat) N = true by rw [Nat.blt_eq]; omega, dec_iff.2 ⟨h0, h1, by omega, h3, h4, h5⟩, cond_true, cond_true, show (i + 1).toNat = i.toNat + 1 by omega]
       rw [dec_congr (show a.drop i.toNat = b.drop i.toNat ↔ a.drop (i.toNat + 1) = b.drop (i.toNat + 1) from ⟨fun hd => (hst.1 hd).2, fun hd => hst.2 ⟨hne.1 hn, hd⟩⟩)] at h
       rw [crun_cond]; exact h
    · rw [decide_eq_false (by omega)]
      rw [dec_iff.2 (by rw [List.drop_eq_nil_of_le (by omega), List.drop_eq_nil_of_le (by omega)])] at h
      exact h
 · cases h)
noncomputable def eq35_s : CSumm := fun args H => match args, H with
 | [.psl 33 a, .psl 33 b], [] => .ite (dec (a.length ≤ 100000 ∧ b.length ≤ 100000 ∧ nrm33 a ∧ nrm33 b)) (.ret (.bool (dec (a = b))) []) .fail
 | _, _ => .fail
theorem eq35_t (a b : List SV) : bodyCL Try.prog (openT Try.prog (tbl []) 300 5) (fun _ => false) (ltab [("s", g35)]) true 300 Try.f35 (markC [(4, "s")] gb35) [.psl 33 a, .psl 33 b] [] =
 bif (a.length : Int) != (b.length : Int) then .ret (.bool false) [] else bif dec (a.length = b.length ∧ a.length ≤ 100000 ∧ (0 : Int) ≤ 0 ∧ nrm33 a ∧ nrm33 b ∧ (a.length : Int) = a.length) then (bif dec (a.drop (0 : Int).toNat = b.drop (0 : Int).toNat) then .ret (.bool true) [] else .ret (.bool false) []) else .fail := by kernel_rfl
theorem eq35_k : Known Try.prog 35 eq35_s := by
 have h0 : Known Try.prog 35 (bodyCL Try.prog (openT Try.prog (tbl []) 300 5) (fun _ => false) (ltab [("s", g35)]) true 300 Try.f35 (markC [(4, "s")] gb35)) := ⟨⟨Try.f35, Try.func35, noNum_at noNumTry Try.func35, rfl⟩, bodyL_valid (openT_ok noNumTry mixTry ok0 300 5) mixTry (ltab_cons gm35_v ltab_nil) Try.func35 (show Try.f35.body = some (fillC (ltab [("s", g35)]) (markC [(4, "s")] gb35)) by kernel_rfl)⟩
 refine h0.weak (fun args H v ups h => ?_)
 unfold eq35_s at h
 split at h
 · rename_i a b
   rw [crun_ite] at h
   cases hc : dec _ with
   | false => rw [hc] at h; cases h
   | true =>
    rw [hc, cond_true] at h
    obtain ⟨h1, h2, h3, h4⟩ := dec_iff.1 hc
    refine (congrArg crun (eq35_t a b)).trans ?_
    by_cases hl : a.length = b.length
    · rw [show ((a.length : Int) != (b.length : Int)) = false by simp; omega, cond_false, dec_iff.2 ⟨hl, h1, by omega, h3, h4, rfl⟩, cond_true]
      show crun (bif dec (a = b) then _ else _) = _
      cases hd : dec (a = b) with
      | true => rw [hd] at h; exact h
      | false => rw [hd] at h; exact h
    · rw [show ((a.length : Int) != (b.length : Int)) = true by simp; omega, cond_true]
      rw [dec_f (fun hd => hl (by rw [hd]))] at h
      exact h
 · cases h
noncomputable def gb36 : Code := Try.f36.body.getD .skip
noncomputable def gc36 : Code := (loopAt 4 gb36).getD .skip
noncomputable def gm36_s : CSumm := fun args H => match args, H with
 | [.psl 35 a, .psl 35 b, .int .i64 l, .int .i64 i], [] => .ite (dec (a.length = b.length ∧ a.length ≤ 100000 ∧ 0 ≤ i ∧ nrm35 a ∧ nrm35 b ∧ l = a.length)) (.ite (dec (a.drop i.toNat = b.drop i.toNat)) (.ret (.tup [.int .i64 2, .junk]) []) (.ret (.tup [.int .i64 1, .bool false]) [])) .fail
 | _, _ => .fail
def gM36 : List SV → HpL → Nat
 | [.psl _ a, _, _, .int _ i], _ => a.length - i.toNat
 | _, _ => 0
noncomputable def g36 : LEnt := { ins := [0, 1, 12, 13], outs := [4], keep := [], size := 26, code := gc36, s := gm36_s }
theorem gm36_t (N : Nat) (a b : List SV) (l : Int) (i : Int) : loopOnce Try.prog (openT Try.prog (tbl []) 300 5) (fun _ => false) (ltab []) true 300 g36 { g36 with s := boundT gM36 gm36_s N } gc36 [.psl 35 a, .psl 35 b, .int .i64 l, .int .i64 i] [] =
 bif decide (i < l) then bif inB i a.length then bif inB i b.length then bif ne32 (a.getD i.toNat .junk) (b.getD i.toNat .junk) then .ret (.tup [.int .i64 1, .bool false]) [] else
  (bif Nat.blt (a.length - (w64 (i + 1)).toNat) N then bif dec (a.length = b.length ∧ a.length ≤ 100000 ∧ 0 ≤ w64 (i + 1) ∧ nrm35 a ∧ nrm35 b ∧ l = a.length) then (bif dec (a.drop (w64 (i + 1)).toNat = b.drop (w64 (i + 1)).toNat) then .ret (.tup [.int .i64 2, .junk]) [] else .ret (.tup [.int .i64 1, .bool false]) []) else .fail else .fail) else .fail else .fail
 else .ret (.tup [.int .i64 2, .junk]) [] := by kernel_rfl
theorem gm36_v : ValidL Try.prog g36 := loop_valid (κ := openT Try.prog (tbl []) 300 5) (ι := fun _ => false) (T := ltab []) (sp := true) (fuel := 300) (c := gc36) (μ := gM36) (openT_ok noNumTry mixTry ok0 300 5) mixTry ltab_nil (show fillC (ltab []) gc36 = gc36 by kernel_rfl) (by
 intro N args H r hb h
 unfold g36 gm36_s at h
 simp only [] at h
 split at h
 · rename_i a b l i
   rw [crun_ite] at h
   cases hc : dec _ with
   | false => rw [hc] at h; cases h
   | true =>
    rw [hc, cond_true, crun_ite] at h
    obtain ⟨h0, h1, h2, h3, h4, h5⟩ := dec_iff.1 hc
    refine (congrArg crun (gm36_t N a b l i)).trans ?_
    by_cases hi : i < a.length
    · have hN : Nat.blt (a.length - i.toNat) (N + 1) = true := hb
      rw [Nat.blt_eq] at hN
      have la : i.toNat < a.length := by omega
      have lb : i.toNat < b.length := by omega
      rw [decide_eq_true (by omega), cond_true, show inB i a.length = true by unfold inB; simp; omega, cond_true, show inB i b.length = true by unfold inB; simp; omega, cond_true]
      have hne := ne32_ok (h3 _ (getD_mem la)) (h4 _ (getD_mem lb))
      have hst := drop_step la lb
      cases hn : ne32 (a.getD i.toNat .junk) (b.getD i.toNat .junk) with
      | true =>
       rw [dec_f (fun hd => by rw [hne.2 (hst.1 hd).1] at hn; cases hn)] at h
       exact h
      | false =>
       rw [cond_false, show w64 (i + 1) = i + 1 from w64_id (by omega) (by omega), show Nat.blt (a.length - (i + 1).toNat) N = true by rw [Nat.blt_eq]; omega, dec_iff.2 ⟨h0, h1, by omega, h3, h4, h5⟩, cond_true, cond_true, show (i + 1).toNat = i.toNat + 1 by omega]
       rw [dec_congr (show a.drop i.toNat = b.drop i.toNat ↔ a.drop (i.toNat + 1) = b.drop (i.toNat + 1) from ⟨fun hd => (hst.1 hd).2, fun hd => hst.2 ⟨hne.1 hn, hd⟩⟩)] at h
       rw [crun_cond]; exact h
    · rw [decide_eq_false (by omega)]
      rw [dec_iff.2 (by rw [List.drop_eq_nil_of_le (by omega), List.drop_eq_nil_of_le (by omega)])] at h
      exact h
 · cases h)
noncomputable def eq36_s : CSumm := fun args H => match args, H with
 | [.psl 35 a, .psl 35 b], [] => .ite (dec (a.length ≤ 100000 ∧ b.length ≤ 100000 ∧ nrm35 a ∧ nrm35 b)) (.ret (.bool (dec (a = b))) []) .fail
 | _, _ => .fail
theorem eq36_t (a b : List SV) : bodyCL Try.prog (openT Try.prog (tbl []) 300 5) (fun _ => false) (ltab [("s", g36)]) true 300 Try.f36 (markC [(4, "s")] gb36) [.psl 35 a, .psl 35 b] [] =
 bif (a.length : Int) != (b.length : Int) then .ret (.bool false) [] else bif dec (a.length = b.length ∧ a.length ≤ 100000 ∧ (0 : Int) ≤ 0 ∧ nrm35 a ∧ nrm35 b ∧ (a.length : Int) = a.length) then (bif dec (a.drop (0 : Int).toNat = b.drop (0 : Int).toNat) then .ret (.bool true) [] else .ret (.bool false) []) else .fail := by kernel_rfl
theorem eq36_k : Known Try.prog 36 eq36_s := by
 have h0 : Known Try.prog 36 (bodyCL Try.prog (openT Try.prog (tbl []) 300 5) (fun _ => false) (ltab [("s", g36)]) true 300 Try.f36 (markC [(4, "s")] gb36)) := ⟨⟨Try.f36, Try.func36, noNum_at noNumTry Try.func36, rfl⟩, bodyL_valid (openT_ok noNumTry mixTry ok0 300 5) mixTry (ltab_cons gm36_v ltab_nil) Try.func36 (show Try.f36.body = some (fillC (ltab [("s", g36)]) (markC [(4, "s")] gb36)) by kernel_rfl)⟩
 refine h0.weak (fun args H v ups h => ?_)
 unfold eq36_s at h
 split at h
 · rename_i a b
   rw [crun_ite] at h
   cases hc : dec _ with
   | false => rw [hc] at h; cases h
   | true =>
    rw [hc, cond_true] at h
    obtain ⟨h1, h2, h3, h4⟩ := dec_iff.1 hc
    refine (congrArg crun (eq36_t a b)).trans ?_
    by_cases hl : a.length = b.length
    · rw [show ((a.length : Int) != (b.length : Int)) = false by simp; omega, cond_false, dec_iff.2 ⟨hl, h1, by omega, h3, h4, rfl⟩, cond_true]
      show crun (bif dec (a = b) then _ else _) = _
      cases hd : dec (a = b) with
      | true => rw [hd] at h; exact h
      | false => rw [hd] at h; exact h
    · rw [show ((a.length : Int) != (b.length : Int)) = true by simp; omega, cond_true]
      rw [dec_f (fun hd => hl (by rw [hd]))] at h
      exact h
 · cases h
noncomputable def gb37 : Code := Try.f37.body.getD .skip
noncomputable def gc37 : Code := (loopAt 4 gb37).getD .skip
noncomputable def gm37_s : CSumm := fun args H => match args, H with
 | [.psl 80 a, .psl 80 b, .int .i64 l, .int .i64 i], [] => .ite (dec (a.length = b.length ∧ a.length ≤ 100000 ∧ 0 ≤ i ∧ nrm80 a ∧ nrm80 b ∧ l = a.length)) (.ite (dec (a.drop i.toNat = b.drop i.toNat)) (.ret (.tup [.int .i64 2, .junk]) []) (.ret (.tup [.int .i64 1, .bool false]) [])) .fail
 | _, _ => .fail
def gM37 : List SV → HpL → Nat
 | [.psl _ a, _, _, .int _ i], _ => a.length - i.toNat
 | _, _ => 0
noncomputable def g37 : LEnt := { ins := [0, 1, 12, 13], outs := [4], keep := [], size := 26, code := gc37, s := gm37_s }
theorem gm37_t (N : Nat) (a b : List SV) (l : Int) (i : Int) : loopOnce Try.prog (openT Try.prog (tbl []) 300 5) (fun _ => false) (ltab []) true 300 g37 { g37 with s := boundT gM37 gm37_s N } gc37 [.psl 80 a, .psl 80 b, .int .i64 l, .int .i64 i] [] =
 bif decide (i < l) then bif inB i a.length then bif inB i b.length then bif ne8s (a.getD i.toNat .junk) (b.getD i.toNat .junk) then .ret (.tup [.int .i64 1, .bool false]) [] else
  (bif Nat.blt (a.length - (w64 (i + 1)).toNat) N then bif dec (a.length = b.length ∧ a.length ≤ 100000 ∧ 0 ≤ w64 (i + 1) ∧ nrm80 a ∧ nrm80 b ∧ l = a.length) then (bif dec (a.drop (w64 (i + 1)).toNat = b.drop (w64 (i + 1)).toNat) then .ret (.tup [.int .i64 2, .junk]) [] else .ret (.tup [.int .i64 1, .bool false]) []) else .fail else .fail) else .fail else .fail
 else .ret (.tup [.int .i64 2, .junk]) [] := by kernel_rfl
theorem gm37_v : ValidL Try.prog g37 := loop_valid (κ := openT Try.prog (tbl []) 300 5) (ι := fun _ => false) (T := ltab []) (sp := true) (fuel := 300) (c := gc37) (μ := gM37) (openT_ok noNumTry mixTry ok0 300 5) mixTry ltab_nil (show fillC (ltab []) gc37 = gc37 by kernel_rfl) (by
 intro N args H r hb h
 unfold g37 gm37_s at h
 simp only [] at h
 split at h
 · rename_i a b l i
   rw [crun_ite] at h
   cases hc : dec _ with
   | false => rw [hc] at h; cases h
   | true =>
    rw [hc, cond_true, crun_ite] at h
    obtain ⟨h0, h1, h2, h3, h4, h5⟩ := dec_iff.1 hc
    refine (congrArg crun (gm37_t N a b l i)).trans ?_
    by_cases hi : i < a.length
    · have hN : Nat.blt (a.length - i.toNat) (N + 1) = true := hb
      rw [Nat.blt_eq] at hN
      have la : i.toNat < a.length := by omega
      have lb : i.toNat < b.length := by omega
      rw [decide_eq_true (by omega), cond_true, show inB i a.length = true by unfold inB; simp; omega, cond_true, show inB i b.length = true by unfold inB; simp; omega, cond_true]
      have hne := ne8s_ok (h3 _ (getD_mem la)) (h4 _ (getD_mem lb))
      have hst := drop_step la lb
      cases hn : ne8s (a.getD i.toNat .junk) (b.getD i.toNat .junk) with
      | true =>
       rw [dec_f (fun hd => by rw [hne.2 (hst.1 hd).1] at hn; cases hn)] at h
       exact h
      | false =>
       rw [cond_false, show w64 (i + 1) = i + 1 from w64_id (by omega) (by omega), show Nat.blt (a.length - (i + 1).toNat) N = true by rw [Nat.blt_eq]; omega, dec_iff.2 ⟨h0, h1, by omega, h3, h4, h5⟩, cond_true, cond_true, show (i + 1).toNat = i.toNat + 1 by omega]
       rw [dec_congr (show a.drop i.toNat = b.drop i.toNat ↔ a.drop (i.toNat + 1) = b.drop (i.toNat + 1) from ⟨fun hd => (hst.1 hd).2, fun hd => hst.2 ⟨hne.1 hn, hd⟩⟩)] at h
       rw [crun_cond]; exact h
    · rw [decide_eq_false (by omega)]
      rw [dec_iff.2 (by rw [List.drop_eq_nil_of_le (by omega), List.drop_eq_nil_of_le (by omega)])] at h
      exact h
 · cases h)
noncomputable def eq37_s : CSumm := fun args H => match args, H with
 | [.psl 80 a, .psl 80 b], [] => .ite (dec (a.length ≤ 100000 ∧ b.length ≤ 100000 ∧ nrm80 a ∧ nrm80 b)) (.ret (.bool (dec (a = b))) []) .fail
 | _, _ => .fail
theorem eq37_t (a b : List SV) : bodyCL Try.prog (openT Try.prog (tbl []) 300 5) (fun _ => false) (ltab [("s", g37)]) true 300 Try.f37 (markC [(4, "s")] gb37) [.psl 80 a, .psl 80 b] [] =
 bif (a.length : Int) != (b.length : Int) then .ret (.bool false) [] else bif dec (a.length = b.length ∧ a.length ≤ 100000 ∧ (0 : Int) ≤ 0 ∧ nrm80 a ∧ nrm80 b ∧ (a.length : Int) = a.length) then (bif dec (a.drop (0 : Int).toNat = b.drop (0 : Int).toNat) then .ret (.bool true) [] else .ret (.bool false) []) else .fail := by kernel_rfl
theorem eq37_k : Known Try.prog 37 eq37_s := by
 have h0 : Known Try.prog 37 (bodyCL Try.prog (openT Try.prog (tbl []) 300 5) (fun _ => false) (ltab [("s", g37)]) true 300 Try.f37 (markC [(4, "s")] gb37)) := ⟨⟨Try.f37, Try.func37, noNum_at noNumTry Try.func37, rfl⟩, bodyL_valid (openT_ok noNumTry mixTry ok0 300 5) mixTry (ltab_cons gm37_v ltab_nil) Try.func37 (show Try.f37.body = some (fillC (ltab [("s", g37)]) (markC [(4, "s")] gb37)) by kernel_rfl)⟩
 refine h0.weak (fun args H v ups h => ?_)
 unfold eq37_s at h
 split at h
 · rename_i a b
   rw [crun_ite] at h
   cases hc : dec _ with
   | false => rw [hc] at h; cases h
   | true =>
    rw [hc, cond_true] at h
    obtain ⟨h1, h2, h3, h4⟩ := dec_iff.1 hc
    refine (congrArg crun (eq37_t a b)).trans ?_
    by_cases hl : a.length = b.length
    · rw [show ((a.length : Int) != (b.length : Int)) = false by simp; omega, cond_false, dec_iff.2 ⟨hl, h1, by omega, h3, h4, rfl⟩, cond_true]
      show crun (bif dec (a = b) then _ else _) = _
      cases hd : dec (a = b) with
      | true => rw [hd] at h; exact h
      | false => rw [hd] at h; exact h
    · rw [show ((a.length : Int) != (b.length : Int)) = true by simp; omega, cond_true]
      rw [dec_f (fun hd => hl (by rw [hd]))] at h
      exact h
 · cases h
end Go.Proofs.Ytkbbiaobohlogaa
