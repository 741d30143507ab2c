/- Lists are the same. -/
import Derived.Test.YtdgnhaacdpmclaaGreatPart20
import Derived.Test.YtdgnhaacdpmclaaGreatMachine7
set_option linter.unusedVariables false
set_option linter.unusedSimpArgs false
namespace Go.Proofs.YtdgnhaacdpmclaaGreat
open Go.Am
set_option maxRecDepth 100000
noncomputable def body29 : Code := Tryz.f29.body.getD .skip
noncomputable def c29 : Code := (loopAt 4 body29).getD .skip
noncomputable def sm29_s : CSumm := fun args H => match args, H with
 | [.psl 26 a, .psl 26 b, .int .i64 i], [] => .ite (dec (a = b ∧ a.length ≤ 100000 ∧ 0 ≤ i)) (.ret (.tup [.int .i64 2]) []) .fail
 | _, _ => .fail
def smM29 : List SV → HpL → Nat
 | [.psl _ a, _, .int _ i], _ => a.length - i.toNat
 | _, _ => 0
noncomputable def e29 : LEnt := { ins := [0, 1, 5], outs := [], keep := [], size := 26, code := c29, s := sm29_s }
theorem sm29_t (N : Nat) (a : List SV) (i : Int) : loopOnce Tryz.prog (openT Tryz.prog (tbl []) 300 5) (fun _ => false) (ltab []) true 300 e29 { e29 with s := boundT smM29 sm29_s N } c29 [.psl 26 a, .psl 26 a, .int .i64 i] [] =
 bif decide (i < a.length) then bif inB i a.length then bif inB i a.length then bif (asI (a.getD i.toNat .junk) != asI (a.getD i.toNat .junk)) then .ret (.tup [.int .i64 1]) [] else
  (bif Nat.blt (a.length - (w64 (i + 1)).toNat) N then bif dec (a = a ∧ a.length ≤ 100000 ∧ 0 ≤ w64 (i + 1)) then .ret (.tup [.int .i64 2]) [] else .fail else .fail) else .fail else .fail
 else .ret (.tup [.int .i64 2]) [] := by kernel_rfl
theorem sm29_v : ValidL Tryz.prog e29 := loop_valid (κ := openT Tryz.prog (tbl []) 300 5) (ι := fun _ => false) (T := ltab []) (sp := true) (fuel := 300) (c := c29) (μ := smM29) (openT_ok noNumTry mixTry ok0 300 5) mixTry ltab_nil (show fillC (ltab []) c29 = c29 by kernel_rfl) (by
 intro N args H r hb h
 unfold e29 sm29_s at h
 simp only [] at h
 split at h
 · rename_i a b i
   rw [crun_ite] at h
   cases hc : dec _ with
   | false => rw [hc] at h; cases h
   | true =>
    rw [hc, cond_true] at h
    obtain ⟨rfl, h1, h2⟩ := dec_iff.1 hc
    refine (congrArg crun (sm29_t N a i)).trans ?_
    by_cases hi : i < a.length
    · have hN : Nat.blt (a.length - i.toNat) (N + 1) = true := hb
      rw [Nat.blt_eq] at hN
      rw [decide_eq_true hi, show inB i a.length = true by unfold inB; simp; omega, show w64 (i + 1) = i + 1 from w64_id (by omega) (by omega), show Nat.blt (a.length - (i + 1).toNat) N = true by rw [Nat.blt_eq]; omega, dec_iff.2 ⟨rfl, h1, by omega⟩]
      simp only [bne_self_eq_false, cond_false, cond_true]
      exact h
    · rw [decide_eq_false hi]; exact h
 · cases h)
noncomputable def same29_s : CSumm := fun args H => match args, H with
 | [.psl 26 a, .psl 26 b], [] => .ite (dec (a = b ∧ a.length ≤ 100000)) (.ret (.bool true) []) .fail
 | _, _ => .fail
theorem same29_t (a : List SV) : bodyCL Tryz.prog (openT Tryz.prog (tbl []) 300 5) (fun _ => false) (ltab [("s", e29)]) true 300 Tryz.f29 (markC [(4, "s")] body29) [.psl 26 a, .psl 26 a] [] =
 bif (a.length : Int) != (a.length : Int) then .ret (.bool false) [] else bif dec (a = a ∧ a.length ≤ 100000 ∧ (0 : Int) ≤ 0) then .ret (.bool true) [] else .fail := by kernel_rfl
theorem same29_k : Known Tryz.prog 29 same29_s := by
 have h0 : Known Tryz.prog 29 (bodyCL Tryz.prog (openT Tryz.prog (tbl []) 300 5) (fun _ => false) (ltab [("s", e29)]) true 300 Tryz.f29 (markC [(4, "s")] body29)) := ⟨⟨Tryz.f29, Tryz.func29, noNum_at noNumTry Tryz.func29, rfl⟩, bodyL_valid (openT_ok noNumTry mixTry ok0 300 5) mixTry (ltab_cons sm29_v ltab_nil) Tryz.func29 (show Tryz.f29.body = some (fillC (ltab [("s", e29)]) (markC [(4, "s")] body29)) by kernel_rfl)⟩
 refine h0.weak (fun args H v ups h => ?_)
 unfold same29_s at h
 split at h
 · rename_i a b
   rw [crun_ite] at h
   cases hc : dec _ with
   | false => rw [hc] at h; cases h
   | true =>
    rw [hc, cond_true] at h
    obtain ⟨rfl, h1⟩ := dec_iff.1 hc
    refine (congrArg crun (same29_t a)).trans ?_
    rw [dec_iff.2 ⟨rfl, h1, by omega⟩, show ((a.length : Int) != (a.length : Int)) = false by simp]
    exact h
 · cases h
noncomputable def body30 : Code := Tryz.f30.body.getD .skip
noncomputable def c30 : Code := (loopAt 4 body30).getD .skip
noncomputable def sm30_s : CSumm := fun args H => match args, H with
 | [.psl 27 a, .psl 27 b, .int .i64 i], [] => .ite (dec (a = b ∧ a.length ≤ 100000 ∧ 0 ≤ i)) (.ret (.tup [.int .i64 2]) []) .fail
 | _, _ => .fail
def smM30 : List SV → HpL → Nat
 | [.psl _ a, _, .int _ i], _ => a.length - i.toNat
 | _, _ => 0
noncomputable def e30 : LEnt := { ins := [0, 1, 5], outs := [], keep := [], size := 26, code := c30, s := sm30_s }
theorem sm30_t (N : Nat) (a : List SV) (i : Int) : loopOnce Tryz.prog (openT Tryz.prog (tbl []) 300 5) (fun _ => false) (ltab []) true 300 e30 { e30 with s := boundT smM30 sm30_s N } c30 [.psl 27 a, .psl 27 a, .int .i64 i] [] =
 bif decide (i < a.length) then bif inB i a.length then bif inB i a.length then bif (asI (a.getD i.toNat .junk) != asI (a.getD i.toNat .junk)) then .ret (.tup [.int .i64 1]) [] else
  (bif Nat.blt (a.length - (w64 (i + 1)).toNat) N then bif dec (a = a ∧ a.length ≤ 100000 ∧ 0 ≤ w64 (i + 1)) then .ret (.tup [.int .i64 2]) [] else .fail else .fail) else .fail else .fail
 else .ret (.tup [.int .i64 2]) [] := by kernel_rfl
theorem sm30_v : ValidL Tryz.prog e30 := loop_valid (κ := openT Tryz.prog (tbl []) 300 5) (ι := fun _ => false) (T := ltab []) (sp := true) (fuel := 300) (c := c30) (μ := smM30) (openT_ok noNumTry mixTry ok0 300 5) mixTry ltab_nil (show fillC (ltab []) c30 = c30 by kernel_rfl) (by
 intro N args H r hb h
 unfold e30 sm30_s at h
 simp only [] at h
 split at h
 · rename_i a b i
   rw [crun_ite] at h
   cases hc : dec _ with
   | false => rw [hc] at h; cases h
   | true =>
    rw [hc, cond_true] at h
    obtain ⟨rfl, h1, h2⟩ := dec_iff.1 hc
    refine (congrArg crun (sm30_t N a i)).trans ?_
    by_cases hi : i < a.length
    · have hN : Nat.blt (a.length - i.toNat) (N + 1) = true := hb
      rw [Nat.blt_eq] at hN
      rw [decide_eq_true hi, show inB i a.length = true by unfold inB; simp; omega, show w64 (i + 1) = i + 1 from w64_id (by omega) (by omega), show Nat.blt (a.length - (i + 1).toNat) N = true by rw [Nat.blt_eq]; omega, dec_iff.2 ⟨rfl, h1, by omega⟩]
      simp only [bne_self_eq_false, cond_false, cond_true]
      exact h
    · rw [decide_eq_false hi]; exact h
 · cases h)
noncomputable def same30_s : CSumm := fun args H => match args, H with
 | [.psl 27 a, .psl 27 b], [] => .ite (dec (a = b ∧ a.length ≤ 100000)) (.ret (.bool true) []) .fail
 | _, _ => .fail
theorem same30_t (a : List SV) : bodyCL Tryz.prog (openT Tryz.prog (tbl []) 300 5) (fun _ => false) (ltab [("s", e30)]) true 300 Tryz.f30 (markC [(4, "s")] body30) [.psl 27 a, .psl 27 a] [] =
 bif (a.length : Int) != (a.length : Int) then .ret (.bool false) [] else bif dec (a = a ∧ a.length ≤ 100000 ∧ (0 : Int) ≤ 0) then .ret (.bool true) [] else .fail := by kernel_rfl
theorem same30_k : Known Tryz.prog 30 same30_s := by
 have h0 : Known Tryz.prog 30 (bodyCL Tryz.prog (openT Tryz.prog (tbl []) 300 5) (fun _ => false) (ltab [("s", e30)]) true 300 Tryz.f30 (markC [(4, "s")] body30)) := ⟨⟨Tryz.f30, Tryz.func30, noNum_at noNumTry Tryz.func30, rfl⟩, bodyL_valid (openT_ok noNumTry mixTry ok0 300 5) mixTry (ltab_cons sm30_v ltab_nil) Tryz.func30 (show Tryz.f30.body = some (fillC (ltab [("s", e30)]) (markC [(4, "s")] body30)) by kernel_rfl)⟩
 refine h0.weak (fun args H v ups h => ?_)
 unfold same30_s at h
 split at h
 · rename_i a b
   rw [crun_ite] at h
   cases hc : dec _ with
   | false => rw [hc] at h; cases h
   | true =>
    rw [hc, cond_true] at h
    obtain ⟨rfl, h1⟩ := dec_iff.1 hc
    refine (congrArg crun (same30_t a)).trans ?_
    rw [dec_iff.2 ⟨rfl, h1, by omega⟩, show ((a.length : Int) != (a.length : Int)) = false by simp]
    exact h
 · cases h
noncomputable def body31 : Code := Tryz.f31.body.getD .skip
noncomputable def c31 : Code := (loopAt 4 body31).getD .skip
noncomputable def sm31_s : CSumm := fun args H => match args, H with
 | [.psl 91 a, .psl 91 b, .int .i64 i], [] => .ite (dec (a = b ∧ a.length ≤ 100000 ∧ 0 ≤ i)) (.ret (.tup [.int .i64 2]) []) .fail
 | _, _ => .fail
def smM31 : List SV → HpL → Nat
 | [.psl _ a, _, .int _ i], _ => a.length - i.toNat
 | _, _ => 0
noncomputable def e31 : LEnt := { ins := [0, 1, 5], outs := [], keep := [], size := 26, code := c31, s := sm31_s }
theorem sm31_t (N : Nat) (a : List SV) (i : Int) : loopOnce Tryz.prog (openT Tryz.prog (tbl []) 300 5) (fun _ => false) (ltab []) true 300 e31 { e31 with s := boundT smM31 sm31_s N } c31 [.psl 91 a, .psl 91 a, .int .i64 i] [] =
 bif decide (i < a.length) then bif inB i a.length then bif inB i a.length then bif !((asI (cellAt (a.getD i.toNat .junk) 0) == asI (cellAt (a.getD i.toNat .junk) 0)) && ((asI (cellAt (a.getD i.toNat .junk) 1) == asI (cellAt (a.getD i.toNat .junk) 1)) && ((asI (cellAt (a.getD i.toNat .junk) 2) == asI (cellAt (a.getD i.toNat .junk) 2)) && ((asI (cellAt (a.getD i.toNat .junk) 3) == asI (cellAt (a.getD i.toNat .junk) 3)) && ((asI (cellAt (a.getD i.toNat .junk) 4) == asI (cellAt (a.getD i.toNat .junk) 4)) && ((asI (cellAt (a.getD i.toNat .junk) 5) == asI (cellAt (a.getD i.toNat .junk) 5)) && ((asI (cellAt (a.getD i.toNat .junk) 6) == asI (cellAt (a.getD i.toNat .junk) 6)) && (asI (cellAt (a.getD i.toNat .junk) 7) == asI (cellAt (a.getD i.toNat .junk) 7))))))))) then .ret (.tup [.int .i64 1]) [] else
  (bif Nat.blt (a.length - (w64 (i + 1)).toNat) N then bif dec (a = a ∧ a.length ≤ 100000 ∧ 0 ≤ w64 (i + 1)) then .ret (.tup [.int .i64 2]) [] else .fail else .fail) else .fail else .fail
 else .ret (.tup [.int .i64 2]) [] := by kernel_rfl
theorem sm31_v : ValidL Tryz.prog e31 := loop_valid (κ := openT Tryz.prog (tbl []) 300 5) (ι := fun _ => false) (T := ltab []) (sp := true) (fuel := 300) (c := c31) (μ := smM31) (openT_ok noNumTry mixTry ok0 300 5) mixTry ltab_nil (show fillC (ltab []) c31 = c31 by kernel_rfl) (by
 intro N args H r hb h
 unfold e31 sm31_s at h
 simp only [] at h
 split at h
 · rename_i a b i
   rw [crun_ite] at h
   cases hc : dec _ with
   | false => rw [hc] at h; cases h
   | true =>
    rw [hc, cond_true] at h
    obtain ⟨rfl, h1, h2⟩ := dec_iff.1 hc
    refine (congrArg crun (sm31_t N a i)).trans ?_
    by_cases hi : i < a.length
    · have hN : Nat.blt (a.length - i.toNat) (N + 1) = true := hb
      rw [Nat.blt_eq] at hN
      rw [decide_eq_true hi, show inB i a.length = true by unfold inB; simp; omega, show w64 (i + 1) = i + 1 from w64_id (by omega) (by omega), show Nat.blt (a.length - (i + 1).toNat) N = true by rw [Nat.blt_eq]; omega, dec_iff.2 ⟨rfl, h1, by omega⟩]
      simp only [beq_self_eq_true, Bool.and_self, Bool.not_true, cond_false, cond_true]
      exact h
    · rw [decide_eq_false hi]; exact h
 · cases h)
noncomputable def same31_s : CSumm := fun args H => match args, H with
 | [.psl 91 a, .psl 91 b], [] => .ite (dec (a = b ∧ a.length ≤ 100000)) (.ret (.bool true) []) .fail
 | _, _ => .fail
theorem same31_t (a : List SV) : bodyCL Tryz.prog (openT Tryz.prog (tbl []) 300 5) (fun _ => false) (ltab [("s", e31)]) true 300 Tryz.f31 (markC [(4, "s")] body31) [.psl 91 a, .psl 91 a] [] =
 bif (a.length : Int) != (a.length : Int) then .ret (.bool false) [] else bif dec (a = a ∧ a.length ≤ 100000 ∧ (0 : Int) ≤ 0) then .ret (.bool true) [] else .fail := by kernel_rfl
theorem same31_k : Known Tryz.prog 31 same31_s := by
 have h0 : Known Tryz.prog 31 (bodyCL Tryz.prog (openT Tryz.prog (tbl []) 300 5) (fun _ => false) (ltab [("s", e31)]) true 300 Tryz.f31 (markC [(4, "s")] body31)) := ⟨⟨Tryz.f31, Tryz.func31, noNum_at noNumTry Tryz.func31, rfl⟩, bodyL_valid (openT_ok noNumTry mixTry ok0 300 5) mixTry (ltab_cons sm31_v ltab_nil) Tryz.func31 (show Tryz.f31.body = some (fillC (ltab [("s", e31)]) (markC [(4, "s")] body31)) by kernel_rfl)⟩
 refine h0.weak (fun args H v ups h => ?_)
 unfold same31_s at h
 split at h
 · rename_i a b
   rw [crun_ite] at h
   cases hc : dec _ with
   | false => rw [hc] at h; cases h
   | true =>
    rw [hc, cond_true] at h
    obtain ⟨rfl, h1⟩ := dec_iff.1 hc
    refine (congrArg crun (same31_t a)).trans ?_
    rw [dec_iff.2 ⟨rfl, h1, by omega⟩, show ((a.length : Int) != (a.length : Int)) = false by simp]
    exact h
 · cases h
noncomputable def body12 : Code := Tryz.f12.body.getD .skip
noncomputable def c12 : Code := (loopAt 4 body12).getD .skip
noncomputable def sm12_s : CSumm := fun args H => match args, H with
 | [.psl 49 a, .psl 49 b, .int .i64 i], [] => .ite (dec (a = b ∧ a.length ≤ 100000 ∧ 0 ≤ i)) (.ret (.tup [.int .i64 2]) []) .fail
 | _, _ => .fail
def smM12 : List SV → HpL → Nat
 | [.psl _ a, _, .int _ i], _ => a.length - i.toNat
 | _, _ => 0
noncomputable def e12 : LEnt := { ins := [0, 1, 5], outs := [], keep := [], size := 26, code := c12, s := sm12_s }
theorem sm12_t (N : Nat) (a : List SV) (i : Int) : loopOnce Tryz.prog (openT Tryz.prog (tbl []) 300 5) (fun _ => false) (ltab []) true 300 e12 { e12 with s := boundT smM12 sm12_s N } c12 [.psl 49 a, .psl 49 a, .int .i64 i] [] =
 bif decide (i < a.length) then bif inB i a.length then bif inB i a.length then bif !((asI (cellAt (a.getD i.toNat .junk) 0) == asI (cellAt (a.getD i.toNat .junk) 0)) && ((asI (cellAt (a.getD i.toNat .junk) 1) == asI (cellAt (a.getD i.toNat .junk) 1)) && ((asI (cellAt (a.getD i.toNat .junk) 2) == asI (cellAt (a.getD i.toNat .junk) 2)) && ((asI (cellAt (a.getD i.toNat .junk) 3) == asI (cellAt (a.getD i.toNat .junk) 3)) && ((asI (cellAt (a.getD i.toNat .junk) 4) == asI (cellAt (a.getD i.toNat .junk) 4)) && ((asI (cellAt (a.getD i.toNat .junk) 5) == asI (cellAt (a.getD i.toNat .junk) 5)) && ((asI (cellAt (a.getD i.toNat .junk) 6) == asI (cellAt (a.getD i.toNat .junk) 6)) && ((asI (cellAt (a.getD i.toNat .junk) 7) == asI (cellAt (a.getD i.toNat .junk) 7)) && ((asI (cellAt (a.getD i.toNat .junk) 8) == asI (cellAt (a.getD i.toNat .junk) 8)) && ((asI (cellAt (a.getD i.toNat .junk) 9) == asI (cellAt (a.getD i.toNat .junk) 9)) && ((asI (cellAt (a.getD i.toNat .junk) 10) == asI (cellAt (a.getD i.toNat .junk) 10)) && ((asI (cellAt (a.getD i.toNat .junk) 11) == asI (cellAt (a.getD i.toNat .junk) 11)) && ((asI (cellAt (a.getD i.toNat .junk) 12) == asI (cellAt (a.getD i.toNat .junk) 12)) && ((asI (cellAt (a.getD i.toNat .junk) 13) == asI (cellAt (a.getD i.toNat .junk) 13)) && ((asI (cellAt (a.getD i.toNat .junk) 14) == asI (cellAt (a.getD i.toNat .junk) 14)) && ((asB (cellAt (a.getD i.toNat .junk) 15) == asB (cellAt (a.getD i.toNat .junk) 15)) && ((asI (cellAt (a.getD i.toNat .junk) 16) == asI (cellAt (a.getD i.toNat .junk) 16)) && ((asI (cellAt (a.getD i.toNat .junk) 17) == asI (cellAt (a.getD i.toNat .junk) 17)) && ((asI (cellAt (a.getD i.toNat .junk) 18) == asI (cellAt (a.getD i.toNat .junk) 18)) && ((asI (cellAt (a.getD i.toNat .junk) 19) == asI (cellAt (a.getD i.toNat .junk) 19)) && (asI (cellAt (a.getD i.toNat .junk) 20) == asI (cellAt (a.getD i.toNat .junk) 20)))))))))))))))))))))) then .ret (.tup [.int .i64 1]) [] else
  (bif Nat.blt (a.length - (w64 (i + 1)).toNat) N then bif dec (a = a ∧ a.length ≤ 100000 ∧ 0 ≤ w64 (i + 1)) then .ret (.tup [.int .i64 2]) [] else .fail else .fail) else .fail else .fail
 else .ret (.tup [.int .i64 2]) [] := by kernel_rfl
theorem sm12_v : ValidL Tryz.prog e12 := loop_valid (κ := openT Tryz.prog (tbl []) 300 5) (ι := fun _ => false) (T := ltab []) (sp := true) (fuel := 300) (c := c12) (μ := smM12) (openT_ok noNumTry mixTry ok0 300 5) mixTry ltab_nil (show fillC (ltab []) c12 = c12 by kernel_rfl) (by
 intro N args H r hb h
 unfold e12 sm12_s at h
 simp only [] at h
 split at h
 · rename_i a b i
   rw [crun_ite] at h
   cases hc : dec _ with
   | false => rw [hc] at h; cases h
   | true =>
    rw [hc, cond_true] at h
    obtain ⟨rfl, h1, h2⟩ := dec_iff.1 hc
    refine (congrArg crun (sm12_t N a i)).trans ?_
    by_cases hi : i < a.length
    · have hN : Nat.blt (a.length - i.toNat) (N + 1) = true := hb
      rw [Nat.blt_eq] at hN
      rw [decide_eq_true hi, show inB i a.length = true by unfold inB; simp; omega, show w64 (i + 1) = i + 1 from w64_id (by omega) (by omega), show Nat.blt (a.length - (i + 1).toNat) N = true by rw [Nat.blt_eq]; omega, dec_iff.2 ⟨rfl, h1, by omega⟩]
      simp only [beq_self_eq_true, Bool.and_self, Bool.not_true, cond_false, cond_true]
      exact h
    · rw [decide_eq_false hi]; exact h
 · cases h)
noncomputable def same12_s : CSumm := fun args H => match args, H with
 | [.psl 49 a, .psl 49 b], [] => .ite (dec (a = b ∧ a.length ≤ 100000)) (.ret (.bool true) []) .fail
 | _, _ => .fail
theorem same12_t (a : List SV) : bodyCL Tryz.prog (openT Tryz.prog (tbl []) 300 5) (fun _ => false) (ltab [("s", e12)]) true 300 Tryz.f12 (markC [(4, "s")] body12) [.psl 49 a, .psl 49 a] [] =
 bif (a.length : Int) != (a.length : Int) then .ret (.bool false) [] else bif dec (a = a ∧ a.length ≤ 100000 ∧ (0 : Int) ≤ 0) then .ret (.bool true) [] else .fail := by kernel_rfl
theorem same12_k : Known Tryz.prog 12 same12_s := by
 have h0 : Known Tryz.prog 12 (bodyCL Tryz.prog (openT Tryz.prog (tbl []) 300 5) (fun _ => false) (ltab [("s", e12)]) true 300 Tryz.f12 (markC [(4, "s")] body12)) := ⟨⟨Tryz.f12, Tryz.func12, noNum_at noNumTry Tryz.func12, rfl⟩, bodyL_valid (openT_ok noNumTry mixTry ok0 300 5) mixTry (ltab_cons sm12_v ltab_nil) Tryz.func12 (show Tryz.f12.body = some (fillC (ltab [("s", e12)]) (markC [(4, "s")] body12)) by kernel_rfl)⟩
 refine h0.weak (fun args H v ups h => ?_)
 unfold same12_s at h
 split at h
 · rename_i a b
   rw [crun_ite] at h
   cases hc : dec _ with
   | false => rw [hc] at h; cases h
   | true =>
    rw [hc, cond_true] at h
    obtain ⟨rfl, h1⟩ := dec_iff.1 hc
    refine (congrArg crun (same12_t a)).trans ?_
    rw [dec_iff.2 ⟨rfl, h1, by omega⟩, show ((a.length : Int) != (a.length : Int)) = false by simp]
    exact h
 · cases h
end Go.Proofs.YtdgnhaacdpmclaaGreat
/- AttrRead: what the law calls. -/
namespace Go.Proofs.YtdgnhaacdpmclaaGreat
open Go.Am
set_option maxRecDepth 100000
def lives_s : CSumm := fun args H => match args, H with
 | [], [] => .ret (.bool true) []
 | _, _ => .fail
theorem lives_t : bodyC Tryz.prog (openT Tryz.prog (tbl []) 300 8) (fun g => inl (tbl []) g && hasBody Tryz.prog g) true 300 Tryz.f7 [] [] = .ret (.bool true) [] := by kernel_rfl
theorem lives_k : Known Tryz.prog 7 lives_s := known_of_bodyC noNumTry mixTry (openT_ok noNumTry mixTry ok0 300 8) Tryz.func7 rfl (by
 intro args H v ups h
 unfold lives_s at h
 split at h
 · rw [lives_t]; exact h
 · cases h)
end Go.Proofs.YtdgnhaacdpmclaaGreat
/- AttrRead: attributes are the same; bytes are copied, and written over. -/
namespace Go.Proofs.YtdgnhaacdpmclaaGreat
open Go.Am
set_option maxRecDepth 100000
noncomputable abbrev κs := tbl [(29, same29_s), (30, same30_s), (31, same31_s)]
theorem sOk : KOk Tryz.prog κs := tbl_cons same29_k (tbl_cons same30_k (tbl_cons same31_k ok0))
noncomputable def smC (a : List SV) (K : CTree) : CTree := bif dec (a = a ∧ a.length ≤ 100000) then K else .fail
def zsF : CTree := .ret (.bool false) []
theorem sat_t (d : Ds) : opn κs Tryz.f11 [aD d, aD d] [] =
 bif d.ori == d.ori then smC d.path (bif d.nx == d.nx then bif d.hm == d.hm then bif d.med == d.med then bif d.hp == d.hp then bif d.prf == d.prf then bif d.ho == d.ho then bif d.orr == d.orr then
  smC d.cl (smC d.cm (.ret (.bool (d.tk == d.tk && (d.tl == d.tl && (d.tr == d.tr && d.tg == d.tg)))) [])) else zsF else zsF else zsF else zsF else zsF else zsF else zsF) else zsF := by kernel_rfl
def aP : SV → Option Ds
 | .agg [.int .i64 ori, .psl 26 p, .int .u32 nx, .bool hm, .int .u32 med, .bool hp, .int .u32 prf, .bool ho, .int .u32 orr, .psl 27 c, .psl 91 m, .int .i64 tk, .int .u32 tl, .int .u32 tr, .int .u32 tg] => some ⟨ori, nx, med, prf, orr, tk, tl, tr, tg, hm, hp, ho, p, c, m, [], []⟩
 | _ => none
noncomputable def sameA_s : CSumm := fun args H => match args, H with
 | [x, y], [] => match aP x with
  | some d => .ite (dec (x = aD d ∧ y = aD d ∧ d.path.length ≤ 100000 ∧ d.cl.length ≤ 100000 ∧ d.cm.length ≤ 100000)) (.ret (.bool true) []) .fail
  | none => .fail
 | _, _ => .fail
theorem sameA_k : Known Tryz.prog 11 sameA_s := (openKnown sOk Tryz.func11 rfl).weak (by
 intro args H v ups h
 unfold sameA_s at h
 split at h
 · rename_i x y
   split at h
   · rename_i d hd
     rw [crun_ite] at h
     cases hc : dec _ with
     | false => rw [hc] at h; cases h
     | true =>
      rw [hc, cond_true] at h
      obtain ⟨rfl, rfl, h1, h2, h3⟩ := dec_iff.1 hc
      refine (congrArg crun (sat_t d)).trans ?_
      unfold smC
      rw [dec_iff.2 ⟨rfl, h1⟩, dec_iff.2 ⟨rfl, h2⟩, dec_iff.2 ⟨rfl, h3⟩]
      simp only [beq_self_eq_true, Bool.and_self, cond_true]
      exact h
   · cases h
 · cases h)
noncomputable def own_s : CSumm := fun args H => match args, H with
 | [.psl 5 b], [] => .ite (dec (b.length ≤ 100000)) (.ret (.qs 0 1 0 b.length) [(0, some (.seq 5 b))]) .fail
 | _, _ => .fail
theorem own_t (b : List SV) : opn (tbl []) Tryz.f8 [.psl 5 b] [] = bif decide (([] : List SV).length + b.length ≤ 9223372036854775807) && decide ((([] : List SV).length + b.length) * Tryz.prog.types[5].bytes ≤ 140737488355328) then .ret (.qs 0 1 0 (([] : List SV).length + b.length)) [(0, some (.seq 5 ([] ++ b)))] else .fail := by kernel_rfl
theorem own_k : Known Tryz.prog 8 own_s := (openKnown ok0 Tryz.func8 rfl).weak (by
 intro args H v ups h
 unfold own_s at h
 split at h
 · rename_i b
   rw [crun_ite] at h
   cases hc : dec _ with
   | false => rw [hc] at h; cases h
   | true =>
    rw [hc, cond_true] at h
    have hl := dec_iff.1 hc
    refine (congrArg crun (own_t b)).trans ?_
    rw [types5, List.length_nil, Nat.zero_add, decide_eq_true (by omega), decide_eq_true (by omega)]
    exact h
 · cases h)
/- The bytes are written over. -/
noncomputable def body3 : Code := Tryz.f3.body.getD .skip
noncomputable def c3 : Code := (loopAt 8 body3).getD .skip
noncomputable def w_s : CSumm := fun args H => match args, H with
 | [.qs 0 1 0 n, .int .i64 i], [(0, .seq 5 es)] => .ite (dec (n = es.length ∧ n ≤ 100000 ∧ 0 ≤ i)) (.ret (.tup [.int .i64 2]) [(0, none)]) .fail
 | _, _ => .fail
noncomputable def e3 : LEnt := { ins := [3, 8], outs := [], keep := [0, 4, 5, 6, 7], size := 61, code := c3, s := w_s }
end Go.Proofs.YtdgnhaacdpmclaaGreat
/- AttrBack: the law's trees. -/
namespace Go.Proofs.YtdgnhaacdpmclaaGreat
open Go.Am
set_option maxRecDepth 100000
noncomputable def bytesN_s : CSumm := fun args H => match args, H with
 | [x, .psl 49 r, .psl 49 u], [] => match atOf x with
  | some a => .ite (dec (Fit a r u ∧ chkAll a r u ≠ 0)) (.ret (.tup [.nils, .int .i64 (chkAll a r u)]) []) .fail
  | none => .fail
 | _, _ => .fail
noncomputable def bytesZ_s : CSumm := fun args H => match args, H with
 | [x, .psl 49 r, .psl 49 u], [] => match atOf x with
  | some a => .ite (dec (Fit a r u ∧ chkAll a r u = 0)) (.ret (.tup [.qs 0 1 0 (allB a (nbs r) (nbs u)).length, .int .i64 0]) [(0, some (.seq 5 (allB a (nbs r) (nbs u))))]) .fail
  | none => .fail
 | _, _ => .fail
theorem bytesN_k : Known Tryz.prog 14 bytesN_s := bytes_k6.weak (by
 intro args H v ups h
 unfold bytesN_s at h
 split at h
 · rename_i x r u
   split at h
   · rename_i a ha
     rw [crun_ite] at h
     cases hc : dec _ with
     | false => rw [hc] at h; cases h
     | true =>
      rw [hc] at h
      obtain ⟨hf, h0⟩ := dec_iff.1 hc
      unfold bytesG_s
      simp only [ha]
      rw [crun_ite, dec_iff.2 hf, cond_true, crun_ite, show (chkAll a r u != 0) = true by simpa using h0]
      exact h
   · cases h
 · cases h)
theorem bytesZ_k : Known Tryz.prog 14 bytesZ_s := bytes_k6.weak (by
 intro args H v ups h
 unfold bytesZ_s at h
 split at h
 · rename_i x r u
   split at h
   · rename_i a ha
     rw [crun_ite] at h
     cases hc : dec _ with
     | false => rw [hc] at h; cases h
     | true =>
      rw [hc] at h
      obtain ⟨hf, h0⟩ := dec_iff.1 hc
      unfold bytesG_s
      simp only [ha]
      rw [crun_ite, dec_iff.2 hf, cond_true, crun_ite, show (chkAll a r u != 0) = false by simpa using h0]
      exact h
   · cases h
 · cases h)
def lightB (a : At) (r u : List SV) : Bool := bif bif bif bif decide ((a.path.length : Int) ≤ 70) then decide ((a.cl.length : Int) ≤ 70) else false then decide ((a.cm.length : Int) ≤ 70) else false then decide ((r.length : Int) ≤ 20) else false then decide ((u.length : Int) ≤ 20) else false
def atD (d : Ds) : At := ⟨d.ori, d.path, d.nx, d.hm, d.med, d.hp, d.prf, d.ho, d.orr, d.cl, d.cm, d.tk, d.tl, d.tr, d.tg⟩
def dA (a : At) : Ds := finD a [] []
end Go.Proofs.YtdgnhaacdpmclaaGreat
/- split: the attributes of encoded bytes. -/
namespace Go.Proofs.YtdgnhaacdpmclaaGreat
open Go.Am
set_option maxRecDepth 100000
noncomputable def splG (es : List SV) (a : Nat) : Bool := by
 classical
 exact if a + 3 < es.length then if vE es a ≤ es.length then splG es (vE es a) else false else true
termination_by es.length - a
decreasing_by (have := hdN_ge (es := es) (a := a); unfold vE; omega)
noncomputable def splL (es : List SV) (a : Nat) : List SV := by
 classical
 exact if a + 3 < es.length then if vE es a ≤ es.length then .psl 5 (vl es a (vE es a)) :: splL es (vE es a) else [] else []
termination_by es.length - a
decreasing_by (have := hdN_ge (es := es) (a := a); unfold vE; omega)
noncomputable def body15 : Code := Tryz.f15.body.getD .skip
noncomputable def c15 : Code := (loopAt 3 body15).getD .skip
def spH (ps : List SV) : HpL := [(0, .seq 22 ps)]
def spOk (b : List SV) (m : Nat) (ps : List SV) (a : Int) : Prop := splG b a.toNat = true ∧ byl b ∧ b.length ≤ 100000 ∧ m = ps.length ∧ 0 ≤ a ∧ a ≤ b.length ∧ ps.length + (b.length - a.toNat) ≤ 200000
noncomputable def sp_s : CSumm := fun args H => match args, H with
 | [.psl 5 b, .nils, .int .i64 a], [] => .ite (dec (spOk b 0 [] a ∧ a.toNat + 3 < b.length)) (.ret (.tup [.int .i64 2, .junk, .qs 0 1 0 (splL b a.toNat).length]) [(0, some (.seq 22 (splL b a.toNat)))]) .fail
 | [.psl 5 b, .qs 0 1 0 m, .int .i64 a], [(0, .seq 22 ps)] => .ite (dec (spOk b m ps a))
   (.ret (.tup [.int .i64 2, .junk, .qs 1 1 0 (ps ++ splL b a.toNat).length]) [(0, none), (1, some (.seq 22 (ps ++ splL b a.toNat)))]) .fail
 | _, _ => .fail
def spM : List SV → HpL → Nat
 | [.psl _ b, _, .int _ a], _ => b.length - a.toNat
 | _, _ => 0
noncomputable def e15 : LEnt := { ins := [0, 3, 4], outs := [2, 3], keep := [], size := 57, code := c15, s := sp_s }
end Go.Proofs.YtdgnhaacdpmclaaGreat
