/- What is advertised: the program. -/
import Derived.Test.YtkbbiaobohlogaaMachine7
import Derived.KernelRfl
import Derived.Test.YtkbbiaobohlogaaRows
import Derived.Test.YtkbbiaobohlogaaMachine8
set_option linter.unusedVariables false
set_option linter.unusedSimpArgs false
namespace Go.Proofs.Ytkbbiaobohlogaa
open Go.Am
set_option maxRecDepth 100000
theorem noNumTry : noNum Try.prog := by unfold noNum; kernel_rfl
theorem mixTry : Try.prog.follows .mixedOrders = true := by kernel_rfl
theorem ok0 : KOk Try.prog (tbl []) := tbl_nil
noncomputable abbrev opn (T : Nat → Option CSumm) (fn : Func) : CSumm := bodyC Try.prog (openT Try.prog T 300 5) (fun g => inl T g && hasBody Try.prog g) true 300 fn
theorem openKnown {T : Nat → Option CSumm} (hT : KOk Try.prog T) {f : Nat} {fn : Func} (hf : Try.prog.funcs[f]? = some fn) (hb : fn.body.isNone = false) : Known Try.prog f (opn T fn) :=
 known_of_bodyC noNumTry mixTry (openT_ok noNumTry mixTry hT 300 5) hf hb (fun _ _ _ _ h => h)
theorem crun_ite (b : Bool) (x y : CTree) : crun (.ite b x y) = bif b then crun x else crun y := by cases b <;> rfl
theorem crun_cond (b : Bool) (x y : CTree) : crun (bif b then x else y) = bif b then crun x else crun y := by cases b <;> rfl
theorem w64_id {n : Int} (h1 : -9223372036854775808 ≤ n) (h2 : n ≤ 9223372036854775807) : IntKind.i64.wrap n = n := by
 simp [IntKind.wrap, IntKind.bits, IntKind.signed]; omega
noncomputable def dec (p : Prop) : Bool := (Classical.propDecidable p).decide
theorem dec_iff {p : Prop} : dec p = true ↔ p := by unfold dec; exact @decide_eq_true_iff _ (Classical.propDecidable _)
abbrev w64 (n : Int) : Int := IntKind.i64.wrap n
end Go.Proofs.Ytkbbiaobohlogaa
/- Copies of lists. -/
namespace Go.Proofs.Ytkbbiaobohlogaa
open Go.Am
set_option maxRecDepth 100000
theorem bytes33 : Try.prog.types[33].bytes = 4 := by kernel_rfl
theorem bytes35 : Try.prog.types[35].bytes = 4 := by kernel_rfl
theorem bytes80 : Try.prog.types[80].bytes = 8 := by kernel_rfl
theorem grow_run {b n : Nat} {es : List SV} {v : SV} {u : List (Nat × Option Chunk)} {t : CTree} (h : bndE b es = true) (ht : t = bif decide (0 + es.length ≤ 9223372036854775807) && decide ((0 + es.length) * n ≤ 140737488355328) then .ret v u else .fail) (hb : n = b) : crun t = some (v, u) := by
 subst hb
 rw [ht]
 unfold bndE at h
 rw [Nat.zero_add, h]
 rfl
noncomputable abbrev b0 (fn : Func) : CSumm := bodyS Try.prog (tbl []) fn
theorem valid0 {f : FuncId} {fn : Func} (hf : Try.prog.funcs[f]? = some fn) : ValidC Try.prog f (b0 fn) := body_valid ok0 mixTry hf
theorem cl41_k : Known Try.prog 41 (cloneS 33 4) := known_clone (sz := 1) noNumTry mixTry Try.func41 rfl (valid0 Try.func41) (by
 have h : b0 Try.f41 [.nils] [] = .ret .nils [] := by kernel_rfl
 rw [h]; rfl) (fun es h => grow_run h (by kernel_rfl) bytes33)
theorem cl42_k : Known Try.prog 42 (cloneS 35 4) := known_clone (sz := 1) noNumTry mixTry Try.func42 rfl (valid0 Try.func42) (by
 have h : b0 Try.f42 [.nils] [] = .ret .nils [] := by kernel_rfl
 rw [h]; rfl) (fun es h => grow_run h (by kernel_rfl) bytes35)
theorem cl43_k : Known Try.prog 43 (cloneS 80 8) := known_clone (sz := 8) noNumTry mixTry Try.func43 rfl (valid0 Try.func43) (by
 have h : b0 Try.f43 [.nils] [] = .ret .nils [] := by kernel_rfl
 rw [h]; rfl) (fun es h => grow_run h (by kernel_rfl) bytes80)
theorem ow46_k : Known Try.prog 46 (cloneS 33 4) := known_own (sz := 1) noNumTry mixTry Try.func46 rfl (valid0 Try.func46) (fun es h => grow_run h (by kernel_rfl) bytes33)
theorem ow47_k : Known Try.prog 47 (cloneS 35 4) := known_own (sz := 1) noNumTry mixTry Try.func47 rfl (valid0 Try.func47) (fun es h => grow_run h (by kernel_rfl) bytes35)
theorem ow48_k : Known Try.prog 48 (cloneS 80 8) := known_own (sz := 8) noNumTry mixTry Try.func48 rfl (valid0 Try.func48) (fun es h => grow_run h (by kernel_rfl) bytes80)
end Go.Proofs.Ytkbbiaobohlogaa
/- Lists are the same. -/
namespace Go.Proofs.Ytkbbiaobohlogaa
open Go.Am
set_option maxRecDepth 100000
noncomputable def body30 : Code := Try.f30.body.getD .skip
noncomputable def c30 : Code := (loopAt 4 body30).getD .skip
noncomputable def sm30_s : CSumm := fun args H => match args, H with
 | [.psl 33 a, .psl 33 b, .int .i64 i], [] => .ite (dec (a = b ∧ a.length ≤ 100000 ∧ 0 ≤ i)) (.ret (.tup [.int .i64 2]) []) .fail
 | _, _ => .fail
def smM30 : List SV → HpL → Nat
 | [.psl _ a, _, .int _ i], _ => a.length - i.toNat
 | _, _ => 0
noncomputable def e30 : LEnt := { ins := [0, 1, 5], outs := [], keep := [], size := 26, code := c30, s := sm30_s }
theorem sm30_t (N : Nat) (a : List SV) (i : Int) : loopOnce Try.prog (openT Try.prog (tbl []) 300 5) (fun _ => false) (ltab []) true 300 e30 { e30 with s := boundT smM30 sm30_s N } c30 [.psl 33 a, .psl 33 a, .int .i64 i] [] =
 bif decide (i < a.length) then bif inB i a.length then bif inB i a.length then bif (asI (a.getD i.toNat .junk) != asI (a.getD i.toNat .junk)) then .ret (.tup [.int .i64 1]) [] else
  (bif Nat.blt (a.length - (w64 (i + 1)).toNat) N then bif dec (a = a ∧ a.length ≤ 100000 ∧ 0 ≤ w64 (i + 1)) then .ret (.tup [.int .i64 2]) [] else .fail else .fail) else .fail else .fail
 else .ret (.tup [.int .i64 2]) [] := by kernel_rfl
theorem sm30_v : ValidL Try.prog e30 := loop_valid (κ := openT Try.prog (tbl []) 300 5) (ι := fun _ => false) (T := ltab []) (sp := true) (fuel := 300) (c := c30) (μ := smM30) (openT_ok noNumTry mixTry ok0 300 5) mixTry ltab_nil (show fillC (ltab []) c30 = c30 by kernel_rfl) (by
 intro N args H r hb h
 unfold e30 sm30_s at h
 simp only [] at h
 split at h
 · rename_i a b i
   rw [crun_ite] at h
   cases hc : dec _ with
   | false => rw [hc] at h; cases h
   | true =>
    rw [hc, cond_true] at h
    obtain ⟨rfl, h1, h2⟩ := dec_iff.1 hc
    refine (congrArg crun (sm30_t N a i)).trans ?_
    by_cases hi : i < a.length
    · have hN : Nat.blt (a.length - i.toNat) (N + 1) = true := hb
      rw [Nat.blt_eq] at hN
      rw [decide_eq_true hi, show inB i a.length = true by unfold inB; simp; omega, show w64 (i + 1) = i + 1 from w64_id (by omega) (by omega), show Nat.blt (a.length - (i + 1).toNat) N = true by rw [Nat.blt_eq]; omega, dec_iff.2 ⟨rfl, h1, by omega⟩]
      simp only [bne_self_eq_false, beq_self_eq_true, Bool.and_self, Bool.not_true, cond_false, cond_true]
      exact h
    · rw [decide_eq_false hi]; exact h
 · cases h)
noncomputable def same30_s : CSumm := fun args H => match args, H with
 | [.psl 33 a, .psl 33 b], [] => .ite (dec (a = b ∧ a.length ≤ 100000)) (.ret (.bool true) []) .fail
 | _, _ => .fail
theorem same30_t (a : List SV) : bodyCL Try.prog (openT Try.prog (tbl []) 300 5) (fun _ => false) (ltab [("s", e30)]) true 300 Try.f30 (markC [(4, "s")] body30) [.psl 33 a, .psl 33 a] [] =
 bif (a.length : Int) != (a.length : Int) then .ret (.bool false) [] else bif dec (a = a ∧ a.length ≤ 100000 ∧ (0 : Int) ≤ 0) then .ret (.bool true) [] else .fail := by kernel_rfl
theorem same30_k : Known Try.prog 30 same30_s := by
 have h0 : Known Try.prog 30 (bodyCL Try.prog (openT Try.prog (tbl []) 300 5) (fun _ => false) (ltab [("s", e30)]) true 300 Try.f30 (markC [(4, "s")] body30)) := ⟨⟨Try.f30, Try.func30, noNum_at noNumTry Try.func30, rfl⟩, bodyL_valid (openT_ok noNumTry mixTry ok0 300 5) mixTry (ltab_cons sm30_v ltab_nil) Try.func30 (show Try.f30.body = some (fillC (ltab [("s", e30)]) (markC [(4, "s")] body30)) by kernel_rfl)⟩
 refine h0.weak (fun args H v ups h => ?_)
 unfold same30_s at h
 split at h
 · rename_i a b
   rw [crun_ite] at h
   cases hc : dec _ with
   | false => rw [hc] at h; cases h
   | true =>
    rw [hc, cond_true] at h
    obtain ⟨rfl, h1⟩ := dec_iff.1 hc
    refine (congrArg crun (same30_t a)).trans ?_
    rw [dec_iff.2 ⟨rfl, h1, by omega⟩, show ((a.length : Int) != (a.length : Int)) = false by simp]
    exact h
 · cases h
noncomputable def body31 : Code := Try.f31.body.getD .skip
noncomputable def c31 : Code := (loopAt 4 body31).getD .skip
noncomputable def sm31_s : CSumm := fun args H => match args, H with
 | [.psl 35 a, .psl 35 b, .int .i64 i], [] => .ite (dec (a = b ∧ a.length ≤ 100000 ∧ 0 ≤ i)) (.ret (.tup [.int .i64 2]) []) .fail
 | _, _ => .fail
def smM31 : List SV → HpL → Nat
 | [.psl _ a, _, .int _ i], _ => a.length - i.toNat
 | _, _ => 0
noncomputable def e31 : LEnt := { ins := [0, 1, 5], outs := [], keep := [], size := 26, code := c31, s := sm31_s }
theorem sm31_t (N : Nat) (a : List SV) (i : Int) : loopOnce Try.prog (openT Try.prog (tbl []) 300 5) (fun _ => false) (ltab []) true 300 e31 { e31 with s := boundT smM31 sm31_s N } c31 [.psl 35 a, .psl 35 a, .int .i64 i] [] =
 bif decide (i < a.length) then bif inB i a.length then bif inB i a.length then bif (asI (a.getD i.toNat .junk) != asI (a.getD i.toNat .junk)) then .ret (.tup [.int .i64 1]) [] else
  (bif Nat.blt (a.length - (w64 (i + 1)).toNat) N then bif dec (a = a ∧ a.length ≤ 100000 ∧ 0 ≤ w64 (i + 1)) then .ret (.tup [.int .i64 2]) [] else .fail else .fail) else .fail else .fail
 else .ret (.tup [.int .i64 2]) [] := by kernel_rfl
theorem sm31_v : ValidL Try.prog e31 := loop_valid (κ := openT Try.prog (tbl []) 300 5) (ι := fun _ => false) (T := ltab []) (sp := true) (fuel := 300) (c := c31) (μ := smM31) (openT_ok noNumTry mixTry ok0 300 5) mixTry ltab_nil (show fillC (ltab []) c31 = c31 by kernel_rfl) (by
 intro N args H r hb h
 unfold e31 sm31_s at h
 simp only [] at h
 split at h
 · rename_i a b i
   rw [crun_ite] at h
   cases hc : dec _ with
   | false => rw [hc] at h; cases h
   | true =>
    rw [hc, cond_true] at h
    obtain ⟨rfl, h1, h2⟩ := dec_iff.1 hc
    refine (congrArg crun (sm31_t N a i)).trans ?_
    by_cases hi : i < a.length
    · have hN : Nat.blt (a.length - i.toNat) (N + 1) = true := hb
      rw [Nat.blt_eq] at hN
      rw [decide_eq_true hi, show inB i a.length = true by unfold inB; simp; omega, show w64 (i + 1) = i + 1 from w64_id (by omega) (by omega), show Nat.blt (a.length - (i + 1).toNat) N = true by rw [Nat.blt_eq]; omega, dec_iff.2 ⟨rfl, h1, by omega⟩]
      simp only [bne_self_eq_false, beq_self_eq_true, Bool.and_self, Bool.not_true, cond_false, cond_true]
      exact h
    · rw [decide_eq_false hi]; exact h
 · cases h)
noncomputable def same31_s : CSumm := fun args H => match args, H with
 | [.psl 35 a, .psl 35 b], [] => .ite (dec (a = b ∧ a.length ≤ 100000)) (.ret (.bool true) []) .fail
 | _, _ => .fail
theorem same31_t (a : List SV) : bodyCL Try.prog (openT Try.prog (tbl []) 300 5) (fun _ => false) (ltab [("s", e31)]) true 300 Try.f31 (markC [(4, "s")] body31) [.psl 35 a, .psl 35 a] [] =
 bif (a.length : Int) != (a.length : Int) then .ret (.bool false) [] else bif dec (a = a ∧ a.length ≤ 100000 ∧ (0 : Int) ≤ 0) then .ret (.bool true) [] else .fail := by kernel_rfl
theorem same31_k : Known Try.prog 31 same31_s := by
 have h0 : Known Try.prog 31 (bodyCL Try.prog (openT Try.prog (tbl []) 300 5) (fun _ => false) (ltab [("s", e31)]) true 300 Try.f31 (markC [(4, "s")] body31)) := ⟨⟨Try.f31, Try.func31, noNum_at noNumTry Try.func31, rfl⟩, bodyL_valid (openT_ok noNumTry mixTry ok0 300 5) mixTry (ltab_cons sm31_v ltab_nil) Try.func31 (show Try.f31.body = some (fillC (ltab [("s", e31)]) (markC [(4, "s")] body31)) by kernel_rfl)⟩
 refine h0.weak (fun args H v ups h => ?_)
 unfold same31_s at h
 split at h
 · rename_i a b
   rw [crun_ite] at h
   cases hc : dec _ with
   | false => rw [hc] at h; cases h
   | true =>
    rw [hc, cond_true] at h
    obtain ⟨rfl, h1⟩ := dec_iff.1 hc
    refine (congrArg crun (same31_t a)).trans ?_
    rw [dec_iff.2 ⟨rfl, h1, by omega⟩, show ((a.length : Int) != (a.length : Int)) = false by simp]
    exact h
 · cases h
noncomputable def body32 : Code := Try.f32.body.getD .skip
noncomputable def c32 : Code := (loopAt 4 body32).getD .skip
noncomputable def sm32_s : CSumm := fun args H => match args, H with
 | [.psl 80 a, .psl 80 b, .int .i64 i], [] => .ite (dec (a = b ∧ a.length ≤ 100000 ∧ 0 ≤ i)) (.ret (.tup [.int .i64 2]) []) .fail
 | _, _ => .fail
def smM32 : List SV → HpL → Nat
 | [.psl _ a, _, .int _ i], _ => a.length - i.toNat
 | _, _ => 0
noncomputable def e32 : LEnt := { ins := [0, 1, 5], outs := [], keep := [], size := 26, code := c32, s := sm32_s }
theorem sm32_t (N : Nat) (a : List SV) (i : Int) : loopOnce Try.prog (openT Try.prog (tbl []) 300 5) (fun _ => false) (ltab []) true 300 e32 { e32 with s := boundT smM32 sm32_s N } c32 [.psl 80 a, .psl 80 a, .int .i64 i] [] =
 bif decide (i < a.length) then bif inB i a.length then bif inB i a.length then bif !((asI (cellAt (a.getD i.toNat .junk) 0) == asI (cellAt (a.getD i.toNat .junk) 0)) && ((asI (cellAt (a.getD i.toNat .junk) 1) == asI (cellAt (a.getD i.toNat .junk) 1)) && ((asI (cellAt (a.getD i.toNat .junk) 2) == asI (cellAt (a.getD i.toNat .junk) 2)) && ((asI (cellAt (a.getD i.toNat .junk) 3) == asI (cellAt (a.getD i.toNat .junk) 3)) && ((asI (cellAt (a.getD i.toNat .junk) 4) == asI (cellAt (a.getD i.toNat .junk) 4)) && ((asI (cellAt (a.getD i.toNat .junk) 5) == asI (cellAt (a.getD i.toNat .junk) 5)) && ((asI (cellAt (a.getD i.toNat .junk) 6) == asI (cellAt (a.getD i.toNat .junk) 6)) && (asI (cellAt (a.getD i.toNat .junk) 7) == asI (cellAt (a.getD i.toNat .junk) 7))))))))) then .ret (.tup [.int .i64 1]) [] else
  (bif Nat.blt (a.length - (w64 (i + 1)).toNat) N then bif dec (a = a ∧ a.length ≤ 100000 ∧ 0 ≤ w64 (i + 1)) then .ret (.tup [.int .i64 2]) [] else .fail else .fail) else .fail else .fail
 else .ret (.tup [.int .i64 2]) [] := by kernel_rfl
theorem sm32_v : ValidL Try.prog e32 := loop_valid (κ := openT Try.prog (tbl []) 300 5) (ι := fun _ => false) (T := ltab []) (sp := true) (fuel := 300) (c := c32) (μ := smM32) (openT_ok noNumTry mixTry ok0 300 5) mixTry ltab_nil (show fillC (ltab []) c32 = c32 by kernel_rfl) (by
 intro N args H r hb h
 unfold e32 sm32_s at h
 simp only [] at h
 split at h
 · rename_i a b i
   rw [crun_ite] at h
   cases hc : dec _ with
   | false => rw [hc] at h; cases h
   | true =>
    rw [hc, cond_true] at h
    obtain ⟨rfl, h1, h2⟩ := dec_iff.1 hc
    refine (congrArg crun (sm32_t N a i)).trans ?_
    by_cases hi : i < a.length
    · have hN : Nat.blt (a.length - i.toNat) (N + 1) = true := hb
      rw [Nat.blt_eq] at hN
      rw [decide_eq_true hi, show inB i a.length = true by unfold inB; simp; omega, show w64 (i + 1) = i + 1 from w64_id (by omega) (by omega), show Nat.blt (a.length - (i + 1).toNat) N = true by rw [Nat.blt_eq]; omega, dec_iff.2 ⟨rfl, h1, by omega⟩]
      simp only [bne_self_eq_false, beq_self_eq_true, Bool.and_self, Bool.not_true, cond_false, cond_true]
      exact h
    · rw [decide_eq_false hi]; exact h
 · cases h)
noncomputable def same32_s : CSumm := fun args H => match args, H with
 | [.psl 80 a, .psl 80 b], [] => .ite (dec (a = b ∧ a.length ≤ 100000)) (.ret (.bool true) []) .fail
 | _, _ => .fail
theorem same32_t (a : List SV) : bodyCL Try.prog (openT Try.prog (tbl []) 300 5) (fun _ => false) (ltab [("s", e32)]) true 300 Try.f32 (markC [(4, "s")] body32) [.psl 80 a, .psl 80 a] [] =
 bif (a.length : Int) != (a.length : Int) then .ret (.bool false) [] else bif dec (a = a ∧ a.length ≤ 100000 ∧ (0 : Int) ≤ 0) then .ret (.bool true) [] else .fail := by kernel_rfl
theorem same32_k : Known Try.prog 32 same32_s := by
 have h0 : Known Try.prog 32 (bodyCL Try.prog (openT Try.prog (tbl []) 300 5) (fun _ => false) (ltab [("s", e32)]) true 300 Try.f32 (markC [(4, "s")] body32)) := ⟨⟨Try.f32, Try.func32, noNum_at noNumTry Try.func32, rfl⟩, bodyL_valid (openT_ok noNumTry mixTry ok0 300 5) mixTry (ltab_cons sm32_v ltab_nil) Try.func32 (show Try.f32.body = some (fillC (ltab [("s", e32)]) (markC [(4, "s")] body32)) by kernel_rfl)⟩
 refine h0.weak (fun args H v ups h => ?_)
 unfold same32_s at h
 split at h
 · rename_i a b
   rw [crun_ite] at h
   cases hc : dec _ with
   | false => rw [hc] at h; cases h
   | true =>
    rw [hc, cond_true] at h
    obtain ⟨rfl, h1⟩ := dec_iff.1 hc
    refine (congrArg crun (same32_t a)).trans ?_
    rw [dec_iff.2 ⟨rfl, h1, by omega⟩, show ((a.length : Int) != (a.length : Int)) = false by simp]
    exact h
 · cases h
end Go.Proofs.Ytkbbiaobohlogaa
/- What is advertised: attributes, routes; copies of them; what is reflected. -/
namespace Go.Proofs.Ytkbbiaobohlogaa
open Go.Am
set_option maxRecDepth 100000
structure At where
 (ori nx med prf orr tk tl tr tg : Int) (hm hp ho : Bool) (path cl cm : List SV)
def At.cs (d : At) : List SV := [.int .i64 d.ori, .psl 33 d.path, .int .u32 d.nx, .bool d.hm, .int .u32 d.med, .bool d.hp, .int .u32 d.prf, .bool d.ho, .int .u32 d.orr, .psl 35 d.cl, .psl 80 d.cm, .int .i64 d.tk, .int .u32 d.tl, .int .u32 d.tr, .int .u32 d.tg]
abbrev At.v (d : At) : SV := .agg d.cs
structure Rt where
 (a : Nat → Int) (hb : Bool) (d : At) (p : Int) (st : Bool)
def Rt.cs (r : Rt) : List SV := [.int .i64 (r.a 0), .int .u64 (r.a 1), .int .u8 (r.a 2), .int .u8 (r.a 3), .int .u8 (r.a 4), .int .u8 (r.a 5), .int .u8 (r.a 6), .int .u8 (r.a 7), .int .u8 (r.a 8), .int .u8 (r.a 9), .int .u8 (r.a 10), .int .u8 (r.a 11), .int .u32 (r.a 12), .int .u64 (r.a 13), .int .u32 (r.a 14), .bool r.hb, .int .u32 (r.a 16), .int .i64 (r.a 17), .int .u32 (r.a 18), .int .u32 (r.a 19), .int .u32 (r.a 20),
 .int .i64 r.d.ori, .psl 33 r.d.path, .int .u32 r.d.nx, .bool r.d.hm, .int .u32 r.d.med, .bool r.d.hp, .int .u32 r.d.prf, .bool r.d.ho, .int .u32 r.d.orr, .psl 35 r.d.cl, .psl 80 r.d.cm, .int .i64 r.d.tk, .int .u32 r.d.tl, .int .u32 r.d.tr, .int .u32 r.d.tg, .int .u32 r.p, .bool r.st]
def gI (cs : List SV) (i : Nat) : Int := asI (cs.getD i .junk)
def gB (cs : List SV) (i : Nat) : Bool := asB (cs.getD i .junk)
def gL (cs : List SV) (i : Nat) : List SV := asL (cs.getD i .junk)
def atAt (cs : List SV) (o : Nat) : At := ⟨gI cs o, gI cs (o + 2), gI cs (o + 4), gI cs (o + 6), gI cs (o + 8), gI cs (o + 11), gI cs (o + 12), gI cs (o + 13), gI cs (o + 14), gB cs (o + 3), gB cs (o + 5), gB cs (o + 7), gL cs (o + 1), gL cs (o + 9), gL cs (o + 10)⟩
def rOf (cs : List SV) : Rt := ⟨gI cs, gB cs 15, atAt cs 21, gI cs 36, gB cs 37⟩
def aOf (cs : List SV) : At := atAt cs 0
def aSz (d : At) : Prop := d.path.length ≤ 1000 ∧ d.cl.length ≤ 1000 ∧ d.cm.length ≤ 1000
theorem bnd_ok {l : List SV} (h : l.length ≤ 1000) : bndE 4 l = true ∧ bndE 8 l = true := by
 unfold bndE
 simp only [Bool.and_eq_true, decide_eq_true_eq]
 omega
noncomputable abbrev κc := tbl [(41, cloneS 33 4), (42, cloneS 35 4), (43, cloneS 80 8)]
theorem cOk : KOk Try.prog κc := tbl_cons cl41_k (tbl_cons cl42_k (tbl_cons cl43_k ok0))
noncomputable abbrev κo := tbl [(46, cloneS 33 4), (47, cloneS 35 4), (48, cloneS 80 8)]
theorem oOk : KOk Try.prog κo := tbl_cons ow46_k (tbl_cons ow47_k (tbl_cons ow48_k ok0))
def cp3 (d : At) (K : CTree) : CTree := bif bndE 4 d.path then bif bndE 4 d.cl then bif bndE 8 d.cm then K else .fail else .fail else .fail
theorem cp3_ok {d : At} (h : aSz d) (K : CTree) : cp3 d K = K := by
 unfold cp3
 rw [(bnd_ok h.1).1, (bnd_ok h.2.1).1, (bnd_ok h.2.2).2]
 rfl
theorem ownr_t (r : Rt) : opn κo Try.f10 [.agg r.cs] [] = cp3 r.d (.ret (.agg r.cs) []) := by kernel_rfl
noncomputable def ownr_s : CSumm := fun args H => match args, H with
 | [.agg cs], [] => .ite (dec (cs = (rOf cs).cs ∧ aSz (rOf cs).d)) (.ret (.agg cs) []) .fail
 | _, _ => .fail
theorem ownr_k : Known Try.prog 10 ownr_s := (openKnown oOk Try.func10 rfl).weak (by
 intro args H v ups h
 unfold ownr_s at h
 split at h
 · rename_i cs
   rw [crun_ite] at h
   cases hc : dec (cs = (rOf cs).cs ∧ aSz (rOf cs).d) with
   | false => rw [hc] at h; cases h
   | true =>
    rw [hc, cond_true] at h
    obtain ⟨h1, h2⟩ := dec_iff.1 hc
    generalize rOf cs = r at h1 h2
    subst h1
    rw [← h]
    exact (congrArg crun (ownr_t r)).trans (by rw [cp3_ok h2])
 · cases h)
end Go.Proofs.Ytkbbiaobohlogaa
/- What is advertised: what is reflected, known. -/
namespace Go.Proofs.Ytkbbiaobohlogaa
open Go.Am
set_option maxRecDepth 100000
def zA : List SV := [.int .i64 0, .nils, .int .u32 0, .bool false, .int .u32 0, .bool false, .int .u32 0, .bool false, .int .u32 0, .nils, .nils, .int .i64 0, .int .u32 0, .int .u32 0, .int .u32 0]
def zAt : At := ⟨0, 0, 0, 0, 0, 0, 0, 0, 0, false, false, false, [], [], []⟩
def refC (r : Rt) (b : Bool) (o : Int) (q : SV) : List SV := [.int .i64 r.d.ori, .psl 33 r.d.path, .int .u32 r.d.nx, .bool r.d.hm, .int .u32 r.d.med, .bool r.d.hp, .int .u32 r.d.prf, .bool b, .int .u32 o, q, .psl 80 r.d.cm, .int .i64 r.d.tk, .int .u32 r.d.tl, .int .u32 r.d.tr, .int .u32 r.d.tg]
def refA (c : Int) (r : Rt) : At := { r.d with ho := true, orr := bif r.d.ho then r.d.orr else r.p, cl := .int .u32 c :: r.d.cl }
noncomputable def refQ (c : Int) (r : Rt) (b : Bool) (o : Int) : CTree := bif decide (1 + r.d.cl.length ≤ 9223372036854775807) && decide ((1 + r.d.cl.length) * Try.prog.types[35].bytes ≤ 140737488355328) then
 .ret (.tup [.agg (refC r b o (.qs 0 1 0 (1 + r.d.cl.length))), .bool true]) [(0, some (.seq 35 (.int .u32 c :: r.d.cl)))] else .fail
theorem refl_t (c : Int) (r : Rt) : opn κc Try.f14 [.int .u32 c, .bool true, .bool true, .bool true, .agg r.cs] [] =
 bif r.p == 0 then cp3 r.d (.ret (.tup [r.d.v, .bool true]) []) else
 bif decide ((r.d.cl.length : Int) ≥ 16) then .ret (.tup [.agg zA, .bool false]) [] else
 cp3 r.d (bif !r.d.ho then refQ c r true r.p else refQ c r r.d.ho r.d.orr) := by kernel_rfl
noncomputable def refl_s : CSumm := fun args H => match args, H with
 | [.int .u32 c, .bool true, .bool true, .bool true, .agg cs], [] => .ite (dec (cs = (rOf cs).cs ∧ aSz (rOf cs).d))
   (.ite ((rOf cs).p == 0) (.ret (.tup [(rOf cs).d.v, .bool true]) []) (.ite (decide (((rOf cs).d.cl.length : Int) ≥ 16)) (.ret (.tup [zAt.v, .bool false]) []) (.ret (.tup [(refA c (rOf cs)).v, .bool true]) []))) .fail
 | _, _ => .fail
theorem refl_told : ∀ args H v' ups', crun (refl_s args H) = some (v', ups') → ∃ v ups, crun (opn κc Try.f14 args H) = some (v, ups) ∧ (Frozen Try.prog H v ups v' ups' ∨ Go.Am.Told Try.prog H v ups v' ups') := by
 intro args H v' ups' h
 unfold refl_s at h
 split at h
 · rename_i c cs
   rw [crun_ite] at h
   cases hc : dec (cs = (rOf cs).cs ∧ aSz (rOf cs).d) with
   | false => rw [hc] at h; cases h
   | true =>
    rw [hc, cond_true] at h
    obtain ⟨h1, h2⟩ := dec_iff.1 hc
    generalize rOf cs = r at h1 h2 h
    subst h1
    have ht := refl_t c r
    rw [crun_ite] at h
    cases hp : r.p == 0 with
    | true =>
     rw [hp, cond_true, cp3_ok h2] at ht
     rw [hp, cond_true] at h
     cases h
     exact ⟨_, _, congrArg crun ht, .inr ⟨fun _ _ _ _ _ h => h, fun x c' hx => ⟨c', hx, fun _ _ _ _ h => h⟩⟩⟩
    | false =>
     rw [hp, cond_false, cp3_ok h2] at ht
     rw [hp, cond_false, crun_ite] at h
     cases hl : decide ((r.d.cl.length : Int) ≥ 16) with
     | true =>
      rw [hl, cond_true] at ht h
      cases h
      refine ⟨_, _, congrArg crun ht, .inr ⟨?_, fun x c' hx => ⟨c', hx, fun _ _ _ _ h => h⟩⟩⟩
      exact .tup (.cons (.agg (.cons (.rfl') (.cons (CoV.nils) (.cons (.rfl') (.cons (.rfl') (.cons (.rfl') (.cons (.rfl') (.cons (.rfl') (.cons (.rfl') (.cons (.rfl') (.cons (CoV.nils) (.cons (CoV.nils) .rfl')))))))))))) .rfl')
     | false =>
      rw [hl, cond_false] at ht h
      cases h
      have hl2 := h2.2.1
      have hq : (bif !r.d.ho then refQ c r true r.p else refQ c r r.d.ho r.d.orr) = .ret (.tup [.agg (refC r true (bif r.d.ho then r.d.orr else r.p) (.qs 0 1 0 (1 + r.d.cl.length))), .bool true]) [(0, some (.seq 35 (.int .u32 c :: r.d.cl)))] := by
       unfold refQ
       rw [bytes35, decide_eq_true (show 1 + r.d.cl.length ≤ 9223372036854775807 by omega), decide_eq_true (show (1 + r.d.cl.length) * 4 ≤ 140737488355328 by omega), Bool.and_self, cond_true, cond_true]
       cases r.d.ho <;> rfl
      rw [hq] at ht
      refine ⟨_, _, congrArg crun ht, .inl ⟨0, 35, .int .u32 c :: r.d.cl, rfl, ?_, fun x c' hx => ?_⟩⟩
      · exact .tup (.cons (.agg (.cons .rfl' (.cons .rfl' (.cons .rfl' (.cons .rfl' (.cons .rfl' (.cons .rfl' (.cons .rfl' (.cons .rfl' (.cons .rfl' (.cons (.qs (by simp [Nat.add_comm])) .rfl'))))))))))) .rfl')
      · simp [HpL.get, updF] at hx
 · cases h
theorem refl_k : Known Try.prog 14 refl_s := known_told (openKnown cOk Try.func14 rfl) refl_told
end Go.Proofs.Ytkbbiaobohlogaa
