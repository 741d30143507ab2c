/- Messages: a stream in pieces: the plain side. -/
import Derived.Test.YtnlmhpancboddaaGreatPart18
import Derived.Test.YtnlmhpancboddaaGreatPart14
import Derived.Test.YtnlmhpancboddaaGreatMachine7
set_option linter.unusedVariables false
set_option linter.unusedSimpArgs false
namespace Go.Proofs.YtnlmhpancboddaaGreat
open Go.Am
set_option maxRecDepth 100000
theorem spF_acc : ∀ (f : Nat) (es : List SV) (a : Nat) (rs : List SV), spF f es a rs = ((spF f es a []).1, (spF f es a []).2.1, rs ++ (spF f es a []).2.2)
 | 0, _, _, rs => by simp [spF]
 | f + 1, es, a, rs => by
  unfold spF
  cases (hdP (es.drop a)).2 != 0 with
  | true => simp
  | false =>
   rw [cond_false, cond_false]
   cases (hdP (es.drop a)).1 == 0 with
   | true => simp
   | false =>
    rw [cond_false, cond_false]
    cases (rdP (dg (es.drop a) 18) (sl (es.drop a) 19 ((hdP (es.drop a)).1.toNat - 19))).2 != 0 with
    | true => simp
    | false =>
     rw [cond_false, cond_false, spF_acc f es _ (rs ++ _), spF_acc f es _ ([] ++ _)]
     simp
theorem spL_acc (es : List SV) (a : Nat) (rs : List SV) : spL es a rs = ((spL es a []).1, (spL es a []).2.1, rs ++ (spL es a []).2.2) := spF_acc _ _ _ _
theorem spF_drop (es : List SV) (k : Nat) : ∀ (f a : Nat) (rs : List SV), spF f es (k + a) rs = ((spF f (es.drop k) a rs).1, k + (spF f (es.drop k) a rs).2.1, (spF f (es.drop k) a rs).2.2)
 | 0, _, _ => rfl
 | f + 1, a, rs => by
  unfold spF
  rw [List.drop_drop]
  cases (hdP (es.drop (k + a))).2 != 0 with
  | true => rfl
  | false =>
   rw [cond_false, cond_false]
   cases (hdP (es.drop (k + a))).1 == 0 with
   | true => rfl
   | false =>
    rw [cond_false, cond_false]
    cases (rdP (dg (es.drop (k + a)) 18) (sl (es.drop (k + a)) 19 ((hdP (es.drop (k + a))).1.toNat - 19))).2 != 0 with
    | true => rfl
    | false => rw [cond_false, cond_false, Nat.add_assoc, spF_drop es k f]
theorem spL_drop (es : List SV) (k : Nat) (hk : k ≤ es.length) (rs : List SV) : spL es k rs = ((spL (es.drop k) 0 rs).1, k + (spL (es.drop k) 0 rs).2.1, (spL (es.drop k) 0 rs).2.2) := by
 have := spF_drop es k (es.length - k) 0 rs
 unfold spL
 rw [Nat.add_zero] at this
 rw [this, List.length_drop, Nat.sub_zero]
theorem dg_take {l : List SV} {m j : Nat} (h : j < m) : dg (l.take m) j = dg l j := by
 unfold dg
 rw [List.getD_eq_getElem?_getD, List.getElem?_take, if_pos h, List.getD_eq_getElem?_getD]
theorem tkN_take {l : List SV} {m j : Nat} : ∀ k, j + k ≤ m → tkN (l.take m) j k = tkN l j k
 | 0, _ => rfl
 | k + 1, h => by rw [tkN, tkN, tkN_take k (by omega), dg_take (by omega)]
theorem hdP_take (p : List SV) (m : Nat) : (hdP (p.take m)).2 = 0 ∧ (hdP (p.take m)).1 = 0 ∨ hdP (p.take m) = hdP p := by
 by_cases h19 : (p.take m).length < 19
 · left; rw [hdP_short h19]; exact ⟨rfl, rfl⟩
 · have hl : (p.take m).length = min m p.length := List.length_take
   have h1 : ¬ p.length < 19 := by omega
   have e1 : (p.take m).take 16 = p.take 16 := by rw [List.take_take, Nat.min_eq_left (by omega)]
   have e2 : tkN (p.take m) 16 2 = tkN p 16 2 := tkN_take 2 (by omega)
   have e3 : dg (p.take m) 18 = dg p 18 := dg_take (by omega)
   unfold hdP
   rw [decide_eq_false h19, decide_eq_false h1, e1, e2, e3]
   rw [cond_false, cond_false]
   cases !mkd (p.take 16) with
   | true => right; rfl
   | false =>
    rw [cond_false, cond_false]
    cases (bif decide (tkN p 16 2 < 19) then true else decide (tkN p 16 2 > 4096)) with
    | true => right; rfl
    | false =>
     rw [cond_false, cond_false]
     cases (bif decide (dg p 18 < 1) then true else decide (dg p 18 > 5)) with
     | true => right; rfl
     | false =>
      rw [cond_false, cond_false]
      by_cases hs : ((p.take m).length : Int) < tkN p 16 2
      · left; rw [decide_eq_true hs]; exact ⟨rfl, rfl⟩
      · right; rw [decide_eq_false hs, decide_eq_false (by omega)]
theorem sl_take {p : List SV} {m a k : Nat} (h : a + k ≤ m) : sl (p.take m) a k = sl p a k := by
 unfold sl
 rw [List.drop_take, List.take_take, Nat.min_eq_left (by omega)]
theorem spF_take (es : List SV) (m : Nat) : ∀ (f a : Nat) (rs : List SV), m ≤ es.length → a ≤ m → m - a ≤ f →
  ((spF f (es.take m) a rs).1 ≠ 0 → spL es a rs = spF f (es.take m) a rs) ∧ ((spF f (es.take m) a rs).1 = 0 → spL es a rs = spL es (spF f (es.take m) a rs).2.1 (spF f (es.take m) a rs).2.2)
 | 0, a, rs, _, _, _ => ⟨fun h => absurd rfl h, fun _ => rfl⟩
 | f + 1, a, rs, hm, ha, hf => by
  have hd : (es.take m).drop a = (es.drop a).take (m - a) := List.drop_take
  unfold spF
  rw [hd]
  rcases hdP_take (es.drop a) (m - a) with ⟨h2, h1⟩ | he
  · rw [show ((hdP ((es.drop a).take (m - a))).2 != 0) = false by simpa using h2, show ((hdP ((es.drop a).take (m - a))).1 == 0) = true by simpa using h1]
    exact ⟨fun h => absurd rfl h, fun _ => rfl⟩
  · rw [he]
    cases c1 : (hdP (es.drop a)).2 != 0 with
    | true =>
     rw [cond_true, spL_step es a rs, c1, cond_true]
     exact ⟨fun _ => rfl, fun h => absurd h (by simpa using c1)⟩
    | false =>
     rw [cond_false, spL_step es a rs, c1, cond_false]
     cases c2 : (hdP (es.drop a)).1 == 0 with
     | true =>
      rw [cond_true, cond_true]
      exact ⟨fun h => absurd rfl h, fun _ => by rw [spL_step es a rs, c1, cond_false, c2, cond_true]⟩
     | false =>
      rw [cond_false, cond_false]
      have hc := hdP_cases ((es.drop a).take (m - a)) (by rw [he]; simpa using c1)
      have h0 : (hdP ((es.drop a).take (m - a))).1 ≠ 0 := by rw [he]; simpa using c2
      obtain ⟨h1, h2, h3⟩ := hc.resolve_left h0
      rw [he] at h1 h2 h3
      have hl : ((es.drop a).take (m - a)).length = m - a := by rw [List.length_take, List.length_drop]; omega
      rw [hl] at h2
      rw [dg_take (show 18 < m - a by omega), sl_take (show 19 + ((hdP (es.drop a)).1.toNat - 19) ≤ m - a by omega)]
      cases c3 : (rdP (dg (es.drop a) 18) (sl (es.drop a) 19 ((hdP (es.drop a)).1.toNat - 19))).2 != 0 with
      | true =>
       rw [cond_true, cond_true]
       exact ⟨fun _ => rfl, fun h => absurd h (by simpa using c3)⟩
      | false =>
       rw [cond_false, cond_false]
       exact spF_take es m f _ _ hm (by omega) (by omega)
theorem spL_take {es : List SV} {m : Nat} (hm : m ≤ es.length) (rs : List SV) : ((spL (es.take m) 0 rs).1 ≠ 0 → spL es 0 rs = spL (es.take m) 0 rs) ∧ ((spL (es.take m) 0 rs).1 = 0 → spL es 0 rs = spL es (spL (es.take m) 0 rs).2.1 (spL (es.take m) 0 rs).2.2) := by
 have := spF_take es m ((es.take m).length - 0) 0 rs hm (Nat.zero_le _) (by rw [List.length_take]; omega)
 exact this
theorem spL_more {b : List SV} {a c e : Nat} {gs : List SV} (hac : a ≤ c) (hc : c ≤ b.length) (h : spL (b.take a) 0 [] = (0, e, gs)) : e ≤ a ∧
  spL (b.take c) 0 [] = ((spL ((b.take c).drop e) 0 []).1, e + (spL ((b.take c).drop e) 0 []).2.1, gs ++ (spL ((b.take c).drop e) 0 []).2.2) := by
 have hat : e ≤ (b.take a).length := by
  have := (spF_at ((b.take a).length - 0) (b.take a) 0 [] (Nat.zero_le _)).2.1
  change (spL (b.take a) 0 []).2.1 ≤ _ at this
  rw [h] at this
  exact this
 rw [List.length_take] at hat
 refine ⟨by omega, ?_⟩
 have ht : (b.take c).take a = b.take a := by rw [List.take_take, Nat.min_eq_left hac]
 have hm := (spL_take (es := b.take c) (m := a) (by rw [List.length_take]; omega) []).2 (by rw [ht, h])
 rw [ht, h] at hm
 rw [hm]
 simp only []
 rw [spL_drop _ e (by rw [List.length_take]; omega), spL_acc _ _ gs]
end Go.Proofs.YtnlmhpancboddaaGreat
/- Lists are the same. -/
namespace Go.Proofs.YtnlmhpancboddaaGreat
open Go.Am
set_option maxRecDepth 100000
noncomputable def body29 : Code := Tryz.f58.body.getD .skip
noncomputable def c29 : Code := (loopAt 4 body29).getD .skip
noncomputable def sm29_s : CSumm := fun args H => match args, H with
 | [.psl 36 a, .psl 36 b, .int .i64 i], [] => .ite (dec (a = b ∧ a.length ≤ 100000 ∧ 0 ≤ i)) (.ret (.tup [.int .i64 2]) []) .fail
 | _, _ => .fail
def smM29 : List SV → HpL → Nat
 | [.psl _ a, _, .int _ i], _ => a.length - i.toNat
 | _, _ => 0
noncomputable def e29 : LEnt := { ins := [0, 1, 5], outs := [], keep := [], size := 26, code := c29, s := sm29_s }
theorem sm29_t (N : Nat) (a : List SV) (i : Int) : loopOnce Tryz.prog (openT Tryz.prog (tbl []) 300 5) (fun _ => false) (ltab []) true 300 e29 { e29 with s := boundT smM29 sm29_s N } c29 [.psl 36 a, .psl 36 a, .int .i64 i] [] =
 bif decide (i < a.length) then bif inB i a.length then bif inB i a.length then bif (asI (a.getD i.toNat .junk) != asI (a.getD i.toNat .junk)) then .ret (.tup [.int .i64 1]) [] else
  (bif Nat.blt (a.length - (w64 (i + 1)).toNat) N then bif dec (a = a ∧ a.length ≤ 100000 ∧ 0 ≤ w64 (i + 1)) then .ret (.tup [.int .i64 2]) [] else .fail else .fail) else .fail else .fail
 else .ret (.tup [.int .i64 2]) [] := by kernel_rfl
theorem sm29_v : ValidL Tryz.prog e29 := loop_valid (κ := openT Tryz.prog (tbl []) 300 5) (ι := fun _ => false) (T := ltab []) (sp := true) (fuel := 300) (c := c29) (μ := smM29) (openT_ok noNumTry mixTry ok0 300 5) mixTry ltab_nil (show fillC (ltab []) c29 = c29 by kernel_rfl) (by
 intro N args H r hb h
 unfold e29 sm29_s at h
 simp only [] at h
 split at h
 · rename_i a b i
   rw [crun_ite] at h
   cases hc : dec _ with
   | false => rw [hc] at h; cases h
   | true =>
    rw [hc, cond_true] at h
    obtain ⟨rfl, h1, h2⟩ := dec_iff.1 hc
    refine (congrArg crun (sm29_t N a i)).trans ?_
    by_cases hi : i < a.length
    · have hN : Nat.blt (a.length - i.toNat) (N + 1) = true := hb
      rw [Nat.blt_eq] at hN
      rw [decide_eq_true hi, show inB i a.length = true by unfold inB; simp; omega, show w64 (i + 1) = i + 1 from w64_id (by omega) (by omega), show Nat.blt (a.length - (i + 1).toNat) N = true by rw [Nat.blt_eq]; omega, dec_iff.2 ⟨rfl, h1, by omega⟩]
      simp only [bne_self_eq_false, cond_false, cond_true]
      exact h
    · rw [decide_eq_false hi]; exact h
 · cases h)
noncomputable def same29_s : CSumm := fun args H => match args, H with
 | [.psl 36 a, .psl 36 b], [] => .ite (dec (a = b ∧ a.length ≤ 100000)) (.ret (.bool true) []) .fail
 | _, _ => .fail
theorem same29_t (a : List SV) : bodyCL Tryz.prog (openT Tryz.prog (tbl []) 300 5) (fun _ => false) (ltab [("s", e29)]) true 300 Tryz.f58 (markC [(4, "s")] body29) [.psl 36 a, .psl 36 a] [] =
 bif (a.length : Int) != (a.length : Int) then .ret (.bool false) [] else bif dec (a = a ∧ a.length ≤ 100000 ∧ (0 : Int) ≤ 0) then .ret (.bool true) [] else .fail := by kernel_rfl
theorem same29_k : Known Tryz.prog 58 same29_s := by
 have h0 : Known Tryz.prog 58 (bodyCL Tryz.prog (openT Tryz.prog (tbl []) 300 5) (fun _ => false) (ltab [("s", e29)]) true 300 Tryz.f58 (markC [(4, "s")] body29)) := ⟨⟨Tryz.f58, Tryz.func58, noNum_at noNumTry Tryz.func58, rfl⟩, bodyL_valid (openT_ok noNumTry mixTry ok0 300 5) mixTry (ltab_cons sm29_v ltab_nil) Tryz.func58 (show Tryz.f58.body = some (fillC (ltab [("s", e29)]) (markC [(4, "s")] body29)) by kernel_rfl)⟩
 refine h0.weak (fun args H v ups h => ?_)
 unfold same29_s at h
 split at h
 · rename_i a b
   rw [crun_ite] at h
   cases hc : dec _ with
   | false => rw [hc] at h; cases h
   | true =>
    rw [hc, cond_true] at h
    obtain ⟨rfl, h1⟩ := dec_iff.1 hc
    refine (congrArg crun (same29_t a)).trans ?_
    rw [dec_iff.2 ⟨rfl, h1, by omega⟩, show ((a.length : Int) != (a.length : Int)) = false by simp]
    exact h
 · cases h
noncomputable def body30 : Code := Tryz.f59.body.getD .skip
noncomputable def c30 : Code := (loopAt 4 body30).getD .skip
noncomputable def sm30_s : CSumm := fun args H => match args, H with
 | [.psl 37 a, .psl 37 b, .int .i64 i], [] => .ite (dec (a = b ∧ a.length ≤ 100000 ∧ 0 ≤ i)) (.ret (.tup [.int .i64 2]) []) .fail
 | _, _ => .fail
def smM30 : List SV → HpL → Nat
 | [.psl _ a, _, .int _ i], _ => a.length - i.toNat
 | _, _ => 0
noncomputable def e30 : LEnt := { ins := [0, 1, 5], outs := [], keep := [], size := 26, code := c30, s := sm30_s }
theorem sm30_t (N : Nat) (a : List SV) (i : Int) : loopOnce Tryz.prog (openT Tryz.prog (tbl []) 300 5) (fun _ => false) (ltab []) true 300 e30 { e30 with s := boundT smM30 sm30_s N } c30 [.psl 37 a, .psl 37 a, .int .i64 i] [] =
 bif decide (i < a.length) then bif inB i a.length then bif inB i a.length then bif (asI (a.getD i.toNat .junk) != asI (a.getD i.toNat .junk)) then .ret (.tup [.int .i64 1]) [] else
  (bif Nat.blt (a.length - (w64 (i + 1)).toNat) N then bif dec (a = a ∧ a.length ≤ 100000 ∧ 0 ≤ w64 (i + 1)) then .ret (.tup [.int .i64 2]) [] else .fail else .fail) else .fail else .fail
 else .ret (.tup [.int .i64 2]) [] := by kernel_rfl
theorem sm30_v : ValidL Tryz.prog e30 := loop_valid (κ := openT Tryz.prog (tbl []) 300 5) (ι := fun _ => false) (T := ltab []) (sp := true) (fuel := 300) (c := c30) (μ := smM30) (openT_ok noNumTry mixTry ok0 300 5) mixTry ltab_nil (show fillC (ltab []) c30 = c30 by kernel_rfl) (by
 intro N args H r hb h
 unfold e30 sm30_s at h
 simp only [] at h
 split at h
 · rename_i a b i
   rw [crun_ite] at h
   cases hc : dec _ with
   | false => rw [hc] at h; cases h
   | true =>
    rw [hc, cond_true] at h
    obtain ⟨rfl, h1, h2⟩ := dec_iff.1 hc
    refine (congrArg crun (sm30_t N a i)).trans ?_
    by_cases hi : i < a.length
    · have hN : Nat.blt (a.length - i.toNat) (N + 1) = true := hb
      rw [Nat.blt_eq] at hN
      rw [decide_eq_true hi, show inB i a.length = true by unfold inB; simp; omega, show w64 (i + 1) = i + 1 from w64_id (by omega) (by omega), show Nat.blt (a.length - (i + 1).toNat) N = true by rw [Nat.blt_eq]; omega, dec_iff.2 ⟨rfl, h1, by omega⟩]
      simp only [bne_self_eq_false, cond_false, cond_true]
      exact h
    · rw [decide_eq_false hi]; exact h
 · cases h)
noncomputable def same30_s : CSumm := fun args H => match args, H with
 | [.psl 37 a, .psl 37 b], [] => .ite (dec (a = b ∧ a.length ≤ 100000)) (.ret (.bool true) []) .fail
 | _, _ => .fail
theorem same30_t (a : List SV) : bodyCL Tryz.prog (openT Tryz.prog (tbl []) 300 5) (fun _ => false) (ltab [("s", e30)]) true 300 Tryz.f59 (markC [(4, "s")] body30) [.psl 37 a, .psl 37 a] [] =
 bif (a.length : Int) != (a.length : Int) then .ret (.bool false) [] else bif dec (a = a ∧ a.length ≤ 100000 ∧ (0 : Int) ≤ 0) then .ret (.bool true) [] else .fail := by kernel_rfl
theorem same30_k : Known Tryz.prog 59 same30_s := by
 have h0 : Known Tryz.prog 59 (bodyCL Tryz.prog (openT Tryz.prog (tbl []) 300 5) (fun _ => false) (ltab [("s", e30)]) true 300 Tryz.f59 (markC [(4, "s")] body30)) := ⟨⟨Tryz.f59, Tryz.func59, noNum_at noNumTry Tryz.func59, rfl⟩, bodyL_valid (openT_ok noNumTry mixTry ok0 300 5) mixTry (ltab_cons sm30_v ltab_nil) Tryz.func59 (show Tryz.f59.body = some (fillC (ltab [("s", e30)]) (markC [(4, "s")] body30)) by kernel_rfl)⟩
 refine h0.weak (fun args H v ups h => ?_)
 unfold same30_s at h
 split at h
 · rename_i a b
   rw [crun_ite] at h
   cases hc : dec _ with
   | false => rw [hc] at h; cases h
   | true =>
    rw [hc, cond_true] at h
    obtain ⟨rfl, h1⟩ := dec_iff.1 hc
    refine (congrArg crun (same30_t a)).trans ?_
    rw [dec_iff.2 ⟨rfl, h1, by omega⟩, show ((a.length : Int) != (a.length : Int)) = false by simp]
    exact h
 · cases h
noncomputable def body31z : Code := Tryz.f60.body.getD .skip
noncomputable def c31z : Code := (loopAt 4 body31z).getD .skip
noncomputable def sm31_s : CSumm := fun args H => match args, H with
 | [.psl 136 a, .psl 136 b, .int .i64 i], [] => .ite (dec (a = b ∧ a.length ≤ 100000 ∧ 0 ≤ i)) (.ret (.tup [.int .i64 2]) []) .fail
 | _, _ => .fail
def smM31 : List SV → HpL → Nat
 | [.psl _ a, _, .int _ i], _ => a.length - i.toNat
 | _, _ => 0
noncomputable def e31z : LEnt := { ins := [0, 1, 5], outs := [], keep := [], size := 26, code := c31z, s := sm31_s }
theorem sm31_t (N : Nat) (a : List SV) (i : Int) : loopOnce Tryz.prog (openT Tryz.prog (tbl []) 300 5) (fun _ => false) (ltab []) true 300 e31z { e31z with s := boundT smM31 sm31_s N } c31z [.psl 136 a, .psl 136 a, .int .i64 i] [] =
 bif decide (i < a.length) then bif inB i a.length then bif inB i a.length then bif !((asI (cellAt (a.getD i.toNat .junk) 0) == asI (cellAt (a.getD i.toNat .junk) 0)) && ((asI (cellAt (a.getD i.toNat .junk) 1) == asI (cellAt (a.getD i.toNat .junk) 1)) && ((asI (cellAt (a.getD i.toNat .junk) 2) == asI (cellAt (a.getD i.toNat .junk) 2)) && ((asI (cellAt (a.getD i.toNat .junk) 3) == asI (cellAt (a.getD i.toNat .junk) 3)) && ((asI (cellAt (a.getD i.toNat .junk) 4) == asI (cellAt (a.getD i.toNat .junk) 4)) && ((asI (cellAt (a.getD i.toNat .junk) 5) == asI (cellAt (a.getD i.toNat .junk) 5)) && ((asI (cellAt (a.getD i.toNat .junk) 6) == asI (cellAt (a.getD i.toNat .junk) 6)) && (asI (cellAt (a.getD i.toNat .junk) 7) == asI (cellAt (a.getD i.toNat .junk) 7))))))))) then .ret (.tup [.int .i64 1]) [] else
  (bif Nat.blt (a.length - (w64 (i + 1)).toNat) N then bif dec (a = a ∧ a.length ≤ 100000 ∧ 0 ≤ w64 (i + 1)) then .ret (.tup [.int .i64 2]) [] else .fail else .fail) else .fail else .fail
 else .ret (.tup [.int .i64 2]) [] := by kernel_rfl
theorem sm31_v : ValidL Tryz.prog e31z := loop_valid (κ := openT Tryz.prog (tbl []) 300 5) (ι := fun _ => false) (T := ltab []) (sp := true) (fuel := 300) (c := c31z) (μ := smM31) (openT_ok noNumTry mixTry ok0 300 5) mixTry ltab_nil (show fillC (ltab []) c31z = c31z by kernel_rfl) (by
 intro N args H r hb h
 unfold e31z sm31_s at h
 simp only [] at h
 split at h
 · rename_i a b i
   rw [crun_ite] at h
   cases hc : dec _ with
   | false => rw [hc] at h; cases h
   | true =>
    rw [hc, cond_true] at h
    obtain ⟨rfl, h1, h2⟩ := dec_iff.1 hc
    refine (congrArg crun (sm31_t N a i)).trans ?_
    by_cases hi : i < a.length
    · have hN : Nat.blt (a.length - i.toNat) (N + 1) = true := hb
      rw [Nat.blt_eq] at hN
      rw [decide_eq_true hi, show inB i a.length = true by unfold inB; simp; omega, show w64 (i + 1) = i + 1 from w64_id (by omega) (by omega), show Nat.blt (a.length - (i + 1).toNat) N = true by rw [Nat.blt_eq]; omega, dec_iff.2 ⟨rfl, h1, by omega⟩]
      simp only [beq_self_eq_true, Bool.and_self, Bool.not_true, cond_false, cond_true]
      exact h
    · rw [decide_eq_false hi]; exact h
 · cases h)
noncomputable def same31_s : CSumm := fun args H => match args, H with
 | [.psl 136 a, .psl 136 b], [] => .ite (dec (a = b ∧ a.length ≤ 100000)) (.ret (.bool true) []) .fail
 | _, _ => .fail
theorem same31_t (a : List SV) : bodyCL Tryz.prog (openT Tryz.prog (tbl []) 300 5) (fun _ => false) (ltab [("s", e31z)]) true 300 Tryz.f60 (markC [(4, "s")] body31z) [.psl 136 a, .psl 136 a] [] =
 bif (a.length : Int) != (a.length : Int) then .ret (.bool false) [] else bif dec (a = a ∧ a.length ≤ 100000 ∧ (0 : Int) ≤ 0) then .ret (.bool true) [] else .fail := by kernel_rfl
theorem same31_k : Known Tryz.prog 60 same31_s := by
 have h0 : Known Tryz.prog 60 (bodyCL Tryz.prog (openT Tryz.prog (tbl []) 300 5) (fun _ => false) (ltab [("s", e31z)]) true 300 Tryz.f60 (markC [(4, "s")] body31z)) := ⟨⟨Tryz.f60, Tryz.func60, noNum_at noNumTry Tryz.func60, rfl⟩, bodyL_valid (openT_ok noNumTry mixTry ok0 300 5) mixTry (ltab_cons sm31_v ltab_nil) Tryz.func60 (show Tryz.f60.body = some (fillC (ltab [("s", e31z)]) (markC [(4, "s")] body31z)) by kernel_rfl)⟩
 refine h0.weak (fun args H v ups h => ?_)
 unfold same31_s at h
 split at h
 · rename_i a b
   rw [crun_ite] at h
   cases hc : dec _ with
   | false => rw [hc] at h; cases h
   | true =>
    rw [hc, cond_true] at h
    obtain ⟨rfl, h1⟩ := dec_iff.1 hc
    refine (congrArg crun (same31_t a)).trans ?_
    rw [dec_iff.2 ⟨rfl, h1, by omega⟩, show ((a.length : Int) != (a.length : Int)) = false by simp]
    exact h
 · cases h
noncomputable def body12 : Code := Tryz.f37.body.getD .skip
noncomputable def c12 : Code := (loopAt 4 body12).getD .skip
noncomputable def sm12_s : CSumm := fun args H => match args, H with
 | [.psl 88 a, .psl 88 b, .int .i64 i], [] => .ite (dec (a = b ∧ a.length ≤ 100000 ∧ 0 ≤ i)) (.ret (.tup [.int .i64 2]) []) .fail
 | _, _ => .fail
def smM12 : List SV → HpL → Nat
 | [.psl _ a, _, .int _ i], _ => a.length - i.toNat
 | _, _ => 0
noncomputable def e12 : LEnt := { ins := [0, 1, 5], outs := [], keep := [], size := 26, code := c12, s := sm12_s }
theorem sm12_t (N : Nat) (a : List SV) (i : Int) : loopOnce Tryz.prog (openT Tryz.prog (tbl []) 300 5) (fun _ => false) (ltab []) true 300 e12 { e12 with s := boundT smM12 sm12_s N } c12 [.psl 88 a, .psl 88 a, .int .i64 i] [] =
 bif decide (i < a.length) then bif inB i a.length then bif inB i a.length then bif !((asI (cellAt (a.getD i.toNat .junk) 0) == asI (cellAt (a.getD i.toNat .junk) 0)) && ((asI (cellAt (a.getD i.toNat .junk) 1) == asI (cellAt (a.getD i.toNat .junk) 1)) && ((asI (cellAt (a.getD i.toNat .junk) 2) == asI (cellAt (a.getD i.toNat .junk) 2)) && ((asI (cellAt (a.getD i.toNat .junk) 3) == asI (cellAt (a.getD i.toNat .junk) 3)) && ((asI (cellAt (a.getD i.toNat .junk) 4) == asI (cellAt (a.getD i.toNat .junk) 4)) && ((asI (cellAt (a.getD i.toNat .junk) 5) == asI (cellAt (a.getD i.toNat .junk) 5)) && ((asI (cellAt (a.getD i.toNat .junk) 6) == asI (cellAt (a.getD i.toNat .junk) 6)) && ((asI (cellAt (a.getD i.toNat .junk) 7) == asI (cellAt (a.getD i.toNat .junk) 7)) && ((asI (cellAt (a.getD i.toNat .junk) 8) == asI (cellAt (a.getD i.toNat .junk) 8)) && ((asI (cellAt (a.getD i.toNat .junk) 9) == asI (cellAt (a.getD i.toNat .junk) 9)) && ((asI (cellAt (a.getD i.toNat .junk) 10) == asI (cellAt (a.getD i.toNat .junk) 10)) && ((asI (cellAt (a.getD i.toNat .junk) 11) == asI (cellAt (a.getD i.toNat .junk) 11)) && ((asI (cellAt (a.getD i.toNat .junk) 12) == asI (cellAt (a.getD i.toNat .junk) 12)) && ((asI (cellAt (a.getD i.toNat .junk) 13) == asI (cellAt (a.getD i.toNat .junk) 13)) && ((asI (cellAt (a.getD i.toNat .junk) 14) == asI (cellAt (a.getD i.toNat .junk) 14)) && ((asB (cellAt (a.getD i.toNat .junk) 15) == asB (cellAt (a.getD i.toNat .junk) 15)) && ((asI (cellAt (a.getD i.toNat .junk) 16) == asI (cellAt (a.getD i.toNat .junk) 16)) && ((asI (cellAt (a.getD i.toNat .junk) 17) == asI (cellAt (a.getD i.toNat .junk) 17)) && ((asI (cellAt (a.getD i.toNat .junk) 18) == asI (cellAt (a.getD i.toNat .junk) 18)) && ((asI (cellAt (a.getD i.toNat .junk) 19) == asI (cellAt (a.getD i.toNat .junk) 19)) && (asI (cellAt (a.getD i.toNat .junk) 20) == asI (cellAt (a.getD i.toNat .junk) 20)))))))))))))))))))))) then .ret (.tup [.int .i64 1]) [] else
  (bif Nat.blt (a.length - (w64 (i + 1)).toNat) N then bif dec (a = a ∧ a.length ≤ 100000 ∧ 0 ≤ w64 (i + 1)) then .ret (.tup [.int .i64 2]) [] else .fail else .fail) else .fail else .fail
 else .ret (.tup [.int .i64 2]) [] := by kernel_rfl
theorem sm12_v : ValidL Tryz.prog e12 := loop_valid (κ := openT Tryz.prog (tbl []) 300 5) (ι := fun _ => false) (T := ltab []) (sp := true) (fuel := 300) (c := c12) (μ := smM12) (openT_ok noNumTry mixTry ok0 300 5) mixTry ltab_nil (show fillC (ltab []) c12 = c12 by kernel_rfl) (by
 intro N args H r hb h
 unfold e12 sm12_s at h
 simp only [] at h
 split at h
 · rename_i a b i
   rw [crun_ite] at h
   cases hc : dec _ with
   | false => rw [hc] at h; cases h
   | true =>
    rw [hc, cond_true] at h
    obtain ⟨rfl, h1, h2⟩ := dec_iff.1 hc
    refine (congrArg crun (sm12_t N a i)).trans ?_
    by_cases hi : i < a.length
    · have hN : Nat.blt (a.length - i.toNat) (N + 1) = true := hb
      rw [Nat.blt_eq] at hN
      rw [decide_eq_true hi, show inB i a.length = true by unfold inB; simp; omega, show w64 (i + 1) = i + 1 from w64_id (by omega) (by omega), show Nat.blt (a.length - (i + 1).toNat) N = true by rw [Nat.blt_eq]; omega, dec_iff.2 ⟨rfl, h1, by omega⟩]
      simp only [beq_self_eq_true, Bool.and_self, Bool.not_true, cond_false, cond_true]
      exact h
    · rw [decide_eq_false hi]; exact h
 · cases h)
noncomputable def same12_s : CSumm := fun args H => match args, H with
 | [.psl 88 a, .psl 88 b], [] => .ite (dec (a = b ∧ a.length ≤ 100000)) (.ret (.bool true) []) .fail
 | _, _ => .fail
theorem same12_t (a : List SV) : bodyCL Tryz.prog (openT Tryz.prog (tbl []) 300 5) (fun _ => false) (ltab [("s", e12)]) true 300 Tryz.f37 (markC [(4, "s")] body12) [.psl 88 a, .psl 88 a] [] =
 bif (a.length : Int) != (a.length : Int) then .ret (.bool false) [] else bif dec (a = a ∧ a.length ≤ 100000 ∧ (0 : Int) ≤ 0) then .ret (.bool true) [] else .fail := by kernel_rfl
theorem same12_k : Known Tryz.prog 37 same12_s := by
 have h0 : Known Tryz.prog 37 (bodyCL Tryz.prog (openT Tryz.prog (tbl []) 300 5) (fun _ => false) (ltab [("s", e12)]) true 300 Tryz.f37 (markC [(4, "s")] body12)) := ⟨⟨Tryz.f37, Tryz.func37, noNum_at noNumTry Tryz.func37, rfl⟩, bodyL_valid (openT_ok noNumTry mixTry ok0 300 5) mixTry (ltab_cons sm12_v ltab_nil) Tryz.func37 (show Tryz.f37.body = some (fillC (ltab [("s", e12)]) (markC [(4, "s")] body12)) by kernel_rfl)⟩
 refine h0.weak (fun args H v ups h => ?_)
 unfold same12_s at h
 split at h
 · rename_i a b
   rw [crun_ite] at h
   cases hc : dec _ with
   | false => rw [hc] at h; cases h
   | true =>
    rw [hc, cond_true] at h
    obtain ⟨rfl, h1⟩ := dec_iff.1 hc
    refine (congrArg crun (same12_t a)).trans ?_
    rw [dec_iff.2 ⟨rfl, h1, by omega⟩, show ((a.length : Int) != (a.length : Int)) = false by simp]
    exact h
 · cases h
end Go.Proofs.YtnlmhpancboddaaGreat
/- AttrRead: attributes are the same; bytes are copied, and written over. -/
namespace Go.Proofs.YtnlmhpancboddaaGreat
open Go.Am
set_option maxRecDepth 100000
noncomputable abbrev κs := tbl [(58, same29_s), (59, same30_s), (60, same31_s)]
theorem sOk : KOk Tryz.prog κs := tbl_cons same29_k (tbl_cons same30_k (tbl_cons same31_k ok0))
noncomputable def smC (a : List SV) (K : CTree) : CTree := bif dec (a = a ∧ a.length ≤ 100000) then K else .fail
def zsF : CTree := .ret (.bool false) []
theorem sat_t (d : Ds) : opn κs Tryz.f36 [aD d, aD d] [] =
 bif d.ori == d.ori then smC d.path (bif d.nx == d.nx then bif d.hm == d.hm then bif d.med == d.med then bif d.hp == d.hp then bif d.prf == d.prf then bif d.ho == d.ho then bif d.orr == d.orr then
  smC d.cl (smC d.cm (.ret (.bool (d.tk == d.tk && (d.tl == d.tl && (d.tr == d.tr && d.tg == d.tg)))) [])) else zsF else zsF else zsF else zsF else zsF else zsF else zsF) else zsF := by kernel_rfl
def aP : SV → Option Ds
 | .agg [.int .i64 ori, .psl 36 p, .int .u32 nx, .bool hm, .int .u32 med, .bool hp, .int .u32 prf, .bool ho, .int .u32 orr, .psl 37 c, .psl 136 m, .int .i64 tk, .int .u32 tl, .int .u32 tr, .int .u32 tg] => some ⟨ori, nx, med, prf, orr, tk, tl, tr, tg, hm, hp, ho, p, c, m, [], []⟩
 | _ => none
noncomputable def sameA_s : CSumm := fun args H => match args, H with
 | [x, y], [] => match aP x with
  | some d => .ite (dec (x = aD d ∧ y = aD d ∧ d.path.length ≤ 100000 ∧ d.cl.length ≤ 100000 ∧ d.cm.length ≤ 100000)) (.ret (.bool true) []) .fail
  | none => .fail
 | _, _ => .fail
theorem sameA_k : Known Tryz.prog 36 sameA_s := (openKnown sOk Tryz.func36 rfl).weak (by
 intro args H v ups h
 unfold sameA_s at h
 split at h
 · rename_i x y
   split at h
   · rename_i d hd
     rw [crun_ite] at h
     cases hc : dec _ with
     | false => rw [hc] at h; cases h
     | true =>
      rw [hc, cond_true] at h
      obtain ⟨rfl, rfl, h1, h2, h3⟩ := dec_iff.1 hc
      refine (congrArg crun (sat_t d)).trans ?_
      unfold smC
      rw [dec_iff.2 ⟨rfl, h1⟩, dec_iff.2 ⟨rfl, h2⟩, dec_iff.2 ⟨rfl, h3⟩]
      simp only [beq_self_eq_true, Bool.and_self, cond_true]
      exact h
   · cases h
 · cases h)
end Go.Proofs.YtnlmhpancboddaaGreat
