/- The reference's Number and ParseIP. -/
import Derived.Test.YtpelignoebgkbaaGreatDoorPart3
import Derived.Test.YtpelignoebgkbaaGreatDoorPart2
import Derived.Test.YtpelignoebgkbaaGreatDoorMachine7
import Derived.Test.YtpelignoebgkbaaGreatDoorPart1
set_option linter.unusedVariables false
set_option linter.unusedSimpArgs false
namespace Go.Proofs.YtpelignoebgkbaaGreatDoor
open Go.Am
set_option maxRecDepth 100000
/- AddrCalls: the reference's Number. -/
theorem pow_le10 {k : Nat} (h : k ≤ 10) : (10 : Int) ^ k ≤ 10 ^ 10 := by
 have : (10 : Nat) ^ k ≤ 10 ^ 10 := Nat.pow_le_pow_right (by decide) h
 exact_mod_cast this
theorem nu_valid : ValidL Tryz.prog e73 := loop_valid5 (T := ltab []) (sp := true) (fuel := 300) (c := c73) (μ := nuM) mixTry ltab_nil (show fillC (ltab []) c73 = c73 by kernel_rfl) (by
 intro N args H v' ups' hbt h
 unfold e73 nu_s at h
 simp only [] at h
 split at h
 · rename_i s v i
   rw [crun_ite] at h
   cases hc : dec (nuOk s v i) with
   | false => rw [hc] at h; cases h
   | true =>
    rw [hc, cond_true, crun_ite] at h
    obtain ⟨hv, hv1, hs, i0, i1⟩ := dec_iff.1 hc
    have hN : Nat.blt ((s.length : Int) - i).toNat (N + 1) = true := hbt
    rw [Nat.blt_eq] at hN
    refine ⟨κ0, fun _ => false, κ0Ok, ?_⟩
    have ht := nu_t N s v i
    obtain ⟨k, rfl⟩ := Int.eq_ofNat_of_zero_le i0
    have hk : ((k : Nat) : Int).toNat = k := rfl
    rw [hk] at h ht hv1
    by_cases hi : (k : Int) < s.length
    · obtain ⟨c0, c1⟩ := chr_rng (s.getD k 0)
      have hkl : k < s.length := by omega
      have hp := pow_le10 (show k ≤ 10 by omega)
      rw [decide_eq_true hi, cond_true, inB_ok (by omega) (by omega), cond_true, nuX_eq (inB_ok (by omega) (by omega)) c0 c1 hv (by omega), show w64 ((k : Int) + 1) = ((k + 1 : Nat) : Int) from (w64_id (by omega) (by omega)).trans (by omega)] at ht
      rw [getD_cons hkl, nuS] at h
      have hd : (decide (48 ≤ (s.getD k 0).toNat) && decide ((s.getD k 0).toNat ≤ 57)) = (decide (48 ≤ ((s.getD k 0).toNat : Int)) && decide (((s.getD k 0).toNat : Int) ≤ 57)) := by
       rw [Bool.eq_iff_iff]; simp only [Bool.and_eq_true, decide_eq_true_eq]; omega
      rw [hd] at h
      cases hq : (decide (48 ≤ ((s.getD k 0).toNat : Int)) && decide (((s.getD k 0).toNat : Int) ≤ 57)) with
      | false =>
       rw [hq] at h
       rw [hq, cond_false] at ht
       cases h
       exact ⟨_, _, congrArg crun ht, .told ⟨1, [.int .i64 0, .bool false, .int .i64 v], [.int .i64 0, .bool false, .junk], rfl, rfl, .cons .rfl' (.cons .rfl' (CoL.junk Tryz.prog [.int .i64 v])), fun y c' hy => ⟨c', hy, .rfl'⟩⟩⟩
      | true =>
       rw [hq, cond_true] at h ht
       simp only [Bool.and_eq_true, decide_eq_true_eq] at hq
       have hpw : (10 : Int) ^ (k + 1) = 10 ^ k * 10 := Int.pow_succ ..
       unfold nuN at ht
       rw [show Nat.blt ((s.length : Int) - ((k + 1 : Nat) : Int)).toNat N = true by rw [Nat.blt_eq]; omega, cond_true, dec_iff.2 ⟨by omega, by rw [show ((k + 1 : Nat) : Int).toNat = k + 1 from rfl, hpw]; omega, hs, by omega, by omega⟩, cond_true, show ((k + 1 : Nat) : Int).toNat = k + 1 from rfl] at ht
       refine ⟨v', ups', (congrArg crun ht).trans ?_, .same fun _ => rfl⟩
       rw [crun_cond]
       exact h
    · rw [decide_eq_false hi, cond_false] at ht
      have : s.drop k = [] := List.drop_eq_nil_of_le (by omega)
      rw [this] at h
      exact ⟨v', ups', (congrArg crun ht).trans h, .same fun _ => rfl⟩
 · cases h)
noncomputable abbrev T73 : LTab := ltab [("d", e73)]
noncomputable abbrev m73 : Code := markC [(5, "d")] body73
noncomputable def num_b : CSumm := bodyCL Tryz.prog κ0 (fun _ => false) T73 true 300 Tryz.f66 m73
theorem num_k0 : Known Tryz.prog 66 num_b := ⟨⟨Tryz.f66, Tryz.func66, noNum_at noNumTry Tryz.func66, rfl⟩, bodyL_valid κ0Ok mixTry (ltab_cons nu_valid ltab_nil) Tryz.func66 (show Tryz.f66.body = some (fillC T73 m73) by kernel_rfl)⟩
end Go.Proofs.YtpelignoebgkbaaGreatDoor
/- The reference's Number and ParseIP. -/
namespace Go.Proofs.YtpelignoebgkbaaGreatDoor
open Go.Am
set_option maxRecDepth 100000
/- AddrCalls: the reference's Number, known. -/
noncomputable def nuLr (s : List UInt8) (m : Int) : CTree := bif dec (nuOk s 0 0) then bif (nuS (s.drop (0 : Int).toNat) 0).isSome then
 .ret (.tup [.int .i64 ((nuS (s.drop (0 : Int).toNat) 0).getD 0), .bool (decide ((nuS (s.drop (0 : Int).toNat) 0).getD 0 ≤ m))]) [] else .ret (.tup [.int .i64 0, .bool false]) [] else .fail
def nuZ : CTree := .ret (.tup [.int .i64 0, .bool false]) []
theorem num_t (s : List UInt8) (m : Int) : num_b [.str s, .int .i64 m] [] = bif s == [] then nuZ else bif decide ((s.length : Int) > 10) then nuZ else bif inB 0 s.length then
 bif ((s.getD (0 : Int).toNat 0).toNat : Int) == 48 then bif decide ((s.length : Int) > 1) then nuZ else nuLr s m else nuLr s m else .fail := by kernel_rfl
def nuV (m : Int) (s : List UInt8) : Int × Bool := bif s == [] || (decide (s.length > 10) || (s.getD 0 0 == 48 && decide (s.length > 1))) then (0, false) else match nuS s 0 with
 | some v => (v, decide (v ≤ m))
 | none => (0, false)
noncomputable def num_s : CSumm := fun args H => match args, H with
 | [.str s, .int .i64 m], [] => .ret (.tup [.int .i64 (nuV m s).1, .bool (nuV m s).2]) []
 | _, _ => .fail
theorem nuLr_v {s : List UInt8} {m : Int} (h : s.length ≤ 10) : crun (nuLr s m) = crun (match nuS s 0 with | some v => .ret (.tup [.int .i64 v, .bool (decide (v ≤ m))]) [] | none => nuZ) := by
 unfold nuLr
 rw [dec_iff.2 ⟨Int.le_refl _, by decide, h, Int.le_refl _, by omega⟩, cond_true, show s.drop (0 : Int).toNat = s from rfl]
 cases nuS s 0 <;> rfl
theorem num_k : Known Tryz.prog 66 num_s := num_k0.weak (by
 intro args H v ups h
 unfold num_s at h
 split at h
 · rename_i s m
   rw [← h]
   refine (congrArg crun (num_t s m)).trans ?_
   unfold nuV
   cases h1 : s == [] with
   | true => rfl
   | false =>
    have hne : s ≠ [] := by intro e; subst e; cases h1
    have hpos : 0 < s.length := List.length_pos_iff.2 hne
    rw [cond_false, Bool.false_or]
    by_cases h2 : s.length > 10
    · rw [decide_eq_true h2, decide_eq_true (show (s.length : Int) > 10 by omega)]; rfl
    · rw [decide_eq_false h2, decide_eq_false (show ¬ (s.length : Int) > 10 by omega), cond_false, inB_ok (by omega) (by omega), cond_true, Bool.false_or]
      have hL := nuLr_v (s := s) (m := m) (by omega)
      have h48 : (((s.getD (0 : Int).toNat 0).toNat : Int) == 48) = (s.getD 0 0 == 48) := by
       show (((s.getD 0 0).toNat : Int) == 48) = _
       rw [Bool.eq_iff_iff, beq_iff_eq, beq_iff_eq]
       constructor
       · intro e; apply UInt8.toNat_inj.1; show (s.getD 0 0).toNat = 48; omega
       · intro e; rw [e]; rfl
      rw [h48]
      cases h3 : s.getD 0 0 == 48 with
      | false =>
       rw [cond_false, Bool.false_and, cond_false, hL]
       cases nuS s 0 <;> rfl
      | true =>
       rw [cond_true, Bool.true_and]
       by_cases h4 : s.length > 1
       · rw [decide_eq_true h4, decide_eq_true (show (s.length : Int) > 1 by omega)]; rfl
       · rw [decide_eq_false h4, decide_eq_false (show ¬ (s.length : Int) > 1 by omega), cond_false, cond_false, hL]
         cases nuS s 0 <;> rfl
 · cases h)
end Go.Proofs.YtpelignoebgkbaaGreatDoor
/- The reference's Number and ParseIP. -/
namespace Go.Proofs.YtpelignoebgkbaaGreatDoor
open Go.Am
set_option maxRecDepth 100000
/- AddrCalls: the reference's numbers are addr's. -/
theorem dig_all : ((List.range 256).all fun k => bif decide (48 ≤ k) && decide (k ≤ 57) then decide (dgt ((k : Nat) : Int) 10 = ((k : Nat) : Int) - 48) else decide (10 ≤ dgt ((k : Nat) : Int) 10)) = true := by kernel_rfl
theorem dig_y {c : UInt8} (h : (decide (48 ≤ c.toNat) && decide (c.toNat ≤ 57)) = true) : dgt c.toNat 10 = (c.toNat : Int) - 48 := by
 have := List.all_eq_true.1 dig_all c.toNat (List.mem_range.2 c.toNat_lt)
 rw [h, cond_true] at this
 exact of_decide_eq_true this
theorem dig_n {c : UInt8} (h : (decide (48 ≤ c.toNat) && decide (c.toNat ≤ 57)) = false) : 10 ≤ dgt c.toNat 10 := by
 have := List.all_eq_true.1 dig_all c.toNat (List.mem_range.2 c.toNat_lt)
 rw [h, cond_false] at this
 exact of_decide_eq_true this
theorem nuS_pow : ∀ (s : List UInt8) (v w : Int), 0 ≤ v → nuS s v = some w → v * 10 ^ s.length ≤ w
 | [], v, w, _, h => by cases h; simp
 | c :: cs, v, w, hv, h => by
  unfold nuS at h
  cases hq : decide (48 ≤ c.toNat) && decide (c.toNat ≤ 57) with
  | false => rw [hq] at h; cases h
  | true =>
   rw [hq, cond_true] at h
   simp only [Bool.and_eq_true, decide_eq_true_eq] at hq
   have ih := nuS_pow cs _ w (by omega) h
   have h1 : v * 10 ≤ 10 * v + ((c.toNat : Int) - 48) := by omega
   have h2 : (v * 10) * 10 ^ cs.length ≤ (10 * v + ((c.toNat : Int) - 48)) * 10 ^ cs.length := Int.mul_le_mul_of_nonneg_right h1 (Int.pow_nonneg (by decide))
   rw [List.length_cons, Int.pow_succ, Int.mul_comm (10 ^ cs.length) 10, ← Int.mul_assoc]
   exact Int.le_trans h2 ih
theorem nuS_le {s : List UInt8} {v w : Int} (hv : 0 ≤ v) (h : nuS s v = some w) : v ≤ w := by
 have h1 := nuS_pow s v w hv h
 have h2 : (1 : Int) ≤ 10 ^ s.length := by
  have : 0 < 10 ^ s.length := Nat.pow_pos (by decide)
  exact_mod_cast this
 have h3 : v * 1 ≤ v * 10 ^ s.length := Int.mul_le_mul_of_nonneg_left h2 hv
 omega
theorem nu_dg {l : Int} : ∀ (s : List UInt8) (v : Int), 0 ≤ v → v ≤ l → dgS 10 l s v = match nuS s v with | some w => bif decide (w ≤ l) then some w else none | none => none
 | [], v, _, h1 => by unfold dgS nuS; simp only []; rw [decide_eq_true h1]; rfl
 | c :: cs, v, h0, h1 => by
  unfold dgS nuS
  cases hq : decide (48 ≤ c.toNat) && decide (c.toNat ≤ 57) with
  | false =>
   have := dig_n hq
   rw [decide_eq_true (show dgt c.toNat 10 ≥ 10 from this)]; rfl
  | true =>
   rw [dig_y hq, cond_true]
   simp only [Bool.and_eq_true, decide_eq_true_eq] at hq
   rw [decide_eq_false (show ¬ (c.toNat : Int) - 48 ≥ 10 by omega), cond_false]
   rw [show v * 10 + ((c.toNat : Int) - 48) = 10 * v + ((c.toNat : Int) - 48) by omega]
   by_cases hl : 10 * v + ((c.toNat : Int) - 48) > l
   · rw [decide_eq_true hl, cond_true]
     cases hn : nuS cs (10 * v + ((c.toNat : Int) - 48)) with
     | none => rfl
     | some w =>
      have := nuS_le (by omega) hn
      simp only []
      rw [decide_eq_false (by omega)]; rfl
   · rw [decide_eq_false hl, cond_false]
     exact nu_dg cs _ (by omega) (by omega)
end Go.Proofs.YtpelignoebgkbaaGreatDoor
/- The reference's Number and ParseIP. -/
namespace Go.Proofs.YtpelignoebgkbaaGreatDoor
open Go.Am
set_option maxRecDepth 100000
/- AddrCalls: Number and decimal answer alike. -/
theorem nu_dec {l : Int} (h0 : 0 ≤ l) (h1 : l ≤ 255) (s : List UInt8) : (nuV l s).2 = (decF l s).2 ∧ ((decF l s).2 = true → (nuV l s).1 = (decF l s).1) := by
 have hd := nu_dg (l := l) s 0 (Int.le_refl _) h0
 cases s with
 | nil => exact ⟨rfl, fun h => by cases h⟩
 | cons c cs =>
  have hz : z1 (c :: cs) = (c == 48 && decide ((c :: cs).length > 1)) := by
   unfold z1
   by_cases g : (c :: cs).length > 1
   · rw [decide_eq_true g, decide_eq_true (show ((c :: cs).length : Int) > 1 by omega), cond_true, Bool.and_true]
     show ((c.toNat : Int) == 48) = (c == 48)
     rw [Bool.eq_iff_iff, beq_iff_eq, beq_iff_eq]
     constructor
     · intro e; apply UInt8.toNat_inj.1; show c.toNat = 48; omega
     · intro e; rw [e]; rfl
   · rw [decide_eq_false g, decide_eq_false (show ¬ ((c :: cs).length : Int) > 1 by omega), cond_false, Bool.and_false]
  unfold decF nuV
  rw [hz, show ((c :: cs) == ([] : List UInt8)) = false from rfl, Bool.false_or, show (c :: cs).getD 0 0 = c from rfl]
  cases hq : (c == 48 && decide ((c :: cs).length > 1)) with
  | true => rw [Bool.or_true, cond_true, cond_true]; exact ⟨rfl, fun h => by cases h⟩
  | false =>
   rw [Bool.or_false, cond_false]
   unfold dgV
   rw [hd]
   by_cases hl : (c :: cs).length > 10
   · rw [decide_eq_true hl, cond_true]
     have hc : c ≠ 48 := by
      intro e
      rw [e, decide_eq_true (show (48 :: cs).length > 1 by rw [e] at hl; omega)] at hq
      cases hq
     cases hn : nuS (c :: cs) 0 with
     | none => exact ⟨rfl, fun h => by cases h⟩
     | some w =>
      have hw : 255 < w := by
       unfold nuS at hn
       cases hg : decide (48 ≤ c.toNat) && decide (c.toNat ≤ 57) with
       | false => rw [hg] at hn; cases hn
       | true =>
        rw [hg, cond_true] at hn
        simp only [Bool.and_eq_true, decide_eq_true_eq] at hg
        have hne : c.toNat ≠ 48 := fun e => hc (UInt8.toNat_inj.1 e)
        have hp := nuS_pow cs _ w (by omega) hn
        have hl2 : 10 ≤ cs.length := by simp only [List.length_cons] at hl; omega
        have h10 : (10 : Int) ^ 10 ≤ 10 ^ cs.length := by
         have : (10 : Nat) ^ 10 ≤ 10 ^ cs.length := Nat.pow_le_pow_right (by decide) hl2
         exact_mod_cast this
        have hp10 : (10 : Int) ^ 10 = 10000000000 := by decide
        have h3 : 1 * (10 : Int) ^ cs.length ≤ (10 * 0 + ((c.toNat : Int) - 48)) * 10 ^ cs.length := Int.mul_le_mul_of_nonneg_right (by omega) (Int.pow_nonneg (by decide))
        omega
      simp only []
      rw [decide_eq_false (show ¬ w ≤ l by omega)]
      exact ⟨rfl, fun h => by cases h⟩
   · rw [decide_eq_false hl, cond_false]
     cases hn : nuS (c :: cs) 0 with
     | none => exact ⟨rfl, fun h => by cases h⟩
     | some w =>
      simp only []
      by_cases hw : w ≤ l
      · rw [decide_eq_true hw]
        exact ⟨by simp, fun _ => rfl⟩
      · rw [decide_eq_false hw]
        exact ⟨rfl, fun h => by cases h⟩
end Go.Proofs.YtpelignoebgkbaaGreatDoor
/- AddrCalls: the reference's Split: its loop. -/
namespace Go.Proofs.YtpelignoebgkbaaGreatDoor
open Go.Am
set_option maxRecDepth 100000
def splR (c : Int) : List UInt8 → List UInt8 → List (List UInt8)
 | [], cur => [cur]
 | x :: xs, cur => bif (x.toNat : Int) == c then cur :: splR c xs [] else splR c xs (cur ++ [x])
def sltOk (s : List UInt8) (es : List SV) (m : Nat) (fr i : Int) : Prop := s.length ≤ 1000000 ∧ m = es.length ∧ 0 ≤ fr ∧ fr ≤ i ∧ i ≤ s.length + 1 ∧ es.length ≤ i
def spE (s : List UInt8) (c : Int) (es : List SV) (fr i : Int) : List SV := bif decide (i ≤ s.length) then es ++ (splR c (s.drop i.toNat) ((s.drop fr.toNat).take (i.toNat - fr.toNat))).map SV.str else es
noncomputable def body72 : Code := Tryz.f22.body.getD .skip
noncomputable def c72 : Code := (loopAt 4 body72).getD .skip
noncomputable def sp_s : CSumm := fun args H => match args, H with
 | [.str s, .int .u8 c, .qs 0 1 0 m, .int .i64 fr, .int .i64 i], [(0, .seq 9 es)] => .ite (dec (sltOk s es m fr i))
   (.ret (.tup [.int .i64 2, .qs 1 1 0 (spE s c es fr i).length]) [(0, none), (1, some (.seq 9 (spE s c es fr i)))]) .fail
 | _, _ => .fail
def spM : List SV → HpL → Nat
 | [.str s, _, _, _, .int _ i], _ => ((s.length : Int) + 1 - i).toNat
 | _, _ => 0
noncomputable def e72 : LEnt := { ins := [0, 1, 5, 6, 7], outs := [5], keep := [], size := 35, code := c72, s := sp_s }
noncomputable def spN (N : Nat) (s : List UInt8) (c : Int) (es : List SV) (m : Nat) (fr i : Int) : CTree :=
 bif Nat.blt ((s.length : Int) + 1 - i).toNat N then bif dec (sltOk s es m fr i) then
  .ret (.tup [.int .i64 2, .qs 1 1 0 (spE s c es fr i).length]) [(0, none), (1, some (.seq 9 (spE s c es fr i)))] else .fail else .fail
noncomputable def lenD (k : Nat) : Bool := decide (k ≤ 9223372036854775807) && decide (k * Tryz.prog.types[9].bytes ≤ 140737488355328)
noncomputable def spA (N : Nat) (s : List UInt8) (c : Int) (es : List SV) (m : Nat) (fr i : Int) : CTree :=
 bif decide (0 ≤ fr) && decide (fr ≤ i) && decide (i ≤ s.length) then bif decide (m = es.length) then bif lenD (es.length + 1) then
  spN N s c (es ++ [.str ((s.drop fr.toNat).take (i.toNat - fr.toNat))]) (es.length + 1) (w64 (i + 1)) (w64 (i + 1)) else .fail else .fail else .fail
theorem sp_t (N : Nat) (s : List UInt8) (c : Int) (es : List SV) (m : Nat) (fr i : Int) : loopOnce Tryz.prog κ0 (fun _ => false) (ltab []) true 300 e72 { e72 with s := boundT spM sp_s N } c72 [.str s, .int .u8 c, .qs 0 1 0 m, .int .i64 fr, .int .i64 i] [(0, .seq 9 es)] =
 bif decide (i ≤ s.length) then bif i == s.length then spA N s c es m fr i else bif inB i s.length then bif ((s.getD i.toNat 0).toNat : Int) == c then spA N s c es m fr i else spN N s c es m fr (w64 (i + 1)) else .fail
 else .ret (.tup [.int .i64 2, .qs 0 1 0 m]) [] := by kernel_rfl
end Go.Proofs.YtpelignoebgkbaaGreatDoor
/- AddrCalls: the reference's Split: its loop, valid. -/
namespace Go.Proofs.YtpelignoebgkbaaGreatDoor
open Go.Am
set_option maxRecDepth 100000
theorem b9 : decide (Tryz.prog.types[9].bytes ≤ 1000) = true := by kernel_rfl
theorem lenD_t {k : Nat} (h : k ≤ 100000000000) : lenD k = true := by
 have h1 := of_decide_eq_true b9
 unfold lenD
 have h2 : k * Tryz.prog.types[9].bytes ≤ 100000000000 * 1000 := Nat.mul_le_mul h h1
 rw [decide_eq_true (by omega), decide_eq_true (by omega)]; rfl
theorem spx_exit {es : List SV} : ChainL Tryz.prog [(0, .seq 9 es)] (.tup [.int .i64 2, .qs 0 1 0 es.length]) [] (.tup [.int .i64 2, .qs 1 1 0 es.length]) [(0, none), (1, some (.seq 9 es))] := by
 refine .ren ⟨0, 1, by simp, by simp [namesS, namesL], fun x c hx => ?_, rfl, fun x => ?_⟩
 · simp only [updF] at hx
   have := HpL_get_some _ _ _ hx
   simp only [List.mem_cons, Prod.mk.injEq, List.not_mem_nil, or_false] at this
   obtain ⟨_, rfl⟩ := this
   simp [namesC]
 · match x with
   | 0 => rfl | 1 => rfl
   | x + 2 => simp only [updF, HpL.get, show ¬ (x + 2 = 1) by omega, show ¬ (x + 2 = 0) by omega, if_false, show Nat.beq 0 (x + 2) = false from nb_f (by omega), cond_false, Option.map_none]
theorem take_more {s : List UInt8} {a b : Nat} (h : a ≤ b) (hb : b < s.length) : (s.drop a).take (b - a) ++ [s.getD b 0] = (s.drop a).take (b + 1 - a) := by
 rw [show b + 1 - a = (b - a) + 1 by omega, List.take_add_one, List.getElem?_drop, show a + (b - a) = b by omega, List.getD_eq_getElem?_getD, List.getElem?_eq_getElem hb]; rfl
theorem spE_hit {s : List UInt8} {c : Int} {es : List SV} {fr i : Nat} (hi : i < s.length) (hc : (((s.getD i 0).toNat : Int) == c) = true) :
  spE s c es fr i = spE s c (es ++ [.str ((s.drop fr).take (i - fr))]) ((i + 1 : Nat) : Int) ((i + 1 : Nat) : Int) := by
 unfold spE
 rw [decide_eq_true (show ((i : Nat) : Int) ≤ s.length by omega), decide_eq_true (show ((i + 1 : Nat) : Int) ≤ s.length by omega), cond_true, cond_true]
 show es ++ (splR c (s.drop i) ((s.drop fr).take (i - fr))).map SV.str = _ ++ (splR c (s.drop (i + 1)) ((s.drop (i + 1)).take (i + 1 - (i + 1)))).map SV.str
 rw [getD_cons hi, splR, hc, cond_true, Nat.sub_self, List.take_zero, List.map_cons, List.append_assoc, List.singleton_append]
theorem spE_end {s : List UInt8} {c : Int} {es : List SV} {fr : Nat} :
  spE s c es fr (s.length : Nat) = spE s c (es ++ [.str ((s.drop fr).take (s.length - fr))]) ((s.length + 1 : Nat) : Int) ((s.length + 1 : Nat) : Int) := by
 unfold spE
 rw [decide_eq_true (show ((s.length : Nat) : Int) ≤ s.length by omega), decide_eq_false (show ¬ ((s.length + 1 : Nat) : Int) ≤ s.length by omega), cond_true, cond_false]
 show es ++ (splR c (s.drop s.length) ((s.drop fr).take (s.length - fr))).map SV.str = _
 rw [List.drop_length]; rfl
theorem spE_miss {s : List UInt8} {c : Int} {es : List SV} {fr i : Nat} (hf : fr ≤ i) (hi : i < s.length) (hc : (((s.getD i 0).toNat : Int) == c) = false) :
  spE s c es fr i = spE s c es fr ((i + 1 : Nat) : Int) := by
 unfold spE
 rw [decide_eq_true (show ((i : Nat) : Int) ≤ s.length by omega), decide_eq_true (show ((i + 1 : Nat) : Int) ≤ s.length by omega), cond_true, cond_true]
 show es ++ (splR c (s.drop i) ((s.drop fr).take (i - fr))).map SV.str = es ++ (splR c (s.drop (i + 1)) ((s.drop fr).take (i + 1 - fr))).map SV.str
 rw [getD_cons hi, splR, hc, cond_false, take_more hf hi]
theorem spA_ok {N : Nat} {s : List UInt8} {c : Int} {es : List SV} {fr i : Nat} (hs : s.length ≤ 1000000) (hf : fr ≤ i) (hi : i ≤ s.length) (he : es.length ≤ i) (hN : s.length + 1 - (i + 1) < N) :
  spA N s c es es.length fr i = .ret (.tup [.int .i64 2, .qs 1 1 0 (spE s c (es ++ [.str ((s.drop fr).take (i - fr))]) ((i + 1 : Nat) : Int) ((i + 1 : Nat) : Int)).length]) [(0, none), (1, some (.seq 9 (spE s c (es ++ [.str ((s.drop fr).take (i - fr))]) ((i + 1 : Nat) : Int) ((i + 1 : Nat) : Int))))] := by
 unfold spA
 rw [slB_ok (a := (fr : Int)) (b := (i : Int)) (n := (s.length : Int)) (by omega) (by omega) (by omega), cond_true, decide_eq_true rfl, cond_true, lenD_t (by omega), cond_true, show w64 ((i : Int) + 1) = ((i + 1 : Nat) : Int) from (w64_id (by omega) (by omega)).trans (by omega)]
 unfold spN
 rw [show Nat.blt ((s.length : Int) + 1 - ((i + 1 : Nat) : Int)).toNat N = true by rw [Nat.blt_eq]; omega, cond_true, dec_iff.2 ⟨hs, by rw [List.length_append, List.length_singleton], by omega, by omega, by omega, by rw [List.length_append, List.length_singleton]; omega⟩, cond_true]
 rfl
theorem sp_valid : ValidL Tryz.prog e72 := loop_valid5 (T := ltab []) (sp := true) (fuel := 300) (c := c72) (μ := spM) mixTry ltab_nil (show fillC (ltab []) c72 = c72 by kernel_rfl) (by
 intro N args H v' ups' hbt hr
 unfold e72 sp_s at hr
 simp only [] at hr
 split at hr
 · rename_i s c m fr i es
   rw [crun_ite] at hr
   cases hc : dec (sltOk s es m fr i) with
   | false => rw [hc] at hr; cases hr
   | true =>
    rw [hc, cond_true] at hr
    obtain ⟨hs, rfl, f0, f1, i1, he⟩ := dec_iff.1 hc
    have hN : Nat.blt ((s.length : Int) + 1 - i).toNat (N + 1) = true := hbt
    rw [Nat.blt_eq] at hN
    refine ⟨κ0, fun _ => false, κ0Ok, ?_⟩
    have ht := sp_t N s c es es.length fr i
    obtain ⟨f, rfl⟩ := Int.eq_ofNat_of_zero_le f0
    obtain ⟨k, rfl⟩ := Int.eq_ofNat_of_zero_le (show 0 ≤ i by omega)
    by_cases hi : (k : Int) ≤ s.length
    · rw [decide_eq_true hi, cond_true] at ht
      by_cases h2 : k = s.length
      · subst h2
        rw [show (((s.length : Nat) : Int) == (s.length : Int)) = true by simp, cond_true, spA_ok hs (by omega) (Nat.le_refl _) (by omega) (by omega)] at ht
        rw [spE_end] at hr
        exact ⟨v', ups', (congrArg crun ht).trans hr, .same fun _ => rfl⟩
      · rw [show ((k : Int) == (s.length : Int)) = false by rw [beq_eq_false_iff_ne]; omega, cond_false, inB_ok (by omega) (by omega), cond_true, show ((k : Nat) : Int).toNat = k from rfl] at ht
        cases h3 : ((s.getD k 0).toNat : Int) == c with
        | true =>
         rw [h3, cond_true, spA_ok hs (by omega) (by omega) (by omega) (by omega)] at ht
         rw [spE_hit (by omega) h3] at hr
         exact ⟨v', ups', (congrArg crun ht).trans hr, .same fun _ => rfl⟩
        | false =>
         rw [h3, cond_false, show w64 ((k : Int) + 1) = ((k + 1 : Nat) : Int) from (w64_id (by omega) (by omega)).trans (by omega)] at ht
         unfold spN at ht
         rw [show Nat.blt ((s.length : Int) + 1 - ((k + 1 : Nat) : Int)).toNat N = true by rw [Nat.blt_eq]; omega, cond_true, dec_iff.2 ⟨hs, rfl, by omega, by omega, by omega, by omega⟩, cond_true] at ht
         rw [spE_miss (by omega) (by omega) h3] at hr
         exact ⟨v', ups', (congrArg crun ht).trans hr, .same fun _ => rfl⟩
    · rw [decide_eq_false hi, cond_false] at ht
      have : spE s c es f k = es := by unfold spE; rw [decide_eq_false hi, cond_false]
      rw [this] at hr
      cases hr
      exact ⟨_, _, congrArg crun ht, spx_exit⟩
 · cases hr)
end Go.Proofs.YtpelignoebgkbaaGreatDoor
/- AddrCalls: the reference's Split, known; what it is by what stands before the first of a byte. -/
namespace Go.Proofs.YtpelignoebgkbaaGreatDoor
open Go.Am
set_option maxRecDepth 100000
abbrev fs72 : List (Option (Nat × Nat)) := [none, none, some (9, 1), none, none]
noncomputable def e72j : LEnt := { e72 with s := inN fs72 sp_s }
theorem sp_in : ValidL Tryz.prog e72j := loop_inN sp_valid (fs := fs72)
noncomputable abbrev T72 : LTab := ltab [("s", e72j)]
noncomputable abbrev m72 : Code := markC [(4, "s")] body72
noncomputable def spl_b : CSumm := bodyCL Tryz.prog κ0 (fun _ => false) T72 true 300 Tryz.f22 m72
theorem spl_k0 : Known Tryz.prog 22 spl_b := ⟨⟨Tryz.f22, Tryz.func22, noNum_at noNumTry Tryz.func22, rfl⟩, bodyL_valid κ0Ok mixTry (ltab_cons sp_in ltab_nil) Tryz.func22 (show Tryz.f22.body = some (fillC T72 m72) by kernel_rfl)⟩
theorem spl_t (s : List UInt8) (c : Int) : spl_b [.str s, .int .u8 c] [] = bif dec (sltOk s [] 0 0 0) then .ret (.qs 0 1 0 (spE s c [] 0 0).length) [(0, some (.seq 9 (spE s c [] 0 0)))] else .fail := by kernel_rfl
def spl (c : Int) (s : List UInt8) : List (List UInt8) := splR c s []
noncomputable def spl_s : CSumm := fun args H => match args, H with
 | [.str s, .int .u8 c], [] => .ite (decide (s.length ≤ 1000000)) (.ret (.psl 9 ((spl c s).map SV.str)) []) .fail
 | _, _ => .fail
theorem spl_k : Known Tryz.prog 22 spl_s := known_told spl_k0 (by
 intro args H v' ups' h
 unfold spl_s at h
 split at h
 · rename_i s c
   rw [crun_ite, cond_eq_ite] at h
   split at h
   · rename_i hc
     have hs := of_decide_eq_true hc
     have ht := spl_t s c
     have he : spE s c [] 0 0 = (spl c s).map SV.str := by
      unfold spE spl
      rw [decide_eq_true (by omega), cond_true]
      rfl
     rw [dec_iff.2 ⟨hs, rfl, Int.le_refl _, Int.le_refl _, by omega, by simp⟩, cond_true, he] at ht
     cases h
     refine ⟨_, _, congrArg crun ht, .inl ⟨0, 9, _, rfl, .qs rfl, fun x c' hx => ?_⟩⟩
     simp [updF, HpL.get] at hx
   · cases h
 · cases h)
theorem splR_cut (c : UInt8) : ∀ (s cur : List UInt8), splR (c.toNat : Int) s cur = (cur ++ (cutF c s).1) :: (bif (cutF c s).2.2 then splR (c.toNat : Int) (cutF c s).2.1 [] else [])
 | [], cur => by unfold splR cutF; simp
 | x :: xs, cur => by
  rw [splR, cutF]
  have : (((x.toNat : Nat) : Int) == (c.toNat : Int)) = (x == c) := by
   rw [Bool.eq_iff_iff, beq_iff_eq, beq_iff_eq]
   constructor
   · intro e; apply UInt8.toNat_inj.1; omega
   · intro e; rw [e]
  rw [this]
  cases x == c with
  | true => simp
  | false =>
   rw [cond_false, cond_false, splR_cut c xs]
   simp
theorem spl_cut (c : UInt8) (s : List UInt8) : spl (c.toNat : Int) s = (cutF c s).1 :: (bif (cutF c s).2.2 then spl (c.toNat : Int) (cutF c s).2.1 else []) := splR_cut c s []
theorem spF_spl (rd : List UInt8 → Int × Bool) (c : UInt8) : ∀ (m : Nat) (s : List UInt8), spF rd c m s = bif decide ((spl (c.toNat : Int) s).length = m) && (spl (c.toNat : Int) s).all (fun t => (rd t).2) then some ((spl (c.toNat : Int) s).map fun t => (rd t).1) else none
 | 0, s => by rw [spl_cut]; rfl
 | m + 1, s => by
  have ih := spF_spl rd c m (cutF c s).2.1
  unfold spF
  rw [ih, spl_cut c s]
  cases h1 : (rd (cutF c s).1).2 with
  | false => simp [h1]
  | true =>
   cases h2 : (cutF c s).2.2 with
   | false =>
    cases m with
    | zero => simp [h1]
    | succ m => simp
   | true =>
    simp only [Bool.not_true, cond_false, cond_true, List.length_cons, Nat.add_right_cancel_iff, List.all_cons, h1, Bool.true_and, List.map_cons]
    cases hq : decide ((spl (c.toNat : Int) (cutF c s).2.1).length = m) && (spl (c.toNat : Int) (cutF c s).2.1).all (fun t => (rd t).2) <;> rfl
end Go.Proofs.YtpelignoebgkbaaGreatDoor
/- The reference's Number and ParseIP. -/
namespace Go.Proofs.YtpelignoebgkbaaGreatDoor
open Go.Am
set_option maxRecDepth 100000
/- AddrCalls: the reference's ParseIP: its loop. -/
noncomputable abbrev κip := tbl [(22, spl_s), (66, num_s)]
theorem ipOk : KOk Tryz.prog κip := tbl_cons spl_k (tbl_cons num_k ok0)
def ipS (v n : Int) : Int := w32 (w32 (v * 256) + w32 n)
def ipL : List SV → Int → Option Int
 | [], v => some v
 | x :: xs, v => bif (nuV 255 (asS x)).2 then ipL xs (ipS v (nuV 255 (asS x)).1) else none
def ilOk (es : List SV) (v i : Int) : Prop := es.length ≤ 2000000 ∧ 0 ≤ i ∧ i ≤ es.length
noncomputable def body54 : Code := Tryz.f38.body.getD .skip
noncomputable def c54 : Code := (loopAt 4 body54).getD .skip
noncomputable def il_s : CSumm := fun args H => match args, H with
 | [.psl 9 es, .int .u32 v, .int .i64 i], [] => .ite (dec (ilOk es v i)) (.ite (ipL (es.drop i.toNat) v).isSome (.ret (.tup [.int .i64 2, .junk, .junk, .psl 9 es, .int .u32 ((ipL (es.drop i.toNat) v).getD 0)]) [])
   (.ret (.tup [.int .i64 1, .int .u32 0, .int .i64 19, .junk, .junk]) [])) .fail
 | _, _ => .fail
def ilM : List SV → HpL → Nat
 | [.psl _ es, _, .int _ i], _ => ((es.length : Int) - i).toNat
 | _, _ => 0
noncomputable def e54 : LEnt := { ins := [4, 5, 6], outs := [2, 3, 4, 5], keep := [], size := 36, code := c54, s := il_s }
noncomputable def ilN (N : Nat) (es : List SV) (v i : Int) : CTree := bif Nat.blt ((es.length : Int) - i).toNat N then bif dec (ilOk es v i) then bif (ipL (es.drop i.toNat) v).isSome then (.ret (.tup [.int .i64 2, .junk, .junk, .psl 9 es, .int .u32 ((ipL (es.drop i.toNat) v).getD 0)]) [])
      else (.ret (.tup [.int .i64 1, .int .u32 0, .int .i64 19, .junk, .junk]) []) else .fail else .fail
noncomputable def ilX (N : Nat) (es : List SV) (v i : Int) (x : SV) : CTree := bif !(nuV 255 (asS x)).2 then .ret (.tup [.int .i64 1, .int .u32 0, .int .i64 19, .psl 9 es, .int .u32 v]) [] else
 ilN N es (ipS v (nuV 255 (asS x)).1) (w64 (i + 1))
theorem il_t (N : Nat) (es : List SV) (v i : Int) : loopOnce Tryz.prog (openT Tryz.prog κip 300 5) (fun _ => false) (ltab []) true 300 e54 { e54 with s := boundT ilM il_s N } c54 [.psl 9 es, .int .u32 v, .int .i64 i] [] =
 bif decide (i < es.length) then bif inB i es.length then ilX N es v i (es.getD i.toNat .junk) else .fail else .ret (.tup [.int .i64 2, .junk, .junk, .psl 9 es, .int .u32 v]) [] := by kernel_rfl
end Go.Proofs.YtpelignoebgkbaaGreatDoor
/- Scripts: the chapter's examples, carried out. -/
namespace Go.Proofs.YtpelignoebgkbaaGreatDoor
open Go.Am
set_option maxRecDepth 100000
def sq1 : Option Code → Code
 | some (.seq a _) => a
 | _ => .skip
def sq2 : Option Code → Code
 | some (.seq _ b) => b
 | _ => .skip
noncomputable def lnA : Code := sq1 Tryz.f6.body
noncomputable def lnD : Code := sq1 (some (sq2 Tryz.f6.body))
noncomputable def lnB : Code := sq2 (some (sq2 Tryz.f6.body))
noncomputable def lcR : Code := sq1 Tryz.f13.body
noncomputable def lcB : Code := sq2 Tryz.f13.body
def rgO (c : Code) (i : Nat) : Oper := match c with
 | .region _ ops _ => match ops[i]? with
  | some o => o
  | none => { dst := none, op := .alloc 0, type := 0, pos := "", after := #[], guard := none }
 | _ => { dst := none, op := .alloc 0, type := 0, pos := "", after := #[], guard := none }
def opC : Op → Call
 | .call c => c
 | .defer c => c
 | _ => { callee := .builtin .recover, args := #[], argTypes := #[] }
abbrev caps3 : List Operand := [.tmp 2, .tmp 3, .tmp 4]
theorem dfr15 : Dfr Tryz.prog Tryz.f6 lnA lnB 6 13 caps3 := ⟨1, rgO lnD 0, rgO lnD 1, opC (rgO lnD 1).op, by kernel_rfl, by kernel_rfl, by kernel_rfl, by kernel_rfl, by kernel_rfl, by kernel_rfl, by kernel_rfl, by kernel_rfl, by kernel_rfl⟩
theorem clo31 : Clo Tryz.prog 13 Tryz.f13 lcB 6 3 := ⟨Tryz.func13, by kernel_rfl, ⟨0, rgO lcR 0, rgO lcR 1, opC (rgO lcR 0).op, by kernel_rfl, by kernel_rfl, by kernel_rfl, by kernel_rfl, by kernel_rfl, by kernel_rfl, by kernel_rfl, by kernel_rfl, by kernel_rfl⟩, of_decide_eq_true (by kernel_rfl), of_decide_eq_true (by kernel_rfl), of_decide_eq_true (by kernel_rfl)⟩
noncomputable def lineC : CSumm := deferC Tryz.prog (closedS Tryz.prog 300 12) Tryz.f6 Tryz.f13 lnA lnB lcB 6 13 6 3 caps3
theorem lineC_k : Known Tryz.prog 6 lineC := ⟨⟨Tryz.f6, Tryz.func6, noNum_at noNumTry Tryz.func6, rfl⟩, defer_valid (closed_ok noNumTry mixTry 300 12) Tryz.func6 dfr15 clo31⟩
theorem lives_k : Known Tryz.prog 4 (constS (.bool true)) := known_closedT (fuel := 300) (n := 12) noNumTry mixTry (tbl_cons lineC_k ok0) Tryz.func4 rfl (by kernel_rfl)
end Go.Proofs.YtpelignoebgkbaaGreatDoor
