/- Scripts: what raises: 'fail'; the loops of 'number'. -/
import Derived.Test.YtpelignoebgkbaaGreatDoorPart4
import Derived.Test.YtpelignoebgkbaaGreatDoorMachine8
import Derived.Test.YtpelignoebgkbaaGreatDoorPart2
set_option linter.unusedVariables false
set_option linter.unusedSimpArgs false
namespace Go.Proofs.YtpelignoebgkbaaGreatDoor
open Go.Am
set_option maxRecDepth 100000
def κe : Nat → Option CSumm := fun _ => none
theorem κeOk : KOk Tryz.prog κe := ⟨(fun _ _ h => by cases h), (fun _ _ h => by cases h)⟩
def flt (e a : Int) : SV := .iface 43 (.agg [.int .i64 e, .int .i64 a])
def fail_s : CSumm
 | [.int .i64 e, .int .i64 a], [] => .ret (.tup [.bool false, flt e a]) []
 | _, _ => .fail
theorem fail_t (e a : Int) : bodyX Tryz.prog κe (tbl []) (ltab []) 300 Tryz.f15 (Tryz.f15.body.getD .skip) [.int .i64 e, .int .i64 a] [] = .ret (.tup [.bool false, flt e a]) [] := by kernel_rfl
theorem fail_k : KnownX Tryz.prog 15 fail_s := knownX_of_body noNumTry mixTry κeOk xtbl_nil lokp_nil Tryz.func15 (show Tryz.f15.body = some (fillC (ltab []) (Tryz.f15.body.getD .skip)) by kernel_rfl) (fuel := 300) (by
 intro args H v ups h
 unfold fail_s at h
 split at h
 · exact (congrArg crun (fail_t _ _)).trans h
 · cases h)
noncomputable abbrev πF : Nat → Option CSumm := tbl [(15, fail_s)]
theorem πFok : XOk Tryz.prog πF := xtbl_cons fail_k xtbl_nil
noncomputable def body71 : Code := Tryz.f55.body.getD .skip
noncomputable def c71a : Code := (loopAt 4 body71).getD .skip
noncomputable def c71b : Code := (loopAt 11 body71).getD .skip
def notDig (c : SV) : Bool := bif decide (asI c < 48) then true else decide (asI c > 57)
def alldig : List SV → Bool
 | [] => true
 | c :: cs => bif notDig c then false else alldig cs
def naOk (es : List SV) (n : Nat) (m i : Int) : Prop := n = es.length ∧ m = es.length ∧ 0 ≤ i ∧ i ≤ es.length ∧ es.length < 4000000000
noncomputable def na_s : CSumm := fun args H => match args, H with
 | [.qs 0 1 0 n, .int .i64 m, .int .i64 i, .ptr 1 0], [(0, .seq 5 es), (1, .cells 76 [.str _, .int .i64 a])] => .ite (dec (naOk es n m i)) (.ite (alldig (es.drop i.toNat)) (.ret (.tup [.int .i64 2, .ptr 1 0, .junk]) [])
   (.ret (.tup [.int .i64 1000042, .ptr 1 0, flt 19 a]) [])) .fail
 | _, _ => .fail
def naM : List SV → HpL → Nat
 | [_, .int _ m, .int _ i, _], _ => (m - i).toNat
 | _, _ => 0
noncomputable def e71a : LEnt := { ins := [26, 27, 28, 2], outs := [2, 40], keep := [1], size := 68, code := c71a, s := na_s }
def naT : CTree := .ret (.tup [.int .i64 2, .ptr 1 0, .junk]) []
def naF (a : Int) : CTree := .ret (.tup [.int .i64 1000042, .ptr 1 0, flt 19 a]) []
noncomputable def naN (N : Nat) (es : List SV) (n : Nat) (m i a : Int) : CTree := bif Nat.blt (m - i).toNat N then bif dec (naOk es n m i) then bif alldig (es.drop i.toNat) then naT else naF a else .fail else .fail
theorem na_t (N : Nat) (es : List SV) (n : Nat) (m i a : Int) (s : List UInt8) : loopOnceP Tryz.prog κe πF [] (ltab []) 300 e71a { e71a with s := boundT naM na_s N } c71a [.qs 0 1 0 n, .int .i64 m, .int .i64 i, .ptr 1 0] [(0, .seq 5 es), (1, .cells 76 [.str s, .int .i64 a])] =
 bif decide (i < m) then bif inB i n then bif decide (0 + i.toNat < es.length) then
  bif decide (asI (es.getD (0 + i.toNat) .junk) < 48) then naF a else bif decide (asI (es.getD (0 + i.toNat) .junk) > 57) then naF a else naN N es n m (w64 (i + 1)) a
 else .fail else .fail else naT := by kernel_rfl
theorem getD_cons' {es : List SV} {k : Nat} (h : k < es.length) : es.drop k = es.getD k .junk :: es.drop (k + 1) := by
 rw [List.drop_eq_getElem_cons h]
 simp [List.getD_eq_getElem?_getD, h]
theorem na_valid : ValidLP Tryz.prog [] e71a := loopP_valid (T := ltab []) (fuel := 300) (c := c71a) (μ := naM) κeOk πFok mixTry lokp_nil (show fillC (ltab []) c71a = c71a by kernel_rfl) (by
 intro N args H r hbt h
 unfold e71a na_s at h
 simp only [] at h
 split at h
 · rename_i n m i es s a
   rw [crun_ite] at h
   cases hc : dec (naOk es n m i) with
   | false => rw [hc] at h; cases h
   | true =>
    rw [hc, cond_true, crun_ite] at h
    obtain ⟨rfl, rfl, i0, i1, hl⟩ := dec_iff.1 hc
    have hN : Nat.blt ((es.length : Int) - i).toNat (N + 1) = true := hbt
    rw [Nat.blt_eq] at hN
    have ht := na_t N es es.length es.length i a s
    obtain ⟨k, rfl⟩ := Int.eq_ofNat_of_zero_le i0
    have hk : ((k : Nat) : Int).toNat = k := rfl
    rw [hk] at h ht
    refine (congrArg crun ht).trans ?_
    by_cases hi : (k : Int) < es.length
    · have hkl : k < es.length := by omega
      rw [decide_eq_true hi, cond_true, inB_ok (by omega) (by omega), cond_true, Nat.zero_add, decide_eq_true hkl, cond_true, show w64 ((k : Int) + 1) = ((k + 1 : Nat) : Int) from (w64_id (by omega) (by omega)).trans (by omega)]
      rw [getD_cons' hkl, alldig] at h
      unfold notDig at h
      cases h1 : decide (asI (es.getD k .junk) < 48) with
      | true => rw [h1] at h; exact h
      | false =>
       rw [h1, cond_false] at h
       rw [cond_false]
       cases h2 : decide (asI (es.getD k .junk) > 57) with
       | true => rw [h2] at h; exact h
       | false =>
        rw [h2, cond_false] at h
        rw [cond_false]
        unfold naN
        rw [show Nat.blt ((es.length : Int) - ((k + 1 : Nat) : Int)).toNat N = true by rw [Nat.blt_eq]; omega, cond_true, dec_iff.2 ⟨rfl, rfl, by omega, by omega, hl⟩, cond_true, show ((k + 1 : Nat) : Int).toNat = k + 1 from rfl]
        rw [crun_cond]
        exact h
    · rw [decide_eq_false hi, cond_false]
      have : es.drop k = [] := List.drop_eq_nil_of_le (by omega)
      rw [this] at h
      exact h
 · cases h)
/- The second loop: the value; where it grows too great, what it was. -/
def accS (most : Int) : List SV → Int → Bool × Int
 | [], v => (true, v)
 | c :: cs, v => bif decide (v > (IntKind.u64.wrap ((IntKind.u64.wrap (most - (IntKind.u64.wrap (w8 (asI c - 48))))).tdiv 10))) then (false, v) else accS most cs (IntKind.u64.wrap (IntKind.u64.wrap (v * 10) + IntKind.u64.wrap (w8 (asI c - 48))))
def nbT (v : Int) : CTree := .ret (.tup [.int .i64 4, .int .u64 v, .junk]) []
def nbF (v a : Int) : CTree := .ret (.tup [.int .i64 1000063, .int .u64 v, flt 2 a]) []
noncomputable def nb_s : CSumm := fun args H => match args, H with
 | [.qs 0 1 0 n, .int .i64 m, .int .i64 i, .int .u64 v, .int .u64 most, .ptr 1 0], [(0, .seq 5 es), (1, .cells 76 [.str _, .int .i64 a])] => .ite (dec (naOk es n m i)) (.ite (accS most (es.drop i.toNat) v).1 (nbT (accS most (es.drop i.toNat) v).2) (nbF (accS most (es.drop i.toNat) v).2 a)) .fail
 | _, _ => .fail
def nbM : List SV → HpL → Nat
 | _ :: .int _ m :: .int _ i :: _, _ => (m - i).toNat
 | _, _ => 0
noncomputable def e71b : LEnt := { ins := [44, 45, 46, 7, 1, 2], outs := [7, 61], keep := [], size := 68, code := c71b, s := nb_s }
noncomputable def nbN (N : Nat) (es : List SV) (n : Nat) (m i v most a : Int) : CTree := bif Nat.blt (m - i).toNat N then bif dec (naOk es n m i) then bif (accS most (es.drop i.toNat) v).1 then nbT (accS most (es.drop i.toNat) v).2 else nbF (accS most (es.drop i.toNat) v).2 a else .fail else .fail
theorem nb_t (N : Nat) (es : List SV) (n : Nat) (m i v most a : Int) (s : List UInt8) : loopOnceP Tryz.prog κe πF [] (ltab []) 300 e71b { e71b with s := boundT nbM nb_s N } c71b [.qs 0 1 0 n, .int .i64 m, .int .i64 i, .int .u64 v, .int .u64 most, .ptr 1 0] [(0, .seq 5 es), (1, .cells 76 [.str s, .int .i64 a])] =
 bif decide (i < m) then bif inB i n then bif decide (0 + i.toNat < es.length) then
  bif decide (v > (IntKind.u64.wrap ((IntKind.u64.wrap (most - (IntKind.u64.wrap (w8 (asI (es.getD (0 + i.toNat) .junk) - 48))))).tdiv 10))) then nbF v a else nbN N es n m (w64 (i + 1)) (IntKind.u64.wrap (IntKind.u64.wrap (v * 10) + IntKind.u64.wrap (w8 (asI (es.getD (0 + i.toNat) .junk) - 48)))) most a
 else .fail else .fail else nbT v := by kernel_rfl
theorem nb_valid : ValidLP Tryz.prog [] e71b := loopP_valid (T := ltab []) (fuel := 300) (c := c71b) (μ := nbM) κeOk πFok mixTry lokp_nil (show fillC (ltab []) c71b = c71b by kernel_rfl) (by
 intro N args H r hbt h
 unfold e71b nb_s at h
 simp only [] at h
 split at h
 · rename_i n m i v most es s a
   rw [crun_ite] at h
   cases hc : dec (naOk es n m i) with
   | false => rw [hc] at h; cases h
   | true =>
    rw [hc, cond_true, crun_ite] at h
    obtain ⟨rfl, rfl, i0, i1, hl⟩ := dec_iff.1 hc
    have hN : Nat.blt ((es.length : Int) - i).toNat (N + 1) = true := hbt
    rw [Nat.blt_eq] at hN
    have ht := nb_t N es es.length es.length i v most a s
    obtain ⟨k, rfl⟩ := Int.eq_ofNat_of_zero_le i0
    have hk : ((k : Nat) : Int).toNat = k := rfl
    rw [hk] at h ht
    refine (congrArg crun ht).trans ?_
    by_cases hi : (k : Int) < es.length
    · have hkl : k < es.length := by omega
      rw [decide_eq_true hi, cond_true, inB_ok (by omega) (by omega), cond_true, Nat.zero_add, decide_eq_true hkl, cond_true, show w64 ((k : Int) + 1) = ((k + 1 : Nat) : Int) from (w64_id (by omega) (by omega)).trans (by omega)]
      rw [getD_cons' hkl, accS] at h
      generalize hq : decide (v > (IntKind.u64.wrap ((IntKind.u64.wrap (most - (IntKind.u64.wrap (w8 (asI (es.getD k .junk) - 48))))).tdiv 10))) = q at h ⊢
      cases q with
      | true => exact h
      | false =>
       simp only [cond_false] at h ⊢
       unfold nbN
       rw [show Nat.blt ((es.length : Int) - ((k + 1 : Nat) : Int)).toNat N = true by rw [Nat.blt_eq]; omega, cond_true, dec_iff.2 ⟨rfl, rfl, by omega, by omega, hl⟩, cond_true, show ((k + 1 : Nat) : Int).toNat = k + 1 from rfl]
       rw [crun_cond]
       exact h
    · rw [decide_eq_false hi, cond_false]
      have : es.drop k = [] := List.drop_eq_nil_of_le (by omega)
      rw [this] at h
      exact h
 · cases h)
noncomputable abbrev T71 : LTab := ltab [("a", e71a), ("b", e71b)]
noncomputable abbrev m71 : Code := markC [(4, "a"), (11, "b")] body71
theorem fill71 : Tryz.f55.body = some (fillC T71 m71) := by kernel_rfl
noncomputable def number_b : CSumm := bodyX Tryz.prog κe πF T71 300 Tryz.f55 m71
theorem number_k0 : KnownX Tryz.prog 55 number_b := knownX_of_body noNumTry mixTry κeOk πFok (lokp_cons na_valid (lokp_cons nb_valid lokp_nil)) Tryz.func55 fill71 (fuel := 300) (fun _ _ _ _ h => h)
end Go.Proofs.YtpelignoebgkbaaGreatDoor
/- Scripts: numbers. -/
namespace Go.Proofs.YtpelignoebgkbaaGreatDoor
open Go.Am
set_option maxRecDepth 100000
def digB (b : UInt8) : Bool := decide (48 ≤ b.toNat) && decide (b.toNat ≤ 57)
def accN (most : Int) : List UInt8 → Int → Bool × Int
 | [], v => (true, v)
 | b :: bs, v => if v > (most - ((b.toNat : Int) - 48)) / 10 then (false, v) else accN most bs (v * 10 + ((b.toNat : Int) - 48))
def numV (most : Int) (s : List UInt8) : Int × Int :=
 if s.length > 1 ∧ s.getD 0 0 = 48 then (19, 0) else if s.all digB then (if (accN most s 0).1 then (0, (accN most s 0).2) else (2, 0)) else (19, 0)
theorem alldig_eq : ∀ (s : List UInt8), alldig (s.map byteSV) = s.all digB
 | [] => rfl
 | b :: s => by
  simp only [List.map_cons, alldig, List.all_cons, alldig_eq s]
  have e : asI (byteSV b) = (b.toNat : Int) := rfl
  unfold notDig digB
  rw [e]
  by_cases h1 : (b.toNat : Int) < 48
  · rw [decide_eq_true h1, decide_eq_false (show ¬ 48 ≤ b.toNat by omega)]; rfl
  · rw [decide_eq_false h1, decide_eq_true (show 48 ≤ b.toNat by omega)]
    by_cases h2 : (b.toNat : Int) > 57
    · rw [decide_eq_true h2, decide_eq_false (show ¬ b.toNat ≤ 57 by omega)]; rfl
    · rw [decide_eq_false h2, decide_eq_true (show b.toNat ≤ 57 by omega)]; rfl
theorem wu64_id {n : Int} (h1 : 0 ≤ n) (h2 : n ≤ 18446744073709551615) : IntKind.u64.wrap n = n := by
 simp [IntKind.wrap, IntKind.bits, IntKind.signed]; omega
theorem accS_eq {most : Int} (h9 : 9 ≤ most) (hm : most ≤ 9223372036854775807) : ∀ (s : List UInt8) (v : Int), s.all digB = true → 0 ≤ v → v ≤ most → accS most (s.map byteSV) v = accN most s v
 | [], _, _, _, _ => rfl
 | b :: s, v, h, h0, h1 => by
  simp only [List.all_cons, Bool.and_eq_true] at h
  have hd := h.1
  unfold digB at hd
  simp only [Bool.and_eq_true, decide_eq_true_eq] at hd
  simp only [List.map_cons, accS, accN]
  have e : asI (byteSV b) = (b.toNat : Int) := rfl
  have e1 : IntKind.u64.wrap (w8 (asI (byteSV b) - 48)) = (b.toNat : Int) - 48 := by
   rw [e, show w8 ((b.toNat : Int) - 48) = (b.toNat : Int) - 48 from w8_id (by omega) (by omega)]
   exact wu64_id (by omega) (by omega)
  rw [e1, wu64_id (n := most - ((b.toNat : Int) - 48)) (by omega) (by omega)]
  have e2 : (most - ((b.toNat : Int) - 48)).tdiv 10 = (most - ((b.toNat : Int) - 48)) / 10 := Int.tdiv_eq_ediv_of_nonneg (by omega)
  rw [e2, wu64_id (n := (most - ((b.toNat : Int) - 48)) / 10) (by omega) (by omega)]
  by_cases hv : v > (most - ((b.toNat : Int) - 48)) / 10
  · rw [decide_eq_true hv, if_pos hv]; rfl
  · rw [decide_eq_false hv, if_neg hv, cond_false, wu64_id (n := v * 10) (by omega) (by omega), wu64_id (n := v * 10 + ((b.toNat : Int) - 48)) (by omega) (by omega)]
    exact accS_eq h9 hm s _ h.2 (by omega) (by omega)
theorem accN_le {most : Int} : ∀ (s : List UInt8) (v : Int), s.all digB = true → 0 ≤ v → v ≤ most → 0 ≤ (accN most s v).2 ∧ (accN most s v).2 ≤ most
 | [], _, _, h0, h1 => ⟨h0, h1⟩
 | b :: s, v, h, h0, h1 => by
  simp only [List.all_cons, Bool.and_eq_true] at h
  have hd := h.1
  unfold digB at hd
  simp only [Bool.and_eq_true, decide_eq_true_eq] at hd
  simp only [accN]
  split
  · exact ⟨h0, h1⟩
  · exact accN_le s _ h.2 (by omega) (by omega)
def numOk (most : Int) (s : List UInt8) : Prop := s.length < 4000000000 ∧ 9 ≤ most ∧ most ≤ 9223372036854775807
noncomputable def number_s : CSumm := fun args H => match args, H with
 | [.agg [.str s, .int .i64 a], .int .u64 most], [] => .ite (dec (numOk most s)) (.ite ((numV most s).1 == 0) (.ret (.tup [.bool true, .int .u64 (numV most s).2]) []) (.ret (.tup [.bool false, flt (numV most s).1 a]) [])) .fail
 | _, _ => .fail
noncomputable def nuL (a most : Int) (s : List UInt8) : CTree :=
 bif dec (naOk (s.map byteSV) s.length s.length 0) then
  bif alldig ((s.map byteSV).drop (0 : Int).toNat) then
   bif dec (naOk (s.map byteSV) s.length s.length 0) then
    bif (accS most ((s.map byteSV).drop (0 : Int).toNat) 0).1 then .ret (.tup [.bool true, .int .u64 (accS most ((s.map byteSV).drop (0 : Int).toNat) 0).2]) []
    else .ret (.tup [.bool false, flt 2 a]) []
   else .fail
  else .ret (.tup [.bool false, flt 19 a]) []
 else .fail
theorem number_t (a most : Int) (s : List UInt8) : number_b [.agg [.str s, .int .i64 a], .int .u64 most] [] =
 bif decide ((s.length : Int) > 1) then bif inB 0 s.length then bif ((s.getD (0 : Int).toNat 0).toNat : Int) == 48 then .ret (.tup [.bool false, flt 19 a]) [] else nuL a most s else .fail else nuL a most s := by kernel_rfl
theorem nuL_eq {a most : Int} {s : List UInt8} (h : numOk most s) : nuL a most s = bif s.all digB then bif (accN most s 0).1 then .ret (.tup [.bool true, .int .u64 (accN most s 0).2]) [] else .ret (.tup [.bool false, flt 2 a]) [] else .ret (.tup [.bool false, flt 19 a]) [] := by
 obtain ⟨h1, h2, h3⟩ := h
 unfold nuL
 rw [dec_iff.2 ⟨by simp, by simp, Int.le_refl _, by omega, by simpa using h1⟩, cond_true, cond_true, show (s.map byteSV).drop (0 : Int).toNat = s.map byteSV from rfl, alldig_eq]
 cases hd : s.all digB with
 | false => rfl
 | true => rw [accS_eq h2 h3 s 0 hd (Int.le_refl _) (by omega)]
theorem number_k : KnownX Tryz.prog 55 number_s := ⟨number_k0.fn, fun args H b v ups h => by
 refine number_k0.ok args H b v ups ?_
 unfold number_s at h
 split at h
 · rename_i s a most
   rw [crun_ite] at h
   cases hc : dec (numOk most s) with
   | false => rw [hc] at h; cases h
   | true =>
    rw [hc, cond_true, crun_ite] at h
    have hok := dec_iff.1 hc
    refine (congrArg crun (number_t a most s)).trans ?_
    rw [nuL_eq hok]
    unfold numV at h
    by_cases h1 : s.length > 1
    · rw [decide_eq_true (show (s.length : Int) > 1 by omega), cond_true, inB_ok (by omega) (by omega), cond_true]
      by_cases h2 : s.getD 0 0 = 48
      · have e : ((s.getD (0 : Int).toNat 0).toNat : Int) == 48 := by
          show ((s.getD 0 0).toNat : Int) == 48
          rw [h2]; rfl
        rw [e, cond_true]
        rw [if_pos ⟨h1, h2⟩] at h
        exact h
      · have e : (((s.getD (0 : Int).toNat 0).toNat : Int) == 48) = false := by
          show (((s.getD 0 0).toNat : Int) == 48) = false
          rw [beq_eq_false_iff_ne]
          intro e
          exact h2 (UInt8.toNat_inj.1 (by show (s.getD 0 0).toNat = 48; omega))
        rw [e, cond_false]
        rw [if_neg (fun hh => h2 hh.2)] at h
        cases hd : s.all digB with
        | false => rw [hd] at h; simp only [Bool.false_eq_true, if_false] at h; exact h
        | true =>
         rw [hd] at h
         simp only [if_true, cond_true] at h ⊢
         cases hq : (accN most s 0).1 with
         | true => rw [hq] at h; simp only [if_true, cond_true] at h ⊢; exact h
         | false => rw [hq] at h; simp only [Bool.false_eq_true, if_false, cond_false] at h ⊢; exact h
    · rw [decide_eq_false (show ¬ (s.length : Int) > 1 by omega), cond_false]
      rw [if_neg (fun hh => h1 hh.1)] at h
      cases hd : s.all digB with
      | false => rw [hd] at h; simp only [Bool.false_eq_true, if_false] at h; exact h
      | true =>
       rw [hd] at h
       simp only [if_true, cond_true] at h ⊢
       cases hq : (accN most s 0).1 with
       | true => rw [hq] at h; simp only [if_true, cond_true] at h ⊢; exact h
       | false => rw [hq] at h; simp only [Bool.false_eq_true, if_false, cond_false] at h ⊢; exact h
 · cases h⟩
end Go.Proofs.YtpelignoebgkbaaGreatDoor
/- Scripts: words are read into a command: the functions by kind. -/
namespace Go.Proofs.YtpelignoebgkbaaGreatDoor
open Go.Am
set_option maxRecDepth 100000
noncomputable abbrev πN : Nat → Option CSumm := tbl [(15, fail_s), (55, number_s)]
theorem πNok : XOk Tryz.prog πN := xtbl_cons fail_k (xtbl_cons number_k xtbl_nil)
noncomputable abbrev κA : Nat → Option CSumm := tbl [(62, pmac_s), (64, pip_s)]
theorem κAok : KOk Tryz.prog κA := tbl_cons pmac_k (tbl_cons pip_k ok0)
structure Cmd where
 k : Int
 a : Int
 b : Int
 c : Int
 up : Bool
 m : Int
 i : Int
 d : Int
def Cmd.cs (x : Cmd) : List SV := [.int .i64 x.k, .int .i64 x.a, .int .i64 x.b, .int .i64 x.c, .bool x.up, .int .u64 x.m, .int .u32 x.i, .int .u64 x.d]
def cmdH (cs : List SV) : HpL := [(0, .cells 55 [.ptr 1 0]), (1, .cells 27 cs)]
def sUp : List UInt8 := [117, 112]
def sDown : List UInt8 := [100, 111, 119, 110]
def sAll : List UInt8 := [97, 108, 108]
def sNone : List UInt8 := [110, 111, 110, 101]
def rdW (q : Nat) (s : List UInt8) (x : Cmd) : Int × Cmd :=
 match q with
 | 0 => ((numV 1000000000 s).1, { x with a := (numV 1000000000 s).2 })
 | 1 => ((numV 1000000000 s).1, { x with b := (numV 1000000000 s).2 })
 | 2 => if s = sNone then (0, { x with b := -1 }) else ((numV 1000000000 s).1, { x with b := (numV 1000000000 s).2 })
 | 3 => ((numV 65535 s).1, { x with b := (numV 65535 s).2 })
 | 4 => if s = sUp then (0, { x with up := true }) else if s = sDown then (0, { x with up := false }) else (19, x)
 | 5 => if s = sAll then (0, { x with m := 281474976710655 }) else if (pmacV s).2 = 0 then (0, { x with m := (pmacV s).1 }) else (19, x)
 | 6 => if (pipV s).2 = 0 then (0, { x with i := (pipV s).1 }) else (19, x)
 | _ => ((numV 9223372036854775807 s).1, { x with d := (numV 9223372036854775807 s).2 })
def wdE (e a : Int) : CTree := .ret (.tup [.bool false, flt e a]) []
def wdR (r : Int × Cmd) (a : Int) : CTree := bif r.1 == 0 then .ret (.tup [.bool true, .tup []]) [(1, some (.cells 27 r.2.cs))] else wdE r.1 a
noncomputable def wd_s (q : Nat) : CSumm := fun args H => match args, H with
 | [.agg [.str s, .int .i64 a], .ptr 0 0], [(0, .cells 55 [.ptr 1 0]), (1, .cells 27 [.int .i64 k, .int .i64 ca, .int .i64 b, .int .i64 c, .bool up, .int .u64 m, .int .u32 i, .int .u64 d])] =>
  .ite (dec (s.length ≤ 1000000)) (.ite ((rdW q s ⟨k, ca, b, c, up, m, i, d⟩).1 == 0) (.ret (.tup [.bool true, .tup []]) [(1, some (.cells 27 (rdW q s ⟨k, ca, b, c, up, m, i, d⟩).2.cs))]) (.ret (.tup [.bool false, flt (rdW q s ⟨k, ca, b, c, up, m, i, d⟩).1 a]) [])) .fail
 | _, _ => .fail
noncomputable abbrev bX (fn : Func) : CSumm := bodyX Tryz.prog κA πN (ltab []) 300 fn (fn.body.getD .skip)
theorem bX_known {f : FuncId} {fn : Func} (hf : Tryz.prog.funcs[f]? = some fn) (hb : fn.body = some (fillC (ltab []) (fn.body.getD .skip))) : KnownX Tryz.prog f (bX fn) := knownX_of_body noNumTry mixTry κAok πNok lokp_nil hf hb (fuel := 300) (fun _ _ _ _ h => h)
theorem wd_known {f : FuncId} {q : Nat} {fn : Func} (hf : Tryz.prog.funcs[f]? = some fn) (hb : fn.body = some (fillC (ltab []) (fn.body.getD .skip)))
  (h : ∀ (s : List UInt8) (a : Int) (x : Cmd), s.length ≤ 1000000 → crun (bX fn [.agg [.str s, .int .i64 a], .ptr 0 0] (cmdH x.cs)) = crun (wdR (rdW q s x) a)) : KnownX Tryz.prog f (wd_s q) :=
 ⟨(bX_known hf hb).fn, fun args H b v ups hr => (bX_known hf hb).ok args H b v ups (by
  unfold wd_s at hr
  split at hr
  · rename_i s a k ca b c up m i d
    rw [crun_ite] at hr
    cases hc : dec (s.length ≤ 1000000) with
    | false => rw [hc] at hr; cases hr
    | true =>
     rw [hc, cond_true, crun_ite] at hr
     refine (h s a ⟨k, ca, b, c, up, m, i, d⟩ (dec_iff.1 hc)).trans ?_
     unfold wdR
     rw [crun_cond]
     exact hr
  · cases hr)⟩
noncomputable def numT (most : Int) (s : List UInt8) (a : Int) (K : Int → CTree) : CTree :=
 bif dec (numOk most s) then bif (numV most s).1 == 0 then bif dec (numOk most s) then bif (numV most s).1 == 0 then K (numV most s).2 else .fail else .fail else wdE (numV most s).1 a else .fail
theorem numT_eq {most : Int} {s : List UInt8} (h : numOk most s) (a : Int) (K : Int → CTree) : numT most s a K = bif (numV most s).1 == 0 then K (numV most s).2 else wdE (numV most s).1 a := by
 unfold numT
 rw [dec_iff.2 h]
 cases (numV most s).1 == 0 <;> rfl
theorem numV_rng {most : Int} (h : 0 ≤ most) (s : List UInt8) : 0 ≤ (numV most s).2 ∧ (numV most s).2 ≤ most := by
 unfold numV
 split
 · exact ⟨Int.le_refl _, h⟩
 · split
   · rename_i hd
     split
     · exact accN_le s 0 hd (Int.le_refl _) h
     · exact ⟨Int.le_refl _, h⟩
   · exact ⟨Int.le_refl _, h⟩
theorem numOk_of {most : Int} {s : List UInt8} (h : s.length ≤ 1000000) (h1 : 9 ≤ most) (h2 : most ≤ 9223372036854775807) : numOk most s := ⟨by omega, h1, h2⟩
def okC (cs : List SV) : CTree := .ret (.tup [.bool true, .tup []]) [(1, some (.cells 27 cs))]
theorem wd70_t (s : List UInt8) (a : Int) (x : Cmd) : bX Tryz.f54 [.agg [.str s, .int .i64 a], .ptr 0 0] (cmdH x.cs) = numT 1000000000 s a fun v => okC ({ x with a := w64 v } : Cmd).cs := by kernel_rfl
theorem wd72_t (s : List UInt8) (a : Int) (x : Cmd) : bX Tryz.f56 [.agg [.str s, .int .i64 a], .ptr 0 0] (cmdH x.cs) = numT 1000000000 s a fun v => okC ({ x with b := w64 v } : Cmd).cs := by kernel_rfl
theorem wd73_t (s : List UInt8) (a : Int) (x : Cmd) : bX Tryz.f57 [.agg [.str s, .int .i64 a], .ptr 0 0] (cmdH x.cs) = numT 65535 s a fun v => okC ({ x with b := w64 v } : Cmd).cs := by kernel_rfl
theorem wd74_t (s : List UInt8) (a : Int) (x : Cmd) : bX Tryz.f58 [.agg [.str s, .int .i64 a], .ptr 0 0] (cmdH x.cs) = numT 9223372036854775807 s a fun v => okC ({ x with d := v } : Cmd).cs := by kernel_rfl
theorem wd75_t (s : List UInt8) (a : Int) (x : Cmd) : bX Tryz.f59 [.agg [.str s, .int .i64 a], .ptr 0 0] (cmdH x.cs) = bif s == sNone then okC ({ x with b := -1 } : Cmd).cs else numT 1000000000 s a fun v => okC ({ x with b := w64 v } : Cmd).cs := by kernel_rfl
theorem wd76_t (s : List UInt8) (a : Int) (x : Cmd) : bX Tryz.f60 [.agg [.str s, .int .i64 a], .ptr 0 0] (cmdH x.cs) = bif !(s == sUp) then bif !(s == sDown) then wdE 19 a else okC ({ x with up := s == sUp } : Cmd).cs else okC ({ x with up := s == sUp } : Cmd).cs := by kernel_rfl
theorem wd77_t (s : List UInt8) (a : Int) (x : Cmd) : bX Tryz.f61 [.agg [.str s, .int .i64 a], .ptr 0 0] (cmdH x.cs) = bif s == sAll then okC ({ x with m := 281474976710655 } : Cmd).cs else bif decide (s.length ≤ 1000000) then bif (pmacV s).2 != 0 then wdE 19 a else okC ({ x with m := (pmacV s).1 } : Cmd).cs else .fail := by kernel_rfl
theorem wd79_t (s : List UInt8) (a : Int) (x : Cmd) : bX Tryz.f63 [.agg [.str s, .int .i64 a], .ptr 0 0] (cmdH x.cs) = bif decide (s.length ≤ 1000000) then bif (pipV s).2 != 0 then wdE 19 a else okC ({ x with i := (pipV s).1 } : Cmd).cs else .fail := by kernel_rfl
theorem wd_num {most : Int} {s : List UInt8} {a : Int} {K : Int → CTree} {r : Int × Cmd} (h : s.length ≤ 1000000) (h1 : 9 ≤ most) (h2 : most ≤ 9223372036854775807) (hr : r.1 = (numV most s).1) (hk : K (numV most s).2 = okC r.2.cs) : crun (numT most s a K) = crun (wdR r a) := by
 rw [numT_eq (numOk_of h h1 h2), hk]
 unfold wdR
 rw [hr]; rfl
theorem wd70_k : KnownX Tryz.prog 54 (wd_s 0) := wd_known Tryz.func54 (by kernel_rfl) (fun s a x h => by
 obtain ⟨r0, r1⟩ := numV_rng (most := 1000000000) (by decide) s
 rw [wd70_t]
 exact wd_num h (by decide) (by decide) rfl (by rw [show w64 (numV 1000000000 s).2 = (numV 1000000000 s).2 from w64_id (by omega) (by omega)]; rfl))
theorem wd72_k : KnownX Tryz.prog 56 (wd_s 1) := wd_known Tryz.func56 (by kernel_rfl) (fun s a x h => by
 obtain ⟨r0, r1⟩ := numV_rng (most := 1000000000) (by decide) s
 rw [wd72_t]
 exact wd_num h (by decide) (by decide) rfl (by rw [show w64 (numV 1000000000 s).2 = (numV 1000000000 s).2 from w64_id (by omega) (by omega)]; rfl))
theorem wd73_k : KnownX Tryz.prog 57 (wd_s 3) := wd_known Tryz.func57 (by kernel_rfl) (fun s a x h => by
 obtain ⟨r0, r1⟩ := numV_rng (most := 65535) (by decide) s
 rw [wd73_t]
 exact wd_num h (by decide) (by decide) rfl (by rw [show w64 (numV 65535 s).2 = (numV 65535 s).2 from w64_id (by omega) (by omega)]; rfl))
theorem wd74_k : KnownX Tryz.prog 58 (wd_s 7) := wd_known Tryz.func58 (by kernel_rfl) (fun s a x h => by
 rw [wd74_t]
 exact wd_num h (by decide) (by decide) rfl rfl)
theorem wd75_k : KnownX Tryz.prog 59 (wd_s 2) := wd_known Tryz.func59 (by kernel_rfl) (fun s a x h => by
 obtain ⟨r0, r1⟩ := numV_rng (most := 1000000000) (by decide) s
 rw [wd75_t]
 by_cases hs : s = sNone
 · rw [show (s == sNone) = true by rw [hs]; rfl, cond_true, show rdW 2 s x = (0, { x with b := -1 }) by simp [rdW, hs]]
   rfl
 · rw [show (s == sNone) = false by simpa using hs, cond_false, show rdW 2 s x = ((numV 1000000000 s).1, { x with b := (numV 1000000000 s).2 }) by simp [rdW, hs]]
   exact wd_num h (by decide) (by decide) rfl (by rw [show w64 (numV 1000000000 s).2 = (numV 1000000000 s).2 from w64_id (by omega) (by omega)]))
theorem wd76_k : KnownX Tryz.prog 60 (wd_s 4) := wd_known Tryz.func60 (by kernel_rfl) (fun s a x h => by
 rw [wd76_t]
 by_cases hs : s = sUp
 · rw [show (s == sUp) = true by rw [hs]; rfl, show rdW 4 s x = (0, { x with up := true }) by simp [rdW, hs]]
   rfl
 · rw [show (s == sUp) = false by simpa using hs]
   by_cases hd : s = sDown
   · rw [show (s == sDown) = true by rw [hd]; rfl, show rdW 4 s x = (0, { x with up := false }) by simp [rdW, hs, hd]; intro e; cases e]
     rfl
   · rw [show (s == sDown) = false by simpa using hd, show rdW 4 s x = (19, x) by simp [rdW, hs, hd]]
     rfl)
theorem wd77_k : KnownX Tryz.prog 61 (wd_s 5) := wd_known Tryz.func61 (by kernel_rfl) (fun s a x h => by
 rw [wd77_t]
 by_cases hs : s = sAll
 · rw [show (s == sAll) = true by rw [hs]; rfl, show rdW 5 s x = (0, { x with m := 281474976710655 }) by simp [rdW, hs]]
   rfl
 · rw [show (s == sAll) = false by simpa using hs, cond_false, decide_eq_true h, cond_true]
   by_cases hp : (pmacV s).2 = 0
   · rw [show rdW 5 s x = (0, { x with m := (pmacV s).1 }) by simp [rdW, hs, hp], hp]
     rfl
   · rw [show ((pmacV s).2 != 0) = true by simpa using hp, show rdW 5 s x = (19, x) by simp [rdW, hs, hp]]
     rfl)
theorem wd79_k : KnownX Tryz.prog 63 (wd_s 6) := wd_known Tryz.func63 (by kernel_rfl) (fun s a x h => by
 rw [wd79_t, decide_eq_true h, cond_true]
 by_cases hp : (pipV s).2 = 0
 · rw [show rdW 6 s x = (0, { x with i := (pipV s).1 }) by simp [rdW, hp], hp]
   rfl
 · rw [show ((pipV s).2 != 0) = true by simpa using hp, show rdW 6 s x = (19, x) by simp [rdW, hp]]
   rfl)
end Go.Proofs.YtpelignoebgkbaaGreatDoor
