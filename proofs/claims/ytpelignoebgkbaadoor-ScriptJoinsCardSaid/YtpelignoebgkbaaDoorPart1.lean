/- Scripts: the program. -/
import Derived.Test.YtpelignoebgkbaaDoorMachine6
import Derived.KernelRfl
import Derived.Test.YtpelignoebgkbaaDoorRows
import Derived.Test.YtpelignoebgkbaaDoorMachine7
import Derived.Test.YtpelignoebgkbaaDoorMachine8
set_option linter.unusedVariables false
set_option linter.unusedSimpArgs false
namespace Go.Proofs.YtpelignoebgkbaaDoor
open Go.Am
set_option maxRecDepth 100000
theorem noNumTry : noNum Tryd.prog := by unfold noNum; kernel_rfl
theorem mixTry : Tryd.prog.follows .mixedOrders = true := by kernel_rfl
theorem ok0 : KOk Tryd.prog (tbl []) := tbl_nil
noncomputable abbrev opn (T : Nat → Option CSumm) (fn : Func) : CSumm := bodyC Tryd.prog (openT Tryd.prog T 300 5) (fun g => inl T g && hasBody Tryd.prog g) true 300 fn
theorem openKnown {T : Nat → Option CSumm} (hT : KOk Tryd.prog T) {f : Nat} {fn : Func} (hf : Tryd.prog.funcs[f]? = some fn) (hb : fn.body.isNone = false) : Known Tryd.prog f (opn T fn) :=
 known_of_bodyC noNumTry mixTry (openT_ok noNumTry mixTry hT 300 5) hf hb (fun _ _ _ _ h => h)
theorem crun_ite (b : Bool) (x y : CTree) : crun (.ite b x y) = bif b then crun x else crun y := by cases b <;> rfl
theorem crun_cond (b : Bool) (x y : CTree) : crun (bif b then x else y) = bif b then crun x else crun y := by cases b <;> rfl
theorem w64_id {n : Int} (h1 : -9223372036854775808 ≤ n) (h2 : n ≤ 9223372036854775807) : IntKind.i64.wrap n = n := by
 simp [IntKind.wrap, IntKind.bits, IntKind.signed]; omega
theorem w8_id {n : Int} (h1 : 0 ≤ n) (h2 : n ≤ 255) : IntKind.u8.wrap n = n := by
 simp [IntKind.wrap, IntKind.bits, IntKind.signed]; omega
abbrev w64 (n : Int) : Int := IntKind.i64.wrap n
abbrev w8 (n : Int) : Int := IntKind.u8.wrap n
noncomputable def dec (p : Prop) : Bool := (Classical.propDecidable p).decide
theorem dec_iff {p : Prop} : dec p = true ↔ p := by unfold dec; exact @decide_eq_true_iff _ (Classical.propDecidable _)
theorem inB_ok {i : Int} {n : Nat} (h0 : 0 ≤ i) (h1 : i < n) : inB i n = true := by unfold inB; rw [decide_eq_true h0, decide_eq_true h1]; rfl
end Go.Proofs.YtpelignoebgkbaaDoor
/- Scripts: the chapter's examples, carried out. -/
namespace Go.Proofs.YtpelignoebgkbaaDoor
open Go.Am
set_option maxRecDepth 100000
def sq1 : Option Code → Code
 | some (.seq a _) => a
 | _ => .skip
def sq2 : Option Code → Code
 | some (.seq _ b) => b
 | _ => .skip
noncomputable def lnA : Code := sq1 Tryd.f15.body
noncomputable def lnD : Code := sq1 (some (sq2 Tryd.f15.body))
noncomputable def lnB : Code := sq2 (some (sq2 Tryd.f15.body))
noncomputable def lcR : Code := sq1 Tryd.f31.body
noncomputable def lcB : Code := sq2 Tryd.f31.body
def rgO (c : Code) (i : Nat) : Oper := match c with
 | .region _ ops _ => match ops[i]? with
  | some o => o
  | none => { dst := none, op := .alloc 0, type := 0, pos := "", after := #[], guard := none }
 | _ => { dst := none, op := .alloc 0, type := 0, pos := "", after := #[], guard := none }
def opC : Op → Call
 | .call c => c
 | .defer c => c
 | _ => { callee := .builtin .recover, args := #[], argTypes := #[] }
abbrev caps3 : List Operand := [.tmp 2, .tmp 3, .tmp 4]
theorem dfr15 : Dfr Tryd.prog Tryd.f15 lnA lnB 6 31 caps3 := ⟨1, rgO lnD 0, rgO lnD 1, opC (rgO lnD 1).op, by kernel_rfl, by kernel_rfl, by kernel_rfl, by kernel_rfl, by kernel_rfl, by kernel_rfl, by kernel_rfl, by kernel_rfl, by kernel_rfl⟩
theorem clo31 : Clo Tryd.prog 31 Tryd.f31 lcB 6 3 := ⟨Tryd.func31, by kernel_rfl, ⟨0, rgO lcR 0, rgO lcR 1, opC (rgO lcR 0).op, by kernel_rfl, by kernel_rfl, by kernel_rfl, by kernel_rfl, by kernel_rfl, by kernel_rfl, by kernel_rfl, by kernel_rfl, by kernel_rfl⟩, of_decide_eq_true (by kernel_rfl), of_decide_eq_true (by kernel_rfl), of_decide_eq_true (by kernel_rfl)⟩
noncomputable def lineC : CSumm := deferC Tryd.prog (closedS Tryd.prog 300 12) Tryd.f15 Tryd.f31 lnA lnB lcB 6 31 6 3 caps3
theorem lineC_k : Known Tryd.prog 15 lineC := ⟨⟨Tryd.f15, Tryd.func15, noNum_at noNumTry Tryd.func15, rfl⟩, defer_valid (closed_ok noNumTry mixTry 300 12) Tryd.func15 dfr15 clo31⟩
theorem lives_k : Known Tryd.prog 6 (constS (.bool true)) := known_closedT (fuel := 300) (n := 12) noNumTry mixTry (tbl_cons lineC_k ok0) Tryd.func6 rfl (by kernel_rfl)
end Go.Proofs.YtpelignoebgkbaaDoor
/- Scripts: what raises: 'fail'; the loops of 'number'. -/
namespace Go.Proofs.YtpelignoebgkbaaDoor
open Go.Am
set_option maxRecDepth 100000
def κe : Nat → Option CSumm := fun _ => none
theorem κeOk : KOk Tryd.prog κe := ⟨(fun _ _ h => by cases h), (fun _ _ h => by cases h)⟩
def flt (e a : Int) : SV := .iface 86 (.agg [.int .i64 e, .int .i64 a])
def fail_s : CSumm
 | [.int .i64 e, .int .i64 a], [] => .ret (.tup [.bool false, flt e a]) []
 | _, _ => .fail
theorem fail_t (e a : Int) : bodyX Tryd.prog κe (tbl []) (ltab []) 300 Tryd.f33 (Tryd.f33.body.getD .skip) [.int .i64 e, .int .i64 a] [] = .ret (.tup [.bool false, flt e a]) [] := by kernel_rfl
theorem fail_k : KnownX Tryd.prog 33 fail_s := knownX_of_body noNumTry mixTry κeOk xtbl_nil lokp_nil Tryd.func33 (show Tryd.f33.body = some (fillC (ltab []) (Tryd.f33.body.getD .skip)) by kernel_rfl) (fuel := 300) (by
 intro args H v ups h
 unfold fail_s at h
 split at h
 · exact (congrArg crun (fail_t _ _)).trans h
 · cases h)
noncomputable abbrev πF : Nat → Option CSumm := tbl [(33, fail_s)]
theorem πFok : XOk Tryd.prog πF := xtbl_cons fail_k xtbl_nil
noncomputable def body71 : Code := Tryd.f71.body.getD .skip
noncomputable def c71a : Code := (loopAt 4 body71).getD .skip
noncomputable def c71b : Code := (loopAt 11 body71).getD .skip
def notDig (c : SV) : Bool := bif decide (asI c < 48) then true else decide (asI c > 57)
def alldig : List SV → Bool
 | [] => true
 | c :: cs => bif notDig c then false else alldig cs
def naOk (es : List SV) (n : Nat) (m i : Int) : Prop := n = es.length ∧ m = es.length ∧ 0 ≤ i ∧ i ≤ es.length ∧ es.length < 4000000000
noncomputable def na_s : CSumm := fun args H => match args, H with
 | [.qs 0 1 0 n, .int .i64 m, .int .i64 i, .ptr 1 0], [(0, .seq 5 es), (1, .cells 116 [.str _, .int .i64 a])] => .ite (dec (naOk es n m i)) (.ite (alldig (es.drop i.toNat)) (.ret (.tup [.int .i64 2, .ptr 1 0, .junk]) [])
   (.ret (.tup [.int .i64 1000042, .ptr 1 0, flt 19 a]) [])) .fail
 | _, _ => .fail
def naM : List SV → HpL → Nat
 | [_, .int _ m, .int _ i, _], _ => (m - i).toNat
 | _, _ => 0
noncomputable def e71a : LEnt := { ins := [26, 27, 28, 2], outs := [2, 40], keep := [1], size := 68, code := c71a, s := na_s }
def naT : CTree := .ret (.tup [.int .i64 2, .ptr 1 0, .junk]) []
def naF (a : Int) : CTree := .ret (.tup [.int .i64 1000042, .ptr 1 0, flt 19 a]) []
noncomputable def naN (N : Nat) (es : List SV) (n : Nat) (m i a : Int) : CTree := bif Nat.blt (m - i).toNat N then bif dec (naOk es n m i) then bif alldig (es.drop i.toNat) then naT else naF a else .fail else .fail
theorem na_t (N : Nat) (es : List SV) (n : Nat) (m i a : Int) (s : List UInt8) : loopOnceP Tryd.prog κe πF [] (ltab []) 300 e71a { e71a with s := boundT naM na_s N } c71a [.qs 0 1 0 n, .int .i64 m, .int .i64 i, .ptr 1 0] [(0, .seq 5 es), (1, .cells 116 [.str s, .int .i64 a])] =
 bif decide (i < m) then bif inB i n then bif decide (0 + i.toNat < es.length) then
  bif decide (asI (es.getD (0 + i.toNat) .junk) < 48) then naF a else bif decide (asI (es.getD (0 + i.toNat) .junk) > 57) then naF a else naN N es n m (w64 (i + 1)) a
 else .fail else .fail else naT := by kernel_rfl
theorem getD_cons' {es : List SV} {k : Nat} (h : k < es.length) : es.drop k = es.getD k .junk :: es.drop (k + 1) := by
 rw [List.drop_eq_getElem_cons h]
 simp [List.getD_eq_getElem?_getD, h]
theorem na_valid : ValidLP Tryd.prog [] e71a := loopP_valid (T := ltab []) (fuel := 300) (c := c71a) (μ := naM) κeOk πFok mixTry lokp_nil (show fillC (ltab []) c71a = c71a by kernel_rfl) (by
 intro N args H r hbt h
 unfold e71a na_s at h
 simp only [] at h
 split at h
 · rename_i n m i es s a
   rw [crun_ite] at h
   cases hc : dec (naOk es n m i) with
   | false => rw [hc] at h; cases h
   | true =>
    rw [hc, cond_true, crun_ite] at h
    obtain ⟨rfl, rfl, i0, i1, hl⟩ := dec_iff.1 hc
    have hN : Nat.blt ((es.length : Int) - i).toNat (N + 1) = true := hbt
    rw [Nat.blt_eq] at hN
    have ht := na_t N es es.length es.length i a s
    obtain ⟨k, rfl⟩ := Int.eq_ofNat_of_zero_le i0
    have hk : ((k : Nat) : Int).toNat = k := rfl
    rw [hk] at h ht
    refine (congrArg crun ht).trans ?_
    by_cases hi : (k : Int) < es.length
    · have hkl : k < es.length := by omega
      rw [decide_eq_true hi, cond_true, inB_ok (by omega) (by omega), cond_true, Nat.zero_add, decide_eq_true hkl, cond_true, show w64 ((k : Int) + 1) = ((k + 1 : Nat) : Int) from (w64_id (by omega) (by omega)).trans (by omega)]
      rw [getD_cons' hkl, alldig] at h
      unfold notDig at h
      cases h1 : decide (asI (es.getD k .junk) < 48) with
      | true => rw [h1] at h; exact h
      | false =>
       rw [h1, cond_false] at h
       rw [cond_false]
       cases h2 : decide (asI (es.getD k .junk) > 57) with
       | true => rw [h2] at h; exact h
       | false =>
        rw [h2, cond_false] at h
        rw [cond_false]
        unfold naN
        rw [show Nat.blt ((es.length : Int) - ((k + 1 : Nat) : Int)).toNat N = true by rw [Nat.blt_eq]; omega, cond_true, dec_iff.2 ⟨rfl, rfl, by omega, by omega, hl⟩, cond_true, show ((k + 1 : Nat) : Int).toNat = k + 1 from rfl]
        rw [crun_cond]
        exact h
    · rw [decide_eq_false hi, cond_false]
      have : es.drop k = [] := List.drop_eq_nil_of_le (by omega)
      rw [this] at h
      exact h
 · cases h)
/- The second loop: the value; where it grows too great, what it was. -/
def accS (most : Int) : List SV → Int → Bool × Int
 | [], v => (true, v)
 | c :: cs, v => bif decide (v > (IntKind.u64.wrap ((IntKind.u64.wrap (most - (IntKind.u64.wrap (w8 (asI c - 48))))).tdiv 10))) then (false, v) else accS most cs (IntKind.u64.wrap (IntKind.u64.wrap (v * 10) + IntKind.u64.wrap (w8 (asI c - 48))))
def nbT (v : Int) : CTree := .ret (.tup [.int .i64 4, .int .u64 v, .junk]) []
def nbF (v a : Int) : CTree := .ret (.tup [.int .i64 1000063, .int .u64 v, flt 2 a]) []
noncomputable def nb_s : CSumm := fun args H => match args, H with
 | [.qs 0 1 0 n, .int .i64 m, .int .i64 i, .int .u64 v, .int .u64 most, .ptr 1 0], [(0, .seq 5 es), (1, .cells 116 [.str _, .int .i64 a])] => .ite (dec (naOk es n m i)) (.ite (accS most (es.drop i.toNat) v).1 (nbT (accS most (es.drop i.toNat) v).2) (nbF (accS most (es.drop i.toNat) v).2 a)) .fail
 | _, _ => .fail
def nbM : List SV → HpL → Nat
 | _ :: .int _ m :: .int _ i :: _, _ => (m - i).toNat
 | _, _ => 0
noncomputable def e71b : LEnt := { ins := [44, 45, 46, 7, 1, 2], outs := [7, 61], keep := [], size := 68, code := c71b, s := nb_s }
noncomputable def nbN (N : Nat) (es : List SV) (n : Nat) (m i v most a : Int) : CTree := bif Nat.blt (m - i).toNat N then bif dec (naOk es n m i) then bif (accS most (es.drop i.toNat) v).1 then nbT (accS most (es.drop i.toNat) v).2 else nbF (accS most (es.drop i.toNat) v).2 a else .fail else .fail
theorem nb_t (N : Nat) (es : List SV) (n : Nat) (m i v most a : Int) (s : List UInt8) : loopOnceP Tryd.prog κe πF [] (ltab []) 300 e71b { e71b with s := boundT nbM nb_s N } c71b [.qs 0 1 0 n, .int .i64 m, .int .i64 i, .int .u64 v, .int .u64 most, .ptr 1 0] [(0, .seq 5 es), (1, .cells 116 [.str s, .int .i64 a])] =
 bif decide (i < m) then bif inB i n then bif decide (0 + i.toNat < es.length) then
  bif decide (v > (IntKind.u64.wrap ((IntKind.u64.wrap (most - (IntKind.u64.wrap (w8 (asI (es.getD (0 + i.toNat) .junk) - 48))))).tdiv 10))) then nbF v a else nbN N es n m (w64 (i + 1)) (IntKind.u64.wrap (IntKind.u64.wrap (v * 10) + IntKind.u64.wrap (w8 (asI (es.getD (0 + i.toNat) .junk) - 48)))) most a
 else .fail else .fail else nbT v := by kernel_rfl
theorem nb_valid : ValidLP Tryd.prog [] e71b := loopP_valid (T := ltab []) (fuel := 300) (c := c71b) (μ := nbM) κeOk πFok mixTry lokp_nil (show fillC (ltab []) c71b = c71b by kernel_rfl) (by
 intro N args H r hbt h
 unfold e71b nb_s at h
 simp only [] at h
 split at h
 · rename_i n m i v most es s a
   rw [crun_ite] at h
   cases hc : dec (naOk es n m i) with
   | false => rw [hc] at h; cases h
   | true =>
    rw [hc, cond_true, crun_ite] at h
    obtain ⟨rfl, rfl, i0, i1, hl⟩ := dec_iff.1 hc
    have hN : Nat.blt ((es.length : Int) - i).toNat (N + 1) = true := hbt
    rw [Nat.blt_eq] at hN
    have ht := nb_t N es es.length es.length i v most a s
    obtain ⟨k, rfl⟩ := Int.eq_ofNat_of_zero_le i0
    have hk : ((k : Nat) : Int).toNat = k := rfl
    rw [hk] at h ht
    refine (congrArg crun ht).trans ?_
    by_cases hi : (k : Int) < es.length
    · have hkl : k < es.length := by omega
      rw [decide_eq_true hi, cond_true, inB_ok (by omega) (by omega), cond_true, Nat.zero_add, decide_eq_true hkl, cond_true, show w64 ((k : Int) + 1) = ((k + 1 : Nat) : Int) from (w64_id (by omega) (by omega)).trans (by omega)]
      rw [getD_cons' hkl, accS] at h
      generalize hq : decide (v > (IntKind.u64.wrap ((IntKind.u64.wrap (most - (IntKind.u64.wrap (w8 (asI (es.getD k .junk) - 48))))).tdiv 10))) = q at h ⊢
      cases q with
      | true => exact h
      | false =>
       simp only [cond_false] at h ⊢
       unfold nbN
       rw [show Nat.blt ((es.length : Int) - ((k + 1 : Nat) : Int)).toNat N = true by rw [Nat.blt_eq]; omega, cond_true, dec_iff.2 ⟨rfl, rfl, by omega, by omega, hl⟩, cond_true, show ((k + 1 : Nat) : Int).toNat = k + 1 from rfl]
       rw [crun_cond]
       exact h
    · rw [decide_eq_false hi, cond_false]
      have : es.drop k = [] := List.drop_eq_nil_of_le (by omega)
      rw [this] at h
      exact h
 · cases h)
noncomputable abbrev T71 : LTab := ltab [("a", e71a), ("b", e71b)]
noncomputable abbrev m71 : Code := markC [(4, "a"), (11, "b")] body71
theorem fill71 : Tryd.f71.body = some (fillC T71 m71) := by kernel_rfl
noncomputable def number_b : CSumm := bodyX Tryd.prog κe πF T71 300 Tryd.f71 m71
theorem number_k0 : KnownX Tryd.prog 71 number_b := knownX_of_body noNumTry mixTry κeOk πFok (lokp_cons na_valid (lokp_cons nb_valid lokp_nil)) Tryd.func71 fill71 (fuel := 300) (fun _ _ _ _ h => h)
end Go.Proofs.YtpelignoebgkbaaDoor
/- Scripts: numbers. -/
namespace Go.Proofs.YtpelignoebgkbaaDoor
open Go.Am
set_option maxRecDepth 100000
def digB (b : UInt8) : Bool := decide (48 ≤ b.toNat) && decide (b.toNat ≤ 57)
def accN (most : Int) : List UInt8 → Int → Bool × Int
 | [], v => (true, v)
 | b :: bs, v => if v > (most - ((b.toNat : Int) - 48)) / 10 then (false, v) else accN most bs (v * 10 + ((b.toNat : Int) - 48))
def numV (most : Int) (s : List UInt8) : Int × Int :=
 if s.length > 1 ∧ s.getD 0 0 = 48 then (19, 0) else if s.all digB then (if (accN most s 0).1 then (0, (accN most s 0).2) else (2, 0)) else (19, 0)
theorem alldig_eq : ∀ (s : List UInt8), alldig (s.map byteSV) = s.all digB
 | [] => rfl
 | b :: s => by
  simp only [List.map_cons, alldig, List.all_cons, alldig_eq s]
  have e : asI (byteSV b) = (b.toNat : Int) := rfl
  unfold notDig digB
  rw [e]
  by_cases h1 : (b.toNat : Int) < 48
  · rw [decide_eq_true h1, decide_eq_false (show ¬ 48 ≤ b.toNat by omega)]; rfl
  · rw [decide_eq_false h1, decide_eq_true (show 48 ≤ b.toNat by omega)]
    by_cases h2 : (b.toNat : Int) > 57
    · rw [decide_eq_true h2, decide_eq_false (show ¬ b.toNat ≤ 57 by omega)]; rfl
    · rw [decide_eq_false h2, decide_eq_true (show b.toNat ≤ 57 by omega)]; rfl
theorem wu64_id {n : Int} (h1 : 0 ≤ n) (h2 : n ≤ 18446744073709551615) : IntKind.u64.wrap n = n := by
 simp [IntKind.wrap, IntKind.bits, IntKind.signed]; omega
theorem accS_eq {most : Int} (h9 : 9 ≤ most) (hm : most ≤ 9223372036854775807) : ∀ (s : List UInt8) (v : Int), s.all digB = true → 0 ≤ v → v ≤ most → accS most (s.map byteSV) v = accN most s v
 | [], _, _, _, _ => rfl
 | b :: s, v, h, h0, h1 => by
  simp only [List.all_cons, Bool.and_eq_true] at h
  have hd := h.1
  unfold digB at hd
  simp only [Bool.and_eq_true, decide_eq_true_eq] at hd
  simp only [List.map_cons, accS, accN]
  have e : asI (byteSV b) = (b.toNat : Int) := rfl
  have e1 : IntKind.u64.wrap (w8 (asI (byteSV b) - 48)) = (b.toNat : Int) - 48 := by
   rw [e, show w8 ((b.toNat : Int) - 48) = (b.toNat : Int) - 48 from w8_id (by omega) (by omega)]
   exact wu64_id (by omega) (by omega)
  rw [e1, wu64_id (n := most - ((b.toNat : Int) - 48)) (by omega) (by omega)]
  have e2 : (most - ((b.toNat : Int) - 48)).tdiv 10 = (most - ((b.toNat : Int) - 48)) / 10 := Int.tdiv_eq_ediv_of_nonneg (by omega)
  rw [e2, wu64_id (n := (most - ((b.toNat : Int) - 48)) / 10) (by omega) (by omega)]
  by_cases hv : v > (most - ((b.toNat : Int) - 48)) / 10
  · rw [decide_eq_true hv, if_pos hv]; rfl
  · rw [decide_eq_false hv, if_neg hv, cond_false, wu64_id (n := v * 10) (by omega) (by omega), wu64_id (n := v * 10 + ((b.toNat : Int) - 48)) (by omega) (by omega)]
    exact accS_eq h9 hm s _ h.2 (by omega) (by omega)
theorem accN_le {most : Int} : ∀ (s : List UInt8) (v : Int), s.all digB = true → 0 ≤ v → v ≤ most → 0 ≤ (accN most s v).2 ∧ (accN most s v).2 ≤ most
 | [], _, _, h0, h1 => ⟨h0, h1⟩
 | b :: s, v, h, h0, h1 => by
  simp only [List.all_cons, Bool.and_eq_true] at h
  have hd := h.1
  unfold digB at hd
  simp only [Bool.and_eq_true, decide_eq_true_eq] at hd
  simp only [accN]
  split
  · exact ⟨h0, h1⟩
  · exact accN_le s _ h.2 (by omega) (by omega)
def numOk (most : Int) (s : List UInt8) : Prop := s.length < 4000000000 ∧ 9 ≤ most ∧ most ≤ 9223372036854775807
noncomputable def number_s : CSumm := fun args H => match args, H with
 | [.agg [.str s, .int .i64 a], .int .u64 most], [] => .ite (dec (numOk most s)) (.ite ((numV most s).1 == 0) (.ret (.tup [.bool true, .int .u64 (numV most s).2]) []) (.ret (.tup [.bool false, flt (numV most s).1 a]) [])) .fail
 | _, _ => .fail
noncomputable def nuL (a most : Int) (s : List UInt8) : CTree :=
 bif dec (naOk (s.map byteSV) s.length s.length 0) then
  bif alldig ((s.map byteSV).drop (0 : Int).toNat) then
   bif dec (naOk (s.map byteSV) s.length s.length 0) then
    bif (accS most ((s.map byteSV).drop (0 : Int).toNat) 0).1 then .ret (.tup [.bool true, .int .u64 (accS most ((s.map byteSV).drop (0 : Int).toNat) 0).2]) []
    else .ret (.tup [.bool false, flt 2 a]) []
   else .fail
  else .ret (.tup [.bool false, flt 19 a]) []
 else .fail
theorem number_t (a most : Int) (s : List UInt8) : number_b [.agg [.str s, .int .i64 a], .int .u64 most] [] =
 bif decide ((s.length : Int) > 1) then bif inB 0 s.length then bif ((s.getD (0 : Int).toNat 0).toNat : Int) == 48 then .ret (.tup [.bool false, flt 19 a]) [] else nuL a most s else .fail else nuL a most s := by kernel_rfl
theorem nuL_eq {a most : Int} {s : List UInt8} (h : numOk most s) : nuL a most s = bif s.all digB then bif (accN most s 0).1 then .ret (.tup [.bool true, .int .u64 (accN most s 0).2]) [] else .ret (.tup [.bool false, flt 2 a]) [] else .ret (.tup [.bool false, flt 19 a]) [] := by
 obtain ⟨h1, h2, h3⟩ := h
 unfold nuL
 rw [dec_iff.2 ⟨by simp, by simp, Int.le_refl _, by omega, by simpa using h1⟩, cond_true, cond_true, show (s.map byteSV).drop (0 : Int).toNat = s.map byteSV from rfl, alldig_eq]
 cases hd : s.all digB with
 | false => rfl
 | true => rw [accS_eq h2 h3 s 0 hd (Int.le_refl _) (by omega)]
theorem number_k : KnownX Tryd.prog 71 number_s := ⟨number_k0.fn, fun args H b v ups h => by
 refine number_k0.ok args H b v ups ?_
 unfold number_s at h
 split at h
 · rename_i s a most
   rw [crun_ite] at h
   cases hc : dec (numOk most s) with
   | false => rw [hc] at h; cases h
   | true =>
    rw [hc, cond_true, crun_ite] at h
    have hok := dec_iff.1 hc
    refine (congrArg crun (number_t a most s)).trans ?_
    rw [nuL_eq hok]
    unfold numV at h
    by_cases h1 : s.length > 1
    · rw [decide_eq_true (show (s.length : Int) > 1 by omega), cond_true, inB_ok (by omega) (by omega), cond_true]
      by_cases h2 : s.getD 0 0 = 48
      · have e : ((s.getD (0 : Int).toNat 0).toNat : Int) == 48 := by
          show ((s.getD 0 0).toNat : Int) == 48
          rw [h2]; rfl
        rw [e, cond_true]
        rw [if_pos ⟨h1, h2⟩] at h
        exact h
      · have e : (((s.getD (0 : Int).toNat 0).toNat : Int) == 48) = false := by
          show (((s.getD 0 0).toNat : Int) == 48) = false
          rw [beq_eq_false_iff_ne]
          intro e
          exact h2 (UInt8.toNat_inj.1 (by show (s.getD 0 0).toNat = 48; omega))
        rw [e, cond_false]
        rw [if_neg (fun hh => h2 hh.2)] at h
        cases hd : s.all digB with
        | false => rw [hd] at h; simp only [Bool.false_eq_true, if_false] at h; exact h
        | true =>
         rw [hd] at h
         simp only [if_true, cond_true] at h ⊢
         cases hq : (accN most s 0).1 with
         | true => rw [hq] at h; simp only [if_true, cond_true] at h ⊢; exact h
         | false => rw [hq] at h; simp only [Bool.false_eq_true, if_false, cond_false] at h ⊢; exact h
    · rw [decide_eq_false (show ¬ (s.length : Int) > 1 by omega), cond_false]
      rw [if_neg (fun hh => h1 hh.1)] at h
      cases hd : s.all digB with
      | false => rw [hd] at h; simp only [Bool.false_eq_true, if_false] at h; exact h
      | true =>
       rw [hd] at h
       simp only [if_true, cond_true] at h ⊢
       cases hq : (accN most s 0).1 with
       | true => rw [hq] at h; simp only [if_true, cond_true] at h ⊢; exact h
       | false => rw [hq] at h; simp only [Bool.false_eq_true, if_false, cond_false] at h ⊢; exact h
 · cases h⟩
end Go.Proofs.YtpelignoebgkbaaDoor
/- Digits of a byte: the loop. -/
namespace Go.Proofs.YtpelignoebgkbaaDoor
open Go.Am
set_option maxRecDepth 100000
def dgt (c b : Int) : Int := bif (bif decide (c ≥ 48) then decide (c ≤ 57) else false) then c - 48 else bif (bif decide (c ≥ 97) then decide (c ≤ 102) else false) then c - 97 + 10 else bif (bif decide (c ≥ 65) then decide (c ≤ 70) else false) then c - 65 + 10 else b
def dgS (b l : Int) : List UInt8 → Int → Option Int
 | [], v => some v
 | c :: cs, v => bif (bif decide (dgt c.toNat b ≥ b) then true else decide (v * b + dgt c.toNat b > l)) then none else dgS b l cs (v * b + dgt c.toNat b)
def dgOk (s : List UInt8) (b l v n i : Int) : Prop := 2 ≤ b ∧ b ≤ 16 ∧ 0 ≤ l ∧ l ≤ 255 ∧ 0 ≤ v ∧ v ≤ l ∧ n = s.length ∧ s.length ≤ 1000000 ∧ 0 ≤ i ∧ i ≤ n
noncomputable def body29 : Code := Tryd.f102.body.getD .skip
noncomputable def c29 : Code := (loopAt 3 body29).getD .skip
noncomputable def dg_s : CSumm := fun args H => match args, H with
 | [.str s, .int .u8 b, .int .u8 l, .int .i64 v, .int .i64 n, .int .i64 i], [] => .ite (dec (dgOk s b l v n i)) (.ite (dgS b l (s.drop i.toNat) v).isSome (.ret (.tup [.int .i64 2, .str s, .junk, .junk, .int .i64 ((dgS b l (s.drop i.toNat) v).getD 0)]) [])
   (.ret (.tup [.int .i64 1, .str s, .int .u8 0, .bool false, .junk]) [])) .fail
 | _, _ => .fail
def dgM : List SV → HpL → Nat
 | [_, _, _, _, .int _ n, .int _ i], _ => (n - i).toNat
 | _, _ => 0
noncomputable def e29 : LEnt := { ins := [0, 1, 2, 8, 13, 14], outs := [0, 6, 7, 8], keep := [], size := 76, code := c29, s := dg_s }
noncomputable abbrev κ0 := openT Tryd.prog (tbl []) 300 5
theorem κ0Ok : KOk Tryd.prog κ0 := openT_ok noNumTry mixTry ok0 300 5
noncomputable def dgN (N : Nat) (s : List UInt8) (b l v n i : Int) : CTree := bif Nat.blt (n - i).toNat N then bif dec (dgOk s b l v n i) then bif (dgS b l (s.drop i.toNat) v).isSome then (.ret (.tup [.int .i64 2, .str s, .junk, .junk, .int .i64 ((dgS b l (s.drop i.toNat) v).getD 0)]) [])
      else (.ret (.tup [.int .i64 1, .str s, .int .u8 0, .bool false, .junk]) []) else .fail else .fail
noncomputable def dgX (N : Nat) (s : List UInt8) (b l v n i d : Int) : CTree := bif (bif decide (d ≥ w64 b) then true else decide (w64 (w64 (v * w64 b) + d) > w64 l)) then .ret (.tup [.int .i64 1, .str s, .int .u8 0, .bool false, .int .i64 (w64 (w64 (v * w64 b) + d))]) [] else dgN N s b l (w64 (w64 (v * w64 b) + d)) n (w64 (i + 1))
noncomputable def dgC (N : Nat) (s : List UInt8) (b l v n i c : Int) : CTree :=
 bif (bif decide (c ≥ 48) then decide (c ≤ 57) else false) then dgX N s b l v n i (w64 (w8 (c - 48))) else bif (bif decide (c ≥ 97) then decide (c ≤ 102) else false) then dgX N s b l v n i (w64 (w64 (w8 (c - 97)) + 10)) else
 bif (bif decide (c ≥ 65) then decide (c ≤ 70) else false) then dgX N s b l v n i (w64 (w64 (w8 (c - 65)) + 10)) else dgX N s b l v n i (w64 b)
theorem dg_t (N : Nat) (s : List UInt8) (b l v n i : Int) : loopOnce Tryd.prog κ0 (fun _ => false) (ltab []) true 300 e29 { e29 with s := boundT dgM dg_s N } c29 [.str s, .int .u8 b, .int .u8 l, .int .i64 v, .int .i64 n, .int .i64 i] [] =
 bif decide (i < n) then bif inB i s.length then dgC N s b l v n i ((s.getD i.toNat 0).toNat : Int) else .fail else .ret (.tup [.int .i64 2, .str s, .junk, .junk, .int .i64 v]) [] := by kernel_rfl
end Go.Proofs.YtpelignoebgkbaaDoor
