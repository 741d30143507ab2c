/- Scripts: the program. -/
import Derived.Test.YtpelignoebgkbaaGreatDoorMachine6
import Derived.KernelRfl
import Derived.Test.YtpelignoebgkbaaGreatDoorRows
import Derived.Test.YtpelignoebgkbaaGreatDoorMachine7
set_option linter.unusedVariables false
set_option linter.unusedSimpArgs false
namespace Go.Proofs.YtpelignoebgkbaaGreatDoor
open Go.Am
set_option maxRecDepth 100000
theorem noNumTry : noNum Tryz.prog := by unfold noNum; kernel_rfl
theorem mixTry : Tryz.prog.follows .mixedOrders = true := by kernel_rfl
theorem ok0 : KOk Tryz.prog (tbl []) := tbl_nil
noncomputable abbrev opn (T : Nat → Option CSumm) (fn : Func) : CSumm := bodyC Tryz.prog (openT Tryz.prog T 300 5) (fun g => inl T g && hasBody Tryz.prog g) true 300 fn
theorem openKnown {T : Nat → Option CSumm} (hT : KOk Tryz.prog T) {f : Nat} {fn : Func} (hf : Tryz.prog.funcs[f]? = some fn) (hb : fn.body.isNone = false) : Known Tryz.prog f (opn T fn) :=
 known_of_bodyC noNumTry mixTry (openT_ok noNumTry mixTry hT 300 5) hf hb (fun _ _ _ _ h => h)
theorem crun_ite (b : Bool) (x y : CTree) : crun (.ite b x y) = bif b then crun x else crun y := by cases b <;> rfl
theorem crun_cond (b : Bool) (x y : CTree) : crun (bif b then x else y) = bif b then crun x else crun y := by cases b <;> rfl
theorem w64_id {n : Int} (h1 : -9223372036854775808 ≤ n) (h2 : n ≤ 9223372036854775807) : IntKind.i64.wrap n = n := by
 simp [IntKind.wrap, IntKind.bits, IntKind.signed]; omega
theorem w8_id {n : Int} (h1 : 0 ≤ n) (h2 : n ≤ 255) : IntKind.u8.wrap n = n := by
 simp [IntKind.wrap, IntKind.bits, IntKind.signed]; omega
abbrev w64 (n : Int) : Int := IntKind.i64.wrap n
abbrev w8 (n : Int) : Int := IntKind.u8.wrap n
noncomputable def dec (p : Prop) : Bool := (Classical.propDecidable p).decide
theorem dec_iff {p : Prop} : dec p = true ↔ p := by unfold dec; exact @decide_eq_true_iff _ (Classical.propDecidable _)
theorem inB_ok {i : Int} {n : Nat} (h0 : 0 ≤ i) (h1 : i < n) : inB i n = true := by unfold inB; rw [decide_eq_true h0, decide_eq_true h1]; rfl
def noS : CSumm := fun _ _ => .fail
theorem no_k {f : Nat} {fn : Func} (hf : Tryz.prog.funcs[f]? = some fn) (hb : fn.body.isNone = false) : Known Tryz.prog f noS :=
 ⟨⟨fn, hf, noNum_at noNumTry hf, hb⟩, fun _ _ _ _ h => by cases h⟩
end Go.Proofs.YtpelignoebgkbaaGreatDoor
/- Digits of a byte: the loop. -/
namespace Go.Proofs.YtpelignoebgkbaaGreatDoor
open Go.Am
set_option maxRecDepth 100000
def dgt (c b : Int) : Int := bif (bif decide (c ≥ 48) then decide (c ≤ 57) else false) then c - 48 else bif (bif decide (c ≥ 97) then decide (c ≤ 102) else false) then c - 97 + 10 else bif (bif decide (c ≥ 65) then decide (c ≤ 70) else false) then c - 65 + 10 else b
def dgS (b l : Int) : List UInt8 → Int → Option Int
 | [], v => some v
 | c :: cs, v => bif (bif decide (dgt c.toNat b ≥ b) then true else decide (v * b + dgt c.toNat b > l)) then none else dgS b l cs (v * b + dgt c.toNat b)
def dgOk (s : List UInt8) (b l v n i : Int) : Prop := 2 ≤ b ∧ b ≤ 16 ∧ 0 ≤ l ∧ l ≤ 255 ∧ 0 ≤ v ∧ v ≤ l ∧ n = s.length ∧ s.length ≤ 1000000 ∧ 0 ≤ i ∧ i ≤ n
noncomputable def body29 : Code := Tryz.f98.body.getD .skip
noncomputable def c29 : Code := (loopAt 3 body29).getD .skip
noncomputable def dg_s : CSumm := fun args H => match args, H with
 | [.str s, .int .u8 b, .int .u8 l, .int .i64 v, .int .i64 n, .int .i64 i], [] => .ite (dec (dgOk s b l v n i)) (.ite (dgS b l (s.drop i.toNat) v).isSome (.ret (.tup [.int .i64 2, .str s, .junk, .junk, .int .i64 ((dgS b l (s.drop i.toNat) v).getD 0)]) [])
   (.ret (.tup [.int .i64 1, .str s, .int .u8 0, .bool false, .junk]) [])) .fail
 | _, _ => .fail
def dgM : List SV → HpL → Nat
 | [_, _, _, _, .int _ n, .int _ i], _ => (n - i).toNat
 | _, _ => 0
noncomputable def e29 : LEnt := { ins := [0, 1, 2, 8, 13, 14], outs := [0, 6, 7, 8], keep := [], size := 76, code := c29, s := dg_s }
noncomputable abbrev κ0 := openT Tryz.prog (tbl []) 300 5
theorem κ0Ok : KOk Tryz.prog κ0 := openT_ok noNumTry mixTry ok0 300 5
noncomputable def dgN (N : Nat) (s : List UInt8) (b l v n i : Int) : CTree := bif Nat.blt (n - i).toNat N then bif dec (dgOk s b l v n i) then bif (dgS b l (s.drop i.toNat) v).isSome then (.ret (.tup [.int .i64 2, .str s, .junk, .junk, .int .i64 ((dgS b l (s.drop i.toNat) v).getD 0)]) [])
      else (.ret (.tup [.int .i64 1, .str s, .int .u8 0, .bool false, .junk]) []) else .fail else .fail
noncomputable def dgX (N : Nat) (s : List UInt8) (b l v n i d : Int) : CTree := bif (bif decide (d ≥ w64 b) then true else decide (w64 (w64 (v * w64 b) + d) > w64 l)) then .ret (.tup [.int .i64 1, .str s, .int .u8 0, .bool false, .int .i64 (w64 (w64 (v * w64 b) + d))]) [] else dgN N s b l (w64 (w64 (v * w64 b) + d)) n (w64 (i + 1))
noncomputable def dgC (N : Nat) (s : List UInt8) (b l v n i c : Int) : CTree :=
 bif (bif decide (c ≥ 48) then decide (c ≤ 57) else false) then dgX N s b l v n i (w64 (w8 (c - 48))) else bif (bif decide (c ≥ 97) then decide (c ≤ 102) else false) then dgX N s b l v n i (w64 (w64 (w8 (c - 97)) + 10)) else
 bif (bif decide (c ≥ 65) then decide (c ≤ 70) else false) then dgX N s b l v n i (w64 (w64 (w8 (c - 65)) + 10)) else dgX N s b l v n i (w64 b)
theorem dg_t (N : Nat) (s : List UInt8) (b l v n i : Int) : loopOnce Tryz.prog κ0 (fun _ => false) (ltab []) true 300 e29 { e29 with s := boundT dgM dg_s N } c29 [.str s, .int .u8 b, .int .u8 l, .int .i64 v, .int .i64 n, .int .i64 i] [] =
 bif decide (i < n) then bif inB i s.length then dgC N s b l v n i ((s.getD i.toNat 0).toNat : Int) else .fail else .ret (.tup [.int .i64 2, .str s, .junk, .junk, .int .i64 v]) [] := by kernel_rfl
end Go.Proofs.YtpelignoebgkbaaGreatDoor
/- Digits of a byte, known. -/
namespace Go.Proofs.YtpelignoebgkbaaGreatDoor
open Go.Am
set_option maxRecDepth 100000
theorem CoL.junk (P : Program) : ∀ (vs : List SV), CoL P vs (vs.map fun _ => .junk)
 | [] => .nil
 | _ :: vs => .cons (fun _ _ _ _ _ _ => .junk) (CoL.junk P vs)
theorem chr_rng (c : UInt8) : 0 ≤ (c.toNat : Int) ∧ (c.toNat : Int) ≤ 255 := by have := c.toNat_lt; omega
theorem dgt_rng {c b : Int} (h0 : 0 ≤ c) (h1 : c ≤ 255) (hb : 2 ≤ b) (hb1 : b ≤ 16) : 0 ≤ dgt c b ∧ dgt c b ≤ 16 := by
 unfold dgt
 by_cases a1 : c ≥ 48
 · by_cases a2 : c ≤ 57
   · rw [decide_eq_true a1, decide_eq_true a2]; simp only [cond_true]; omega
   · by_cases a3 : c ≥ 97
     · by_cases a4 : c ≤ 102
       · rw [decide_eq_true a1, decide_eq_false a2, decide_eq_true a3, decide_eq_true a4]; simp only [cond_true, cond_false]; omega
       · rw [decide_eq_true a1, decide_eq_false a2, decide_eq_true a3, decide_eq_false a4, decide_eq_true (show c ≥ 65 by omega), decide_eq_false (show ¬ c ≤ 70 by omega)]; simp only [cond_true, cond_false]; omega
     · by_cases a5 : c ≥ 65
       · by_cases a6 : c ≤ 70
         · rw [decide_eq_true a1, decide_eq_false a2, decide_eq_false a3, decide_eq_true a5, decide_eq_true a6]; simp only [cond_true, cond_false]; omega
         · rw [decide_eq_true a1, decide_eq_false a2, decide_eq_false a3, decide_eq_true a5, decide_eq_false a6]; simp only [cond_true, cond_false]; omega
       · rw [decide_eq_true a1, decide_eq_false a2, decide_eq_false a3, decide_eq_false a5]; simp only [cond_true, cond_false]; omega
 · rw [decide_eq_false a1, decide_eq_false (show ¬ c ≥ 97 by omega), decide_eq_false (show ¬ c ≥ 65 by omega)]; simp only [cond_false]; omega
theorem dgC_eq {N : Nat} {s : List UInt8} {b l v n i c : Int} (h0 : 0 ≤ c) (h1 : c ≤ 255) (hb : 2 ≤ b) (hb1 : b ≤ 16) : dgC N s b l v n i c = dgX N s b l v n i (dgt c b) := by
 unfold dgC dgt
 rw [show w64 b = b from w64_id (by omega) (by omega)]
 cases c1 : (bif decide (c ≥ 48) then decide (c ≤ 57) else false) with
 | true =>
  have : 48 ≤ c ∧ c ≤ 57 := by
   by_cases a1 : c ≥ 48
   · rw [decide_eq_true a1] at c1; exact ⟨a1, of_decide_eq_true c1⟩
   · rw [decide_eq_false a1] at c1; cases c1
  rw [cond_true, cond_true, show w8 (c - 48) = c - 48 from w8_id (by omega) (by omega), show w64 (c - 48) = c - 48 from w64_id (by omega) (by omega)]
 | false =>
  rw [cond_false, cond_false]
  cases c2 : (bif decide (c ≥ 97) then decide (c ≤ 102) else false) with
  | true =>
   have : 97 ≤ c ∧ c ≤ 102 := by
    by_cases a1 : c ≥ 97
    · rw [decide_eq_true a1] at c2; exact ⟨a1, of_decide_eq_true c2⟩
    · rw [decide_eq_false a1] at c2; cases c2
   rw [cond_true, cond_true, show w8 (c - 97) = c - 97 from w8_id (by omega) (by omega), show w64 (c - 97) = c - 97 from w64_id (by omega) (by omega), show w64 (c - 97 + 10) = c - 97 + 10 from w64_id (by omega) (by omega)]
  | false =>
   rw [cond_false, cond_false]
   cases c3 : (bif decide (c ≥ 65) then decide (c ≤ 70) else false) with
   | true =>
    have : 65 ≤ c ∧ c ≤ 70 := by
     by_cases a1 : c ≥ 65
     · rw [decide_eq_true a1] at c3; exact ⟨a1, of_decide_eq_true c3⟩
     · rw [decide_eq_false a1] at c3; cases c3
    rw [cond_true, cond_true, show w8 (c - 65) = c - 65 from w8_id (by omega) (by omega), show w64 (c - 65) = c - 65 from w64_id (by omega) (by omega), show w64 (c - 65 + 10) = c - 65 + 10 from w64_id (by omega) (by omega)]
   | false => rfl
theorem dgX_eq {N : Nat} {s : List UInt8} {b l v n i d : Int} (hb : 2 ≤ b) (hb1 : b ≤ 16) (hl : 0 ≤ l) (hl1 : l ≤ 255) (hv : 0 ≤ v) (hv1 : v ≤ l) (hd : 0 ≤ d) (hd1 : d ≤ 16) :
  dgX N s b l v n i d = bif (bif decide (d ≥ b) then true else decide (v * b + d > l)) then .ret (.tup [.int .i64 1, .str s, .int .u8 0, .bool false, .int .i64 (v * b + d)]) [] else dgN N s b l (v * b + d) n (w64 (i + 1)) := by
 have hm : 0 ≤ v * b ∧ v * b ≤ 255 * 16 := ⟨Int.mul_nonneg hv (by omega), Int.mul_le_mul (by omega) hb1 (by omega) (by omega)⟩
 unfold dgX
 rw [show w64 b = b from w64_id (by omega) (by omega), show w64 l = l from w64_id (by omega) (by omega), show w64 (v * b) = v * b from w64_id (by omega) (by omega), show w64 (v * b + d) = v * b + d from w64_id (by omega) (by omega)]
theorem getD_cons {s : List UInt8} {k : Nat} (h : k < s.length) : s.drop k = s.getD k 0 :: s.drop (k + 1) := by
 rw [List.drop_eq_getElem_cons h, List.getD_eq_getElem?_getD, List.getElem?_eq_getElem h]; rfl
theorem dg_valid : ValidL Tryz.prog e29 := loop_valid5 (T := ltab []) (sp := true) (fuel := 300) (c := c29) (μ := dgM) mixTry ltab_nil (show fillC (ltab []) c29 = c29 by kernel_rfl) (by
 intro N args H v' ups' hbt h
 unfold e29 dg_s at h
 simp only [] at h
 split at h
 · rename_i s b l v n i
   rw [crun_ite] at h
   cases hc : dec (dgOk s b l v n i) with
   | false => rw [hc] at h; cases h
   | true =>
    rw [hc, cond_true, crun_ite] at h
    obtain ⟨hb, hb1, hl, hl1, hv, hv1, hn, hs, i0, i1⟩ := dec_iff.1 hc
    have hN : Nat.blt (n - i).toNat (N + 1) = true := hbt
    rw [Nat.blt_eq] at hN
    refine ⟨κ0, fun _ => false, κ0Ok, ?_⟩
    have ht := dg_t N s b l v n i
    obtain ⟨k, rfl⟩ := Int.eq_ofNat_of_zero_le i0
    have hk : ((k : Nat) : Int).toNat = k := rfl
    rw [hk] at h ht
    by_cases hi : (k : Int) < n
    · obtain ⟨c0, c1⟩ := chr_rng (s.getD k 0)
      obtain ⟨d0, d1⟩ := dgt_rng c0 c1 hb hb1
      rw [decide_eq_true hi, cond_true, inB_ok (by omega) (by omega), cond_true, dgC_eq c0 c1 hb hb1, dgX_eq hb hb1 hl hl1 hv hv1 d0 d1, show w64 ((k : Int) + 1) = ((k + 1 : Nat) : Int) from (w64_id (by omega) (by omega)).trans (by omega)] at ht
      rw [getD_cons (show k < s.length by omega), dgS] at h
      generalize dgt (s.getD k 0).toNat b = d at *
      cases hq : (bif decide (d ≥ b) then true else decide (v * b + d > l)) with
      | true =>
       rw [hq] at h
       rw [hq, cond_true] at ht
       cases h
       exact ⟨_, _, congrArg crun ht, .told ⟨1, [.str s, .int .u8 0, .bool false, .int .i64 (v * b + d)], [.str s, .int .u8 0, .bool false, .junk], rfl, rfl, .cons .rfl' (.cons .rfl' (.cons .rfl' (CoL.junk Tryz.prog [.int .i64 (v * b + d)]))), fun y c' hy => ⟨c', hy, .rfl'⟩⟩⟩
      | false =>
       have hvl : v * b + d ≤ l := by
        by_cases a1 : d ≥ b
        · rw [decide_eq_true a1] at hq; cases hq
        · rw [decide_eq_false a1, cond_false] at hq
          have := of_decide_eq_false hq
          omega
       have hv0 : 0 ≤ v * b := Int.mul_nonneg hv (by omega)
       rw [hq, cond_false] at h ht
       unfold dgN at ht
       rw [show Nat.blt (n - ((k + 1 : Nat) : Int)).toNat N = true by rw [Nat.blt_eq]; omega, cond_true, dec_iff.2 ⟨hb, hb1, hl, hl1, by omega, hvl, hn, hs, by omega, by omega⟩, cond_true, show ((k + 1 : Nat) : Int).toNat = k + 1 from rfl] at ht
       refine ⟨v', ups', (congrArg crun ht).trans ?_, .same fun _ => rfl⟩
       rw [crun_cond]
       exact h
    · rw [decide_eq_false hi, cond_false] at ht
      have : s.drop k = [] := List.drop_eq_nil_of_le (by omega)
      rw [this] at h
      exact ⟨v', ups', (congrArg crun ht).trans h, .same fun _ => rfl⟩
 · cases h)
noncomputable abbrev T29 : LTab := ltab [("d", e29)]
noncomputable abbrev m29 : Code := markC [(3, "d")] body29
noncomputable def digs_b : CSumm := bodyCL Tryz.prog κ0 (fun _ => false) T29 true 300 Tryz.f98 m29
theorem digs_k0 : Known Tryz.prog 98 digs_b := ⟨⟨Tryz.f98, Tryz.func98, noNum_at noNumTry Tryz.func98, rfl⟩, bodyL_valid κ0Ok mixTry (ltab_cons dg_valid ltab_nil) Tryz.func98 (show Tryz.f98.body = some (fillC T29 m29) by kernel_rfl)⟩
theorem digs_t (s : List UInt8) (b l : Int) : digs_b [.str s, .int .u8 b, .int .u8 l] [] = bif dec (dgOk s b l 0 s.length 0) then bif (dgS b l (s.drop (0 : Int).toNat) 0).isSome then
 .ret (.tup [.int .u8 (w8 ((dgS b l (s.drop (0 : Int).toNat) 0).getD 0)), .bool (decide ((s.length : Int) > 0))]) [] else .ret (.tup [.int .u8 0, .bool false]) [] else .fail := by kernel_rfl
def dgV (b l : Int) (s : List UInt8) : Int × Bool := match dgS b l s 0 with
 | some v => (v, decide (0 < s.length))
 | none => (0, false)
theorem dgS_rng {b l : Int} (hb : 2 ≤ b) (hb1 : b ≤ 16) : ∀ (s : List UInt8) (v w : Int), 0 ≤ v → v ≤ l → dgS b l s v = some w → 0 ≤ w ∧ w ≤ l
 | [], v, w, h0, h1, h => by cases h; exact ⟨h0, h1⟩
 | c :: cs, v, w, h0, h1, h => by
  unfold dgS at h
  obtain ⟨c0, c1⟩ := chr_rng c
  obtain ⟨d0, d1⟩ := dgt_rng c0 c1 hb hb1
  generalize dgt c.toNat b = d at *
  cases hq : (bif decide (d ≥ b) then true else decide (v * b + d > l)) with
  | true => rw [hq] at h; cases h
  | false =>
   have hvl : v * b + d ≤ l := by
    by_cases a1 : d ≥ b
    · rw [decide_eq_true a1] at hq; cases hq
    · rw [decide_eq_false a1, cond_false] at hq
      have := of_decide_eq_false hq
      omega
   have hv0 : 0 ≤ v * b := Int.mul_nonneg h0 (by omega)
   rw [hq, cond_false] at h
   exact dgS_rng hb hb1 cs _ w (by omega) hvl h
noncomputable def digs_s : CSumm := fun args H => match args, H with
 | [.str s, .int .u8 b, .int .u8 l], [] => .ite (dec (2 ≤ b ∧ b ≤ 16 ∧ 0 ≤ l ∧ l ≤ 255 ∧ s.length ≤ 1000000)) (.ret (.tup [.int .u8 (dgV b l s).1, .bool (dgV b l s).2]) []) .fail
 | _, _ => .fail
theorem digs_k : Known Tryz.prog 98 digs_s := digs_k0.weak (by
 intro args H v ups h
 unfold digs_s at h
 split at h
 · rename_i s b l
   rw [crun_ite] at h
   cases hc : dec (2 ≤ b ∧ b ≤ 16 ∧ 0 ≤ l ∧ l ≤ 255 ∧ s.length ≤ 1000000) with
   | false => rw [hc] at h; cases h
   | true =>
    rw [hc, cond_true] at h
    obtain ⟨hb, hb1, hl, hl1, hs⟩ := dec_iff.1 hc
    refine (congrArg crun (digs_t s b l)).trans ?_
    rw [dec_iff.2 ⟨hb, hb1, hl, hl1, Int.le_refl _, hl, rfl, hs, Int.le_refl _, by omega⟩, cond_true, show s.drop (0 : Int).toNat = s from rfl]
    unfold dgV at h
    cases hq : dgS b l s 0 with
    | none => rw [hq] at h; exact h
    | some w =>
     obtain ⟨w0, w1⟩ := dgS_rng hb hb1 s 0 w (Int.le_refl _) hl hq
     rw [hq] at h
     show crun (bif true then .ret (.tup [.int .u8 (w8 w), .bool (decide ((s.length : Int) > 0))]) [] else _) = _
     rw [cond_true, show w8 w = w from w8_id w0 (by omega), show decide ((s.length : Int) > 0) = decide (0 < s.length) by by_cases q : 0 < s.length <;> simp [q]]
     exact h
 · cases h)
end Go.Proofs.YtpelignoebgkbaaGreatDoor
/- A string is cut at a byte. -/
namespace Go.Proofs.YtpelignoebgkbaaGreatDoor
open Go.Am
set_option maxRecDepth 100000
def cutF (c : UInt8) : List UInt8 → List UInt8 × List UInt8 × Bool
 | [] => ([], [], false)
 | x :: xs => bif x == c then ([], xs, true) else (x :: (cutF c xs).1, (cutF c xs).2.1, (cutF c xs).2.2)
theorem cutF_idx (c : UInt8) : ∀ s : List UInt8, (Lib.indexByte s c = -1 ∧ cutF c s = (s, [], false)) ∨ ∃ k : Nat, Lib.indexByte s c = k ∧ k < s.length ∧ cutF c s = (s.take k, s.drop (k + 1), true)
 | [] => .inl ⟨rfl, rfl⟩
 | x :: xs => by
  unfold Lib.indexByte cutF
  cases hx : x == c with
  | true => right; exact ⟨0, by simp, by simp, rfl⟩
  | false =>
   rw [cond_false]
   rcases cutF_idx c xs with ⟨h1, h2⟩ | ⟨k, h1, h2, h3⟩
   · left; rw [h1, h2]; exact ⟨by simp, rfl⟩
   · right
     rw [h1, h3]
     have : ((k : Int) == -1) = false := by rw [beq_eq_false_iff_ne]; omega
     refine ⟨k + 1, ?_, by simp; omega, rfl⟩
     simp only [this, Bool.false_eq_true, if_false]
     omega
theorem cut_t (s : List UInt8) (c : UInt8) : opn (tbl []) Tryz.f105 [.str s, .str [c]] [] =
 bif (bif (([c].length : Nat) : Int) == 0 then true else [c] == s) then
  (bif decide (0 ≤ w64 (0 + (([c].length : Nat) : Int))) && decide (w64 (0 + (([c].length : Nat) : Int)) ≤ s.length) && decide ((s.length : Int) ≤ s.length) then .ret (.tup [.str [], .str ((s.drop (w64 (0 + (([c].length : Nat) : Int))).toNat).take ((s.length : Int).toNat - (w64 (0 + (([c].length : Nat) : Int))).toNat)), .bool true]) [] else .fail)
 else (fun k : Int => bif decide (k ≥ 0) then bif decide ((0 : Int) ≤ 0) && decide (0 ≤ k) && decide (k ≤ s.length) then bif decide (0 ≤ w64 (k + (([c].length : Nat) : Int))) && decide (w64 (k + (([c].length : Nat) : Int)) ≤ s.length) && decide ((s.length : Int) ≤ s.length) then
   .ret (.tup [.str ((s.drop (0 : Int).toNat).take (k.toNat - (0 : Int).toNat)), .str ((s.drop (w64 (k + (([c].length : Nat) : Int))).toNat).take ((s.length : Int).toNat - (w64 (k + (([c].length : Nat) : Int))).toNat)), .bool true]) [] else .fail else .fail
  else .ret (.tup [.str s, .str [], .bool false]) []) (Lib.indexByte s (((([c].getD (0 : Int).toNat 0).toNat : Nat) : Int).toNat.toUInt8)) := by kernel_rfl
noncomputable def cut_s : CSumm := fun args H => match args, H with
 | [.str s, .str [c]], [] => .ite (decide (s.length ≤ 1000000)) (.ret (.tup [.str (cutF c s).1, .str (cutF c s).2.1, .bool (cutF c s).2.2]) []) .fail
 | _, _ => .fail
theorem slB_ok {a b n : Int} (h0 : 0 ≤ a) (h1 : a ≤ b) (h2 : b ≤ n) : (decide (0 ≤ a) && decide (a ≤ b) && decide (b ≤ n)) = true := by
 rw [decide_eq_true h0, decide_eq_true h1, decide_eq_true h2]; rfl
theorem cut_k : Known Tryz.prog 105 cut_s := (openKnown ok0 Tryz.func105 rfl).weak (by
 intro args H v ups h
 unfold cut_s at h
 split at h
 · rename_i s c
   rw [crun_ite, cond_eq_ite] at h
   split at h
   · rename_i hc
     have hs := of_decide_eq_true hc
     refine (congrArg crun (cut_t s c)).trans ?_
     have h1 : (([c].length : Nat) : Int) = 1 := rfl
     have hw : w64 (0 + 1) = 1 := w64_id (by omega) (by omega)
     have hcc : ((([c].getD (0 : Int).toNat 0).toNat : Nat) : Int).toNat.toUInt8 = c := by
      show c.toNat.toUInt8 = c
      simp
     rw [h1, hcc, show ((1 : Int) == 0) = false from rfl, cond_false, ← h]
     by_cases hq : [c] = s
     · subst hq
       rw [show ([c] == [c]) = true by simp, cond_true, hw]
       have : cutF c [c] = ([], [], true) := by unfold cutF; simp
       rw [this]
       rfl
     · rw [show ([c] == s) = false by simpa using hq, cond_false]
       rcases cutF_idx c s with ⟨h2, h3⟩ | ⟨k, h2, h3, h4⟩
       · rw [h2, h3]
         simp only []
         rw [decide_eq_false (by omega), cond_false]
       · rw [h2, h4]
         simp only []
         have hk : w64 ((k : Int) + 1) = ((k + 1 : Nat) : Int) := (w64_id (by omega) (by omega)).trans (by omega)
         have hb1 := slB_ok (a := 0) (b := (k : Int)) (n := (s.length : Int)) (Int.le_refl _) (by omega) (by omega)
         have hb2 := slB_ok (a := ((k + 1 : Nat) : Int)) (b := (s.length : Int)) (n := (s.length : Int)) (by omega) (by omega) (Int.le_refl _)
         rw [hk, hb1, hb2, decide_eq_true (show (k : Int) ≥ 0 by omega), cond_true, cond_true, cond_true]
         show crun (.ret (.tup [.str ((s.drop 0).take (k - 0)), .str ((s.drop (k + 1)).take (s.length - (k + 1))), .bool true]) []) = _
         rw [List.drop_zero, Nat.sub_zero, List.take_of_length_le (show (s.drop (k + 1)).length ≤ s.length - (k + 1) by rw [List.length_drop]; omega)]
   · cases h
 · cases h)
theorem cut2_t (s : List UInt8) (c : UInt8) : opn (tbl [(105, cut_s)]) Tryz.f97 [.str s, .str [c]] [] = bif decide (s.length ≤ 1000000) then .ret (.tup [.str (cutF c s).1, .str (cutF c s).2.1, .bool (cutF c s).2.2]) [] else .fail := by kernel_rfl
theorem cut2_k : Known Tryz.prog 97 cut_s := (openKnown (tbl_cons cut_k ok0) Tryz.func97 rfl).weak (by
 intro args H v ups h
 unfold cut_s at h
 split at h
 · rename_i s c
   rw [crun_ite] at h
   refine (congrArg crun (cut2_t s c)).trans ?_
   rw [crun_cond]
   exact h
 · cases h)
end Go.Proofs.YtpelignoebgkbaaGreatDoor
/- Decimal numbers, pairs of digits. -/
namespace Go.Proofs.YtpelignoebgkbaaGreatDoor
open Go.Am
set_option maxRecDepth 100000
def z1 (s : List UInt8) : Bool := bif decide ((s.length : Int) > 1) then ((s.getD 0 0).toNat : Int) == 48 else false
def decF (l : Int) (s : List UInt8) : Int × Bool := bif z1 s then (0, false) else dgV 10 l s
def hexF (s : List UInt8) : Int × Bool := bif ((s.length : Int) != 2) then (0, false) else dgV 16 255 s
noncomputable def dgC2 (s : List UInt8) (b l : Int) (K : Int × Bool → CTree) : CTree := bif dec (2 ≤ b ∧ b ≤ 16 ∧ 0 ≤ l ∧ l ≤ 255 ∧ s.length ≤ 1000000) then K (dgV b l s) else .fail
def zC (s : List UInt8) (K L : CTree) : CTree := bif decide ((s.length : Int) > 1) then bif inB 0 s.length then bif ((s.getD (0 : Int).toNat 0).toNat : Int) == 48 then K else L else .fail else L
theorem zC_eq (s : List UInt8) (K L : CTree) : zC s K L = bif z1 s then K else L := by
 unfold zC z1
 by_cases h : (s.length : Int) > 1
 · rw [decide_eq_true h, cond_true, cond_true, inB_ok (by decide) (by omega), cond_true]; rfl
 · rw [decide_eq_false h]; rfl
theorem decb_t (s : List UInt8) (l : Int) : opn (tbl [(98, digs_s)]) Tryz.f99 [.str s, .int .u8 l] [] = zC s (.ret (.tup [.int .u8 0, .bool false]) []) (dgC2 s 10 l fun r => .ret (.tup [.int .u8 r.1, .bool r.2]) []) := by kernel_rfl
theorem dgC2_ok {s : List UInt8} {b l : Int} (hb : 2 ≤ b) (hb1 : b ≤ 16) (hl : 0 ≤ l) (hl1 : l ≤ 255) (hs : s.length ≤ 1000000) (K : Int × Bool → CTree) : dgC2 s b l K = K (dgV b l s) := by
 unfold dgC2; rw [dec_iff.2 ⟨hb, hb1, hl, hl1, hs⟩, cond_true]
noncomputable def decb_s : CSumm := fun args H => match args, H with
 | [.str s, .int .u8 l], [] => .ite (decide (0 ≤ l ∧ l ≤ 255 ∧ s.length ≤ 1000000)) (.ret (.tup [.int .u8 (decF l s).1, .bool (decF l s).2]) []) .fail
 | _, _ => .fail
theorem decb_k : Known Tryz.prog 99 decb_s := (openKnown (tbl_cons digs_k ok0) Tryz.func99 rfl).weak (by
 intro args H v ups h
 unfold decb_s at h
 split at h
 · rename_i s l
   rw [crun_ite, cond_eq_ite] at h
   split at h
   · rename_i hc
     obtain ⟨h0, h1, hs⟩ := of_decide_eq_true hc
     refine (congrArg crun (decb_t s l)).trans ?_
     rw [zC_eq, dgC2_ok (by decide) (by decide) h0 h1 hs, ← h]
     unfold decF
     cases z1 s <;> rfl
   · cases h
 · cases h)
def rdS (r : List UInt8 → Int × Bool) : CSumm := fun args H => match args, H with
 | [.str s], [] => .ite (decide (s.length ≤ 1000000)) (.ret (.tup [.int .u8 (r s).1, .bool (r s).2]) []) .fail
 | _, _ => .fail
theorem oct_t (s : List UInt8) : opn (tbl [(99, decb_s)]) Tryz.f82 [.str s] [] = bif decide (0 ≤ (255 : Int) ∧ (255 : Int) ≤ 255 ∧ s.length ≤ 1000000) then .ret (.tup [.int .u8 (decF 255 s).1, .bool (decF 255 s).2]) [] else .fail := by kernel_rfl
theorem oct_k : Known Tryz.prog 82 (rdS (decF 255)) := (openKnown (tbl_cons decb_k ok0) Tryz.func82 rfl).weak (by
 intro args H v ups h
 unfold rdS at h
 split at h
 · rename_i s
   rw [crun_ite, cond_eq_ite] at h
   split at h
   · rename_i hc
     refine (congrArg crun (oct_t s)).trans ?_
     rw [decide_eq_true ⟨by decide, by decide, of_decide_eq_true hc⟩]
     exact h
   · cases h
 · cases h)
theorem pair_t (s : List UInt8) : opn (tbl [(98, digs_s)]) Tryz.f81 [.str s] [] = bif ((s.length : Int) != 2) then .ret (.tup [.int .u8 0, .bool false]) [] else dgC2 s 16 255 fun r => .ret (.tup [.int .u8 r.1, .bool r.2]) [] := by kernel_rfl
theorem pair_k : Known Tryz.prog 81 (rdS hexF) := (openKnown (tbl_cons digs_k ok0) Tryz.func81 rfl).weak (by
 intro args H v ups h
 unfold rdS at h
 split at h
 · rename_i s
   rw [crun_ite, cond_eq_ite] at h
   split at h
   · rename_i hc
     refine (congrArg crun (pair_t s)).trans ?_
     rw [dgC2_ok (by decide) (by decide) (by decide) (by decide) (of_decide_eq_true hc), ← h]
     unfold hexF
     cases ((s.length : Int) != 2) <;> rfl
   · cases h
 · cases h)
end Go.Proofs.YtpelignoebgkbaaGreatDoor
/- Addresses are parsed: the trees. -/
namespace Go.Proofs.YtpelignoebgkbaaGreatDoor
open Go.Am
set_option maxRecDepth 100000
abbrev w32 (n : Int) : Int := IntKind.u32.wrap n
abbrev wu64 (n : Int) : Int := IntKind.u64.wrap n
def orI (k : IntKind) (a b : Int) : Int := k.wrap (BitVec.ofInt k.bits a ||| BitVec.ofInt k.bits b).toNat
def spC (rd : List UInt8 → Int × Bool) (c : UInt8) : Nat → List UInt8 → List Int → (List Int → CTree) → CTree → CTree
 | 0, s, _, _, F => bif decide (s.length ≤ 1000000) then bif decide ((cutF c s).1.length ≤ 1000000) then bif (bif !(rd (cutF c s).1).2 then true else true) then F else (bif !(cutF c s).2.2 then .fail else .fail) else .fail else .fail
 | m + 1, s, acc, K, F => bif decide (s.length ≤ 1000000) then bif decide ((cutF c s).1.length ≤ 1000000) then bif (bif !(rd (cutF c s).1).2 then true else false) then F else
   bif !(cutF c s).2.2 then (match m with | 0 => K (acc ++ [(rd (cutF c s).1).1]) | _ + 1 => F) else spC rd c m (cutF c s).2.1 (acc ++ [(rd (cutF c s).1).1]) K F else .fail else .fail
def shO (k : IntKind) (a b : Int) : Int := orI k (k.wrap (a * 256)) (k.wrap b)
def ipO (l : List Int) : Int := shO .u32 (shO .u32 (shO .u32 (shO .u32 0 (l.getD 0 0)) (l.getD 1 0)) (l.getD 2 0)) (l.getD 3 0)
def macO (l : List Int) : Int := shO .u64 (shO .u64 (shO .u64 (shO .u64 (shO .u64 (shO .u64 0 (l.getD 0 0)) (l.getD 1 0)) (l.getD 2 0)) (l.getD 3 0)) (l.getD 4 0)) (l.getD 5 0)
noncomputable abbrev κsp := tbl [(82, rdS (decF 255)), (81, rdS hexF), (97, cut_s)]
theorem spOk : KOk Tryz.prog κsp := tbl_cons oct_k (tbl_cons pair_k (tbl_cons cut2_k ok0))
theorem pip_t (s : List UInt8) : opn κsp Tryz.f64 [.str s] [] = spC (decF 255) 46 4 s [] (fun l => .ret (.tup [.int .u32 (ipO l), .int .i64 0]) []) (.ret (.tup [.int .u32 0, .int .i64 19]) []) := by kernel_rfl
theorem pmac_t (s : List UInt8) : opn κsp Tryz.f62 [.str s] [] = spC hexF 58 6 s [] (fun l => .ret (.tup [.int .u64 (macO l), .int .i64 0]) []) (.ret (.tup [.int .u64 0, .int .i64 19]) []) := by kernel_rfl
end Go.Proofs.YtpelignoebgkbaaGreatDoor
/- Groups of digits are written. -/
namespace Go.Proofs.YtpelignoebgkbaaGreatDoor
open Go.Am
set_option maxRecDepth 100000
def figs : List UInt8 := [48, 49, 50, 51, 52, 53, 54, 55, 56, 57, 97, 98, 99, 100, 101, 102]
def andI (k : IntKind) (a b : Int) : Int := k.wrap (BitVec.ofInt k.bits a &&& BitVec.ofInt k.bits b).toNat
def hiD (x : Int) : Int := x.fdiv (2 ^ 4)
def loD (x : Int) : Int := andI .u8 x 15
def hx (n : Int) : UInt8 := UInt8.ofNat ((figs.getD n.toNat 0).toNat : Int).toNat
def pairsL : List Int → List UInt8
 | [] => []
 | [x] => [hx (hiD x), hx (loD x)]
 | x :: y :: r => hx (hiD x) :: hx (loD x) :: 58 :: pairsL (y :: r)
def pairsC : List Int → CTree → CTree
 | [], K => K
 | x :: r, K => bif inB (hiD x) figs.length then bif inB (loD x) figs.length then pairsC r K else .fail else .fail
def macL (m : Int) : List Int := [w8 (m.fdiv (2 ^ 40)), w8 (m.fdiv (2 ^ 32)), w8 (m.fdiv (2 ^ 24)), w8 (m.fdiv (2 ^ 16)), w8 (m.fdiv (2 ^ 8)), w8 (m.fdiv (2 ^ 0))]
theorem mact_t (m : Int) : opn (tbl []) Tryz.f44 [.int .u64 m] [] = bif decide (m > 281474976710655) then .ret (.tup [.str [], .int .i64 2]) [] else pairsC (macL m) (.ret (.tup [.str (pairsL (macL m)), .int .i64 0]) []) := by kernel_rfl
end Go.Proofs.YtpelignoebgkbaaGreatDoor
