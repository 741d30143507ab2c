/- The reference's numbers, known. -/
import Derived.Test.YtpelignoebgkbaaGreatDoorPart9
import Derived.Test.YtpelignoebgkbaaGreatDoorMachine7
set_option linter.unusedVariables false
set_option linter.unusedSimpArgs false
namespace Go.Proofs.YtpelignoebgkbaaGreatDoor
open Go.Am
set_option maxRecDepth 100000
theorem tdiv10 {n : Int} (h : 0 ≤ n) : Int.tdiv n 10 = n / 10 := Int.tdiv_eq_ediv_of_nonneg h
theorem rnD_eq {N : Nat} {s : List UInt8} {most v i d : Int} {o : Bool} (h9 : 9 ≤ most) (hm : most ≤ 9223372036854775807) (v0 : 0 ≤ v) (v1 : v ≤ most) (d0 : 0 ≤ d) (d1 : d ≤ 9) :
  rnD N s most v o i d = bif (bif o then true else decide (v > Int.tdiv (most - d) 10)) then rnN N s most v true (w64 (i + 1)) else rnN N s most (10 * v + d) false (w64 (i + 1)) := by
 unfold rnD
 cases o with
 | true => rfl
 | false =>
  rw [cond_false, cond_false, show w64 (most - d) = most - d from w64_id (by omega) (by omega), tdiv10 (by omega), show w64 ((most - d) / 10) = (most - d) / 10 from w64_id (by omega) (by omega)]
  by_cases hv : v > (most - d) / 10
  · rw [decide_eq_true hv]; rfl
  · rw [decide_eq_false hv, Bool.not_false, cond_true, cond_false, show w64 (10 * v) = 10 * v from w64_id (by omega) (by omega), show w64 (10 * v + d) = 10 * v + d from w64_id (by omega) (by omega)]
theorem rnX_eq {N : Nat} {s : List UInt8} {most v i c : Int} {o : Bool} (hi : inB i s.length = true) (c0 : 0 ≤ c) (c1 : c ≤ 255) : rnX N s most v o i c = bif decide (48 ≤ c) && decide (c ≤ 57) then rnD N s most v o i (c - 48) else rnR v o := by
 unfold rnX
 by_cases a1 : c < 48
 · rw [decide_eq_true a1, decide_eq_false (show ¬ 48 ≤ c by omega)]; rfl
 · rw [decide_eq_false a1, cond_false, hi, cond_true, decide_eq_true (show 48 ≤ c by omega), Bool.true_and]
   by_cases a2 : c > 57
   · rw [decide_eq_true a2, decide_eq_false (show ¬ c ≤ 57 by omega)]; rfl
   · rw [decide_eq_false a2, decide_eq_true (show c ≤ 57 by omega), cond_false, cond_true, cond_true, show w8 (c - 48) = c - 48 from w8_id (by omega) (by omega), show w64 (c - 48) = c - 48 from w64_id (by omega) (by omega)]
theorem rn_valid : ValidL Tryz.prog e36 := loop_valid5 (T := ltab []) (sp := true) (fuel := 300) (c := c36) (μ := rnM) mixTry ltab_nil (show fillC (ltab []) c36 = c36 by kernel_rfl) (by
 intro N args H v' ups' hbt h
 unfold e36 rn_s at h
 simp only [] at h
 split at h
 · rename_i s most v o i
   rw [crun_ite] at h
   cases hc : dec (rnOk s most v i) with
   | false => rw [hc] at h; cases h
   | true =>
    rw [hc, cond_true, crun_ite] at h
    obtain ⟨h9, hm, v0, v1, hs, i0, i1⟩ := dec_iff.1 hc
    have hN : Nat.blt ((s.length : Int) - i).toNat (N + 1) = true := hbt
    rw [Nat.blt_eq] at hN
    refine ⟨κ0, fun _ => false, κ0Ok, ?_⟩
    have ht := rn_t N s most v o i
    obtain ⟨k, rfl⟩ := Int.eq_ofNat_of_zero_le i0
    have hk : ((k : Nat) : Int).toNat = k := rfl
    rw [hk] at h ht
    by_cases hi : (k : Int) < s.length
    · obtain ⟨c0, c1⟩ := chr_rng (s.getD k 0)
      have hkl : k < s.length := by omega
      rw [decide_eq_true hi, cond_true, inB_ok (by omega) (by omega), cond_true, rnX_eq (inB_ok (by omega) (by omega)) c0 c1] at ht
      rw [getD_cons hkl, List.all_cons] at h
      have hd : digB (s.getD k 0) = (decide (48 ≤ ((s.getD k 0).toNat : Int)) && decide (((s.getD k 0).toNat : Int) ≤ 57)) := by
       unfold digB
       rw [Bool.eq_iff_iff]; simp only [Bool.and_eq_true, decide_eq_true_eq]; omega
      rw [hd] at h
      cases hq : (decide (48 ≤ ((s.getD k 0).toNat : Int)) && decide (((s.getD k 0).toNat : Int) ≤ 57)) with
      | false =>
       rw [hq] at h
       rw [hq, cond_false] at ht
       cases h
       exact ⟨_, _, congrArg crun ht, .told ⟨1, [.int .i64 0, .int .i64 19, .int .i64 v, .bool o], [.int .i64 0, .int .i64 19, .junk, .junk], rfl, rfl, .cons .rfl' (.cons .rfl' (CoL.junk Tryz.prog [.int .i64 v, .bool o])), fun y c' hy => ⟨c', hy, .rfl'⟩⟩⟩
      | true =>
       rw [hq, Bool.true_and, accR] at h
       rw [hq, cond_true] at ht
       simp only [Bool.and_eq_true, decide_eq_true_eq] at hq
       rw [rnD_eq h9 hm v0 v1 (by omega) (by omega), show w64 ((k : Int) + 1) = ((k + 1 : Nat) : Int) from (w64_id (by omega) (by omega)).trans (by omega)] at ht
       have next : ∀ (v2 : Int) (o2 : Bool), 0 ≤ v2 → v2 ≤ most → crun (rnN N s most v2 o2 ((k + 1 : Nat) : Int)) = crun (bif (s.drop (k + 1)).all digB then (CTree.ret (.tup [.int .i64 2, .junk, .junk, .int .i64 (accR most (s.drop (k + 1)) v2 o2).1, .bool (accR most (s.drop (k + 1)) v2 o2).2]) []) else (.ret (.tup [.int .i64 1, .int .i64 0, .int .i64 19, .junk, .junk]) [])) := by
        intro v2 o2 a0 a1
        unfold rnN
        rw [show Nat.blt ((s.length : Int) - ((k + 1 : Nat) : Int)).toNat N = true by rw [Nat.blt_eq]; omega, cond_true, dec_iff.2 ⟨h9, hm, a0, a1, hs, by omega, by omega⟩, cond_true, show ((k + 1 : Nat) : Int).toNat = k + 1 from rfl]
       refine ⟨v', ups', (congrArg crun ht).trans ?_, .same fun _ => rfl⟩
       cases hov : (bif o then true else decide (v > Int.tdiv (most - (((s.getD k 0).toNat : Int) - 48)) 10)) with
       | true =>
        rw [hov] at h
        rw [cond_true, next v true v0 v1, crun_cond]
        exact h
       | false =>
        rw [hov] at h
        have ho : ¬ v > Int.tdiv (most - (((s.getD k 0).toNat : Int) - 48)) 10 := by
         cases o with
         | true => cases hov
         | false => exact of_decide_eq_false hov
        rw [tdiv10 (by omega)] at ho
        rw [cond_false, next (10 * v + (((s.getD k 0).toNat : Int) - 48)) false (by omega) (by omega), crun_cond]
        exact h
    · rw [decide_eq_false hi, cond_false] at ht
      have : s.drop k = [] := List.drop_eq_nil_of_le (by omega)
      rw [this] at h
      exact ⟨v', ups', (congrArg crun ht).trans h, .same fun _ => rfl⟩
 · cases h)
noncomputable abbrev T36 : LTab := ltab [("r", e36)]
noncomputable abbrev m36 : Code := markC [(5, "r")] body36
noncomputable def rnum_b : CSumm := bodyCL Tryz.prog κ0 (fun _ => false) T36 true 300 Tryz.f36 m36
theorem rnum_k0 : Known Tryz.prog 36 rnum_b := ⟨⟨Tryz.f36, Tryz.func36, noNum_at noNumTry Tryz.func36, rfl⟩, bodyL_valid κ0Ok mixTry (ltab_cons rn_valid ltab_nil) Tryz.func36 (show Tryz.f36.body = some (fillC T36 m36) by kernel_rfl)⟩
noncomputable def rnL (s : List UInt8) (most : Int) : CTree := bif dec (rnOk s most 0 0) then bif (s.drop (0 : Int).toNat).all digB then
 bif (accR most (s.drop (0 : Int).toNat) 0 false).2 then .ret (.tup [.int .i64 0, .int .i64 2]) [] else .ret (.tup [.int .i64 (accR most (s.drop (0 : Int).toNat) 0 false).1, .int .i64 0]) [] else .ret (.tup [.int .i64 0, .int .i64 19]) [] else .fail
def rnZ : CTree := .ret (.tup [.int .i64 0, .int .i64 19]) []
theorem rnum_t (s : List UInt8) (most : Int) : rnum_b [.str s, .int .i64 most] [] = bif s == [] then rnZ else bif inB 0 s.length then
 bif ((s.getD (0 : Int).toNat 0).toNat : Int) == 48 then bif decide ((s.length : Int) > 1) then rnZ else rnL s most else rnL s most else .fail := by kernel_rfl
theorem digB_iff' {b : UInt8} : digB b = true ↔ 48 ≤ b.toNat ∧ b.toNat ≤ 57 := by simp [digB]
theorem accR_over {most : Int} : ∀ (s : List UInt8) (v : Int), (accR most s v true).2 = true
 | [], _ => rfl
 | b :: s, v => by rw [accR, cond_true, cond_true]; exact accR_over s v
theorem accR_accN {most : Int} (h9 : 9 ≤ most) : ∀ (s : List UInt8) (v : Int), s.all digB = true → (accN most s v).1 = !(accR most s v false).2 ∧ ((accN most s v).1 = true → (accN most s v).2 = (accR most s v false).1)
 | [], v, _ => ⟨rfl, fun _ => rfl⟩
 | b :: s, v, h => by
  simp only [List.all_cons, Bool.and_eq_true] at h
  have hd := digB_iff'.1 h.1
  unfold accN accR
  rw [cond_false, tdiv10 (by omega)]
  by_cases hv : v > (most - ((b.toNat : Int) - 48)) / 10
  · rw [if_pos hv, decide_eq_true hv, cond_true]
    exact ⟨by rw [accR_over]; rfl, fun h => by cases h⟩
  · rw [if_neg hv, decide_eq_false hv, cond_false, show v * 10 = 10 * v by omega]
    exact accR_accN h9 s _ h.2
def rnumV (most : Int) (s : List UInt8) : Int × Int := if s = [] then (19, 0) else numV most s
noncomputable def rnum_s : CSumm := fun args H => match args, H with
 | [.str s, .int .i64 most], [] => .ite (dec (9 ≤ most ∧ most ≤ 9223372036854775807 ∧ s.length ≤ 1000000)) (.ret (.tup [.int .i64 (rnumV most s).2, .int .i64 (rnumV most s).1]) []) .fail
 | _, _ => .fail
theorem rnL_v {s : List UInt8} {most : Int} (h9 : 9 ≤ most) (hm : most ≤ 9223372036854775807) (hs : s.length ≤ 1000000) (hz : ¬ (s.length > 1 ∧ s.getD 0 0 = 48)) : rnL s most = .ret (.tup [.int .i64 (numV most s).2, .int .i64 (numV most s).1]) [] := by
 unfold rnL numV
 rw [dec_iff.2 ⟨h9, hm, Int.le_refl _, by omega, hs, Int.le_refl _, by omega⟩, cond_true, show s.drop (0 : Int).toNat = s from rfl, if_neg hz]
 cases hd : s.all digB with
 | false => rfl
 | true =>
  obtain ⟨h1, h2⟩ := accR_accN h9 s 0 hd
  rw [cond_true, if_pos rfl]
  cases ho : (accR most s 0 false).2 with
  | true => rw [ho] at h1; rw [h1]; rfl
  | false => rw [ho, Bool.not_false] at h1; rw [if_pos h1, h2 h1]; rfl
theorem rnum_k : Known Tryz.prog 36 rnum_s := rnum_k0.weak (by
 intro args H v ups h
 unfold rnum_s at h
 split at h
 · rename_i s most
   rw [crun_ite] at h
   cases hc : dec (9 ≤ most ∧ most ≤ 9223372036854775807 ∧ s.length ≤ 1000000) with
   | false => rw [hc] at h; cases h
   | true =>
    obtain ⟨h9, hm, hs⟩ := dec_iff.1 hc
    rw [hc, cond_true] at h
    rw [← h]
    refine (congrArg crun (rnum_t s most)).trans ?_
    unfold rnumV
    by_cases h1 : s = []
    · rw [if_pos h1, show (s == []) = true by rw [h1]; rfl]; rfl
    · have hpos : 0 < s.length := List.length_pos_iff.2 h1
      rw [if_neg h1, show (s == []) = false by simpa using h1, cond_false, inB_ok (by omega) (by omega), cond_true]
      have h48 : (((s.getD (0 : Int).toNat 0).toNat : Int) == 48) = decide (s.getD 0 0 = 48) := by
       show (((s.getD 0 0).toNat : Int) == 48) = _
       rw [Bool.eq_iff_iff, beq_iff_eq, decide_eq_true_eq]
       constructor
       · intro e; apply UInt8.toNat_inj.1; show (s.getD 0 0).toNat = 48; omega
       · intro e; rw [e]; rfl
      rw [h48]
      by_cases h3 : s.getD 0 0 = 48
      · rw [decide_eq_true h3, cond_true]
        by_cases h4 : s.length > 1
        · rw [decide_eq_true (show (s.length : Int) > 1 by omega), cond_true]
          unfold numV
          rw [if_pos ⟨h4, h3⟩]; rfl
        · rw [decide_eq_false (show ¬ (s.length : Int) > 1 by omega), cond_false, rnL_v h9 hm hs (fun h => h4 h.1)]
      · rw [decide_eq_false h3, cond_false, rnL_v h9 hm hs (fun h => h3 h.2)]
 · cases h)
end Go.Proofs.YtpelignoebgkbaaGreatDoor
/- The reference reads a word of a line. -/
namespace Go.Proofs.YtpelignoebgkbaaGreatDoor
open Go.Am
set_option maxRecDepth 100000
def macF (s : List UInt8) : Int × Int := if s = sAll then (281474976710655, 0) else pmacV s
noncomputable def rmac_s : CSumm := fun args H => match args, H with
 | [.str s], [] => .ite (decide (s.length ≤ 1000000)) (.ret (.tup [.int .u64 (macF s).1, .int .i64 (macF s).2]) []) .fail
 | _, _ => .fail
theorem rmac_t (s : List UInt8) : opn (tbl [(65, pmac_s)]) Tryz.f37 [.str s] [] = bif s == sAll then .ret (.tup [.int .u64 281474976710655, .int .i64 0]) [] else bif decide (s.length ≤ 1000000) then .ret (.tup [.int .u64 (pmacV s).1, .int .i64 (pmacV s).2]) [] else .fail := by kernel_rfl
theorem rmac_k : Known Tryz.prog 37 rmac_s := (openKnown (tbl_cons pmx_k ok0) Tryz.func37 rfl).weak (by
 intro args H v ups h
 unfold rmac_s at h
 split at h
 · rename_i s
   rw [crun_ite, cond_eq_ite] at h
   split at h
   · rename_i hs
     refine (congrArg crun (rmac_t s)).trans ?_
     rw [← h]
     unfold macF
     by_cases h1 : s = sAll
     · rw [if_pos h1, show (s == sAll) = true by simpa using h1]; rfl
     · rw [if_neg h1, show (s == sAll) = false by simpa using h1, hs]; rfl
   · cases h
 · cases h)
def rdR (q : Nat) (s : List UInt8) (x : Cmd) : Int × Cmd :=
 match q with
 | 0 => ((rnumV 1000000000 s).1, { x with a := (rnumV 1000000000 s).2 })
 | 1 => ((rnumV 1000000000 s).1, { x with b := (rnumV 1000000000 s).2 })
 | 2 => if s = sNone then (0, { x with b := -1 }) else ((rnumV 1000000000 s).1, { x with b := (rnumV 1000000000 s).2 })
 | 3 => ((rnumV 65535 s).1, { x with b := (rnumV 65535 s).2 })
 | 4 => (if s = sUp ∨ s = sDown then 0 else 19, { x with up := s == sUp })
 | 5 => ((macF s).2, { x with m := (macF s).1 })
 | 6 => ((pipV s).2, { x with i := (pipV s).1 })
 | _ => ((rnumV 9223372036854775807 s).1, { x with d := IntKind.u64.wrap (rnumV 9223372036854775807 s).2 })
def kdB : Nat → Int
 | 0 => 97
 | 1 => 98
 | 2 => 115
 | 3 => 112
 | 4 => 117
 | 5 => 109
 | 6 => 105
 | _ => 110
noncomputable abbrev κr : Nat → Option CSumm := tbl [(36, rnum_s), (37, rmac_s), (38, pip_s)]
theorem κrOk : KOk Tryz.prog κr := tbl_cons rnum_k (tbl_cons rmac_k (tbl_cons pipr_k ok0))
noncomputable def rdO (r : Int × Cmd) : CTree := .ret (.int .i64 r.1) [(0, some (.cells 27 r.2.cs))]
noncomputable def rdT (c : Int) (s : List UInt8) (x : Cmd) : CTree := opn κr Tryz.f19 [.ptr 0 0, .int .u8 c, .str s] [(0, .cells 27 x.cs)]
noncomputable def rnC (m : Int) (s : List UInt8) (K : CTree) : CTree := bif dec (9 ≤ m ∧ m ≤ 9223372036854775807 ∧ s.length ≤ 1000000) then K else .fail
theorem rd_t0 (s : List UInt8) (x : Cmd) : rdT 97 s x = rnC 1000000000 s (rdO ((rnumV 1000000000 s).1, { x with a := (rnumV 1000000000 s).2 })) := by kernel_rfl
theorem rd_t1 (s : List UInt8) (x : Cmd) : rdT 98 s x = rnC 1000000000 s (rdO ((rnumV 1000000000 s).1, { x with b := (rnumV 1000000000 s).2 })) := by kernel_rfl
theorem rd_t2 (s : List UInt8) (x : Cmd) : rdT 115 s x = bif !(s == sNone) then rnC 1000000000 s (rdO ((rnumV 1000000000 s).1, { x with b := (rnumV 1000000000 s).2 })) else rdO (0, { x with b := -1 }) := by kernel_rfl
theorem rd_t3 (s : List UInt8) (x : Cmd) : rdT 112 s x = rnC 65535 s (rdO ((rnumV 65535 s).1, { x with b := (rnumV 65535 s).2 })) := by kernel_rfl
theorem rd_t4 (s : List UInt8) (x : Cmd) : rdT 117 s x = bif (bif !(s == sUp) then !(s == sDown) else false) then rdO (19, { x with up := s == sUp }) else rdO (0, { x with up := s == sUp }) := by kernel_rfl
theorem rd_t5 (s : List UInt8) (x : Cmd) : rdT 109 s x = bif decide (s.length ≤ 1000000) then rdO ((macF s).2, { x with m := (macF s).1 }) else .fail := by kernel_rfl
theorem rd_t6 (s : List UInt8) (x : Cmd) : rdT 105 s x = bif decide (s.length ≤ 1000000) then rdO ((pipV s).2, { x with i := (pipV s).1 }) else .fail := by kernel_rfl
theorem rd_t7 (s : List UInt8) (x : Cmd) : rdT 110 s x = rnC 9223372036854775807 s (rdO ((rnumV 9223372036854775807 s).1, { x with d := IntKind.u64.wrap (rnumV 9223372036854775807 s).2 })) := by kernel_rfl
theorem rnC_ok {m : Int} {s : List UInt8} {K : CTree} (h9 : 9 ≤ m) (hm : m ≤ 9223372036854775807) (hs : s.length ≤ 1000000) : rnC m s K = K := by
 unfold rnC
 rw [dec_iff.2 ⟨h9, hm, hs⟩, cond_true]
theorem rdT_eq {s : List UInt8} (hs : s.length ≤ 1000000) (x : Cmd) (q : Nat) (hq : q < 8) : rdT (kdB q) s x = rdO (rdR q s x) := by
 match q, hq with
 | 0, _ => exact (rd_t0 s x).trans (rnC_ok (by decide) (by decide) hs)
 | 1, _ => exact (rd_t1 s x).trans (rnC_ok (by decide) (by decide) hs)
 | 2, _ =>
  refine (rd_t2 s x).trans ?_
  unfold rdR
  simp only []
  by_cases h : s = sNone
  · rw [if_pos h, show (s == sNone) = true by simpa using h]; rfl
  · rw [if_neg h, show (s == sNone) = false by simpa using h, Bool.not_false, cond_true]
    exact rnC_ok (by decide) (by decide) hs
 | 3, _ => exact (rd_t3 s x).trans (rnC_ok (by decide) (by decide) hs)
 | 4, _ =>
  refine (rd_t4 s x).trans ?_
  unfold rdR
  simp only []
  by_cases h : s = sUp
  · rw [if_pos (.inl h), show (s == sUp) = true by simpa using h]; rfl
  · rw [show (s == sUp) = false by simpa using h, Bool.not_false, cond_true]
    by_cases h2 : s = sDown
    · rw [if_pos (.inr h2), show (s == sDown) = true by simpa using h2]; rfl
    · rw [if_neg (by rintro (e | e); exact h e; exact h2 e), show (s == sDown) = false by simpa using h2]; rfl
 | 5, _ => refine (rd_t5 s x).trans ?_; rw [decide_eq_true hs, cond_true]; rfl
 | 6, _ => refine (rd_t6 s x).trans ?_; rw [decide_eq_true hs, cond_true]; rfl
 | 7, _ => exact (rd_t7 s x).trans (rnC_ok (by decide) (by decide) hs)
def kdOf (c : Int) : Option Nat := ([0, 1, 2, 3, 4, 5, 6, 7] : List Nat).find? fun q => kdB q == c
noncomputable def rread_s : CSumm := fun args H => match args, H with
 | [.ptr 0 0, .int .u8 c, .str s], [(0, .cells 27 cs)] => match kdOf c with
  | some q => .ite (dec (cs = (asCmd cs).cs ∧ s.length ≤ 1000000)) (.ret (.int .i64 (rdR q s (asCmd cs)).1) [(0, some (.cells 27 (rdR q s (asCmd cs)).2.cs))]) .fail
  | none => .fail
 | _, _ => .fail
theorem rread_k0 : Known Tryz.prog 19 (opn κr Tryz.f19) := openKnown κrOk Tryz.func19 rfl
theorem rread_k : Known Tryz.prog 19 rread_s := rread_k0.weak (by
 intro args H v ups h
 unfold rread_s at h
 split at h
 · rename_i c s cs
   split at h
   · rename_i q hq
     rw [crun_ite, cond_eq_ite] at h
     split at h
     · rename_i hc
       obtain ⟨hcs, hs⟩ := dec_iff.1 hc
       have hm := List.mem_of_find?_eq_some hq
       have hc := List.find?_some hq
       have hc2 : kdB q = c := by simpa using hc
       have hq8 : q < 8 := by
        simp only [List.mem_cons, List.not_mem_nil, or_false] at hm
        omega
       subst hc2
       have hk := rdT_eq hs (asCmd cs) q hq8
       generalize asCmd cs = x at hcs hk h
       subst hcs
       show crun (rdT (kdB q) s x) = _
       rw [hk]
       exact h
     · cases h
   · cases h
 · cases h)
end Go.Proofs.YtpelignoebgkbaaGreatDoor
/- The reference's words of a line: its loop. -/
namespace Go.Proofs.YtpelignoebgkbaaGreatDoor
open Go.Am
set_option maxRecDepth 100000
def wlF : List SV → Int → List SV
 | [], _ => []
 | w :: ws, a => .agg [.str (asS w), .int .i64 a] :: wlF ws (a + ((asS w).length + 1))
def wlOk (ws es : List SV) (m : Nat) (i a : Int) : Prop := m = es.length ∧ 0 ≤ i ∧ i ≤ ws.length ∧ ws.length ≤ 2000000 ∧ (es.length : Int) ≤ i ∧ 0 ≤ a ∧ a + lenS (ws.drop i.toNat) ≤ 4000000
noncomputable def body17 : Code := Tryz.f17.body.getD .skip
noncomputable def c17 : Code := (loopAt 4 body17).getD .skip
noncomputable def wl_s : CSumm := fun args H => match args, H with
 | [.psl 9 ws, .qs 0 2 0 m, .int .i64 i, .int .i64 a], [(0, .seq 51 es)] => .ite (dec (wlOk ws es m i a))
   (.ret (.tup [.int .i64 2, .qs 1 2 0 (es ++ wlF (ws.drop i.toNat) a).length]) [(0, none), (1, some (.seq 51 (es ++ wlF (ws.drop i.toNat) a)))]) .fail
 | _, _ => .fail
def wlM : List SV → HpL → Nat
 | [.psl _ ws, _, .int _ i, _], _ => ((ws.length : Int) - i).toNat
 | _, _ => 0
noncomputable def e17 : LEnt := { ins := [4, 3, 6, 5], outs := [3], keep := [], size := 33, code := c17, s := wl_s }
noncomputable def wlN (N : Nat) (ws es : List SV) (m : Nat) (i a : Int) : CTree := bif Nat.blt ((ws.length : Int) - i).toNat N then bif dec (wlOk ws es m i a) then
  .ret (.tup [.int .i64 2, .qs 1 2 0 (es ++ wlF (ws.drop i.toNat) a).length]) [(0, none), (1, some (.seq 51 (es ++ wlF (ws.drop i.toNat) a)))] else .fail else .fail
theorem wl_t (N : Nat) (ws es : List SV) (m : Nat) (i a : Int) : loopOnce Tryz.prog κ0 (fun _ => false) (ltab []) true 300 e17 { e17 with s := boundT wlM wl_s N } c17 [.psl 9 ws, .qs 0 2 0 m, .int .i64 i, .int .i64 a] [(0, .seq 51 es)] =
 bif decide (i < ws.length) then bif inB i ws.length then bif decide (m = es.length) then bif decide (es.length + 1 ≤ 9223372036854775807) && decide ((es.length + 1) * Tryz.prog.types[51].bytes ≤ 140737488355328) then
  bif inB i ws.length then wlN N ws (es ++ [.agg [.str (asS (ws.getD i.toNat .junk)), .int .i64 a]]) (es.length + 1) (w64 (i + 1)) (w64 (w64 (a + (asS (ws.getD i.toNat .junk)).length) + 1)) else .fail else .fail else .fail else .fail
 else .ret (.tup [.int .i64 2, .qs 0 2 0 m]) [] := by kernel_rfl
end Go.Proofs.YtpelignoebgkbaaGreatDoor
/- The reference's words of a line, known. -/
namespace Go.Proofs.YtpelignoebgkbaaGreatDoor
open Go.Am
set_option maxRecDepth 100000
theorem b51 : decide (Tryz.prog.types[51].bytes ≤ 1000) = true := by kernel_rfl
theorem wlx_exit {es : List SV} : ChainL Tryz.prog [(0, .seq 51 es)] (.tup [.int .i64 2, .qs 0 2 0 es.length]) [] (.tup [.int .i64 2, .qs 1 2 0 es.length]) [(0, none), (1, some (.seq 51 es))] := by
 refine .ren ⟨0, 1, by simp, by simp [namesS, namesL], fun x c hx => ?_, rfl, fun x => ?_⟩
 · simp only [updF] at hx
   have := HpL_get_some _ _ _ hx
   simp only [List.mem_cons, Prod.mk.injEq, List.not_mem_nil, or_false] at this
   obtain ⟨_, rfl⟩ := this
   simp [namesC]
 · match x with
   | 0 => rfl | 1 => rfl
   | x + 2 => simp only [updF, HpL.get, show ¬ (x + 2 = 1) by omega, show ¬ (x + 2 = 0) by omega, if_false, show Nat.beq 0 (x + 2) = false from nb_f (by omega), cond_false, Option.map_none]
theorem wl_valid : ValidL Tryz.prog e17 := loop_valid5 (T := ltab []) (sp := true) (fuel := 300) (c := c17) (μ := wlM) mixTry ltab_nil (show fillC (ltab []) c17 = c17 by kernel_rfl) (by
 intro N args H v' ups' hbt hr
 unfold e17 wl_s at hr
 simp only [] at hr
 split at hr
 · rename_i ws m i a es
   rw [crun_ite] at hr
   cases hc : dec (wlOk ws es m i a) with
   | false => rw [hc] at hr; cases hr
   | true =>
    rw [hc, cond_true] at hr
    obtain ⟨rfl, i0, i1, nl, he, a0, a1⟩ := dec_iff.1 hc
    have hN : Nat.blt ((ws.length : Int) - i).toNat (N + 1) = true := hbt
    rw [Nat.blt_eq] at hN
    refine ⟨κ0, fun _ => false, κ0Ok, ?_⟩
    have ht := wl_t N ws es es.length i a
    obtain ⟨k, rfl⟩ := Int.eq_ofNat_of_zero_le i0
    have hk : ((k : Nat) : Int).toNat = k := rfl
    rw [hk] at hr ht a1
    by_cases hi : (k : Int) < ws.length
    · have hkl : k < ws.length := by omega
      have hls := lenS_drop hkl
      have hb := of_decide_eq_true b51
      have hb2 : (es.length + 1) * Tryz.prog.types[51].bytes ≤ (es.length + 1) * 1000 := Nat.mul_le_mul_left _ hb
      rw [decide_eq_true hi, cond_true, inB_ok (by omega) (by omega), cond_true, decide_eq_true rfl, cond_true, decide_eq_true (show es.length + 1 ≤ 9223372036854775807 by omega), decide_eq_true (show (es.length + 1) * Tryz.prog.types[51].bytes ≤ 140737488355328 by omega), Bool.true_and, cond_true, cond_true] at ht
      have ea : w64 (w64 (a + (asS (ws.getD k .junk)).length) + 1) = a + ((asS (ws.getD k .junk)).length + 1) := by
       rw [show w64 (a + ((asS (ws.getD k .junk)).length : Int)) = a + (asS (ws.getD k .junk)).length from w64_id (by omega) (by omega), show w64 (a + ((asS (ws.getD k .junk)).length : Int) + 1) = a + (asS (ws.getD k .junk)).length + 1 from w64_id (by omega) (by omega)]
       omega
      rw [show w64 ((k : Int) + 1) = ((k + 1 : Nat) : Int) from (w64_id (by omega) (by omega)).trans (by omega), ea] at ht
      unfold wlN at ht
      rw [show Nat.blt ((ws.length : Int) - ((k + 1 : Nat) : Int)).toNat N = true by rw [Nat.blt_eq]; omega, cond_true, dec_iff.2 ⟨by rw [List.length_append, List.length_singleton], by omega, by omega, nl, by rw [List.length_append, List.length_singleton]; omega, by omega, by rw [show ((k + 1 : Nat) : Int).toNat = k + 1 from rfl]; omega⟩, cond_true, show ((k + 1 : Nat) : Int).toNat = k + 1 from rfl] at ht
      rw [getD_cons' hkl, wlF] at hr
      refine ⟨v', ups', (congrArg crun ht).trans ?_, .same fun _ => rfl⟩
      rw [List.append_assoc, List.singleton_append]
      exact hr
    · rw [decide_eq_false hi, cond_false] at ht
      have : ws.drop k = [] := List.drop_eq_nil_of_le (by omega)
      rw [this, wlF, List.append_nil] at hr
      cases hr
      exact ⟨_, _, congrArg crun ht, wlx_exit⟩
 · cases hr)
abbrev fs17 : List (Option (Nat × Nat)) := [none, some (51, 2), none, none]
noncomputable def e17j : LEnt := { e17 with s := inN fs17 wl_s }
theorem wl_in : ValidL Tryz.prog e17j := loop_inN wl_valid (fs := fs17)
noncomputable abbrev T17 : LTab := ltab [("w", e17j)]
noncomputable abbrev m17 : Code := markC [(4, "w")] body17
noncomputable abbrev κw : Nat → Option CSumm := tbl [(22, spl_s)]
theorem κwOk : KOk Tryz.prog κw := tbl_cons spl_k ok0
noncomputable def wl_b : CSumm := bodyCL Tryz.prog κw (fun _ => false) T17 true 300 Tryz.f17 m17
theorem wl_k0 : Known Tryz.prog 17 wl_b := ⟨⟨Tryz.f17, Tryz.func17, noNum_at noNumTry Tryz.func17, rfl⟩, bodyL_valid κwOk mixTry (ltab_cons wl_in ltab_nil) Tryz.func17 (show Tryz.f17.body = some (fillC T17 m17) by kernel_rfl)⟩
theorem wlk_t (s : List UInt8) : wl_b [.str s] [] = bif decide (s.length ≤ 1000000) then bif dec (wlOk ((spl 32 s).map SV.str) [] 0 0 0) then
 .ret (.qs 0 2 0 ([] ++ wlF (((spl 32 s).map SV.str).drop (0 : Int).toNat) 0).length) [(0, some (.seq 51 ([] ++ wlF (((spl 32 s).map SV.str).drop (0 : Int).toNat) 0)))] else .fail else .fail := by kernel_rfl
def rwords (s : List UInt8) : List SV := wlF ((spl 32 s).map SV.str) 0
noncomputable def rwords_s : CSumm := fun args H => match args, H with
 | [.str s], [] => .ite (decide (s.length ≤ 1000000)) (.ret (.psl 51 (rwords s)) []) .fail
 | _, _ => .fail
theorem rwords_k : Known Tryz.prog 17 rwords_s := known_told wl_k0 (by
 intro args H v' ups' h
 unfold rwords_s at h
 split at h
 · rename_i s
   rw [crun_ite, cond_eq_ite] at h
   split at h
   · rename_i hc
     have hs := of_decide_eq_true hc
     have ht := wlk_t s
     have hl : (spl 32 s).length ≤ s.length + 1 := splR_len 32 s []
     have hS : lenS ((spl 32 s).map SV.str) = s.length + 0 + 1 := splR_lenS 32 s []
     rw [decide_eq_true hs, cond_true, dec_iff.2 ⟨rfl, Int.le_refl _, by omega, by rw [List.length_map]; omega, by simp, Int.le_refl _, by rw [show (0 : Int).toNat = 0 from rfl, List.drop_zero, hS]; omega⟩, cond_true, List.nil_append, show (0 : Int).toNat = 0 from rfl, List.drop_zero] at ht
     cases h
     refine ⟨_, _, congrArg crun ht, .inl ⟨0, 51, _, rfl, .qs rfl, fun x c' hx => ?_⟩⟩
     simp [updF, HpL.get] at hx
   · cases h
 · cases h)
end Go.Proofs.YtpelignoebgkbaaGreatDoor
