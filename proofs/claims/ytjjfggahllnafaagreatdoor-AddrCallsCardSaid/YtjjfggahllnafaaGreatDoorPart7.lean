/- AddrCalls: the reference's ParsePrefix, known. -/
import Derived.Test.YtjjfggahllnafaaGreatDoorPart6
import Derived.Test.YtjjfggahllnafaaGreatDoorPart3
import Derived.Test.YtjjfggahllnafaaGreatDoorPart4
import Derived.Test.YtjjfggahllnafaaGreatDoorPart5
import Derived.ChangeSame
import Derived.ChangeVars
import Derived.RowKit
import Derived.LaidLaws
import Derived.MakeChecks
import Derived.Lib.LaidTab
import Derived.Lay
import Derived.SevenTiedAt
import Derived.Test.YtjjfggahllnafaaGreatDoorTie
import Derived.Test.YtjjfggahllnafaaGreatDoorCards
set_option linter.unusedVariables false
set_option linter.unusedSimpArgs false
namespace Go.Proofs.YtjjfggahllnafaaGreatDoor
open Go.Am
set_option maxRecDepth 100000
theorem nuS_no : ∀ (s : List UInt8) (v w : Int), nuS s v = some w → (cutF 47 s).2.2 = false
 | [], v, w, h => rfl
 | c :: cs, v, w, h => by
  rw [nuS] at h
  cases hq : decide (48 ≤ c.toNat) && decide (c.toNat ≤ 57) with
  | false => rw [hq] at h; cases h
  | true =>
   rw [hq, cond_true] at h
   have hc : (c == 47) = false := by
    rw [beq_eq_false_iff_ne]
    intro e; subst e
    cases hq
   rw [cutF, hc, cond_false]
   exact nuS_no cs _ w h
theorem cut_no {c : UInt8} {s : List UInt8} (h : (cutF c s).2.2 = false) : (cutF c s).1 = s ∧ (cutF c s).2.1 = [] := by
 rcases cutF_idx c s with ⟨_, h2⟩ | ⟨k, _, _, h2⟩
 · rw [h2]; exact ⟨rfl, rfl⟩
 · rw [h2] at h; cases h
theorem nuV_no {l : Int} {s : List UInt8} (h : (nuV l s).2 = true) : (cutF 47 s).2.2 = false := by
 unfold nuV at h
 cases h1 : (s == [] || (decide (s.length > 10) || (s.getD 0 0 == 48 && decide (s.length > 1)))) with
 | true => rw [h1] at h; cases h
 | false =>
  rw [h1, cond_false] at h
  cases h2 : nuS s 0 with
  | none => rw [h2] at h; cases h
  | some w => exact nuS_no s 0 w h2
theorem pip_rng (s : List UInt8) : 0 ≤ (pipV s).1 ∧ (pipV s).1 < 4294967296 := by
 have w : ∀ n : Int, 0 ≤ IntKind.u32.wrap n ∧ IntKind.u32.wrap n < 4294967296 := fun n => by simp [IntKind.wrap, IntKind.bits, IntKind.signed]; omega
 unfold pipV
 cases spF (decF 255) 46 4 s with
 | none => exact ⟨Int.le_refl _, by decide⟩
 | some l => exact w _
theorem bv_andn (u m : BitVec 32) : u &&& m = u ↔ u &&& ~~~m = 0#32 := by
 constructor
 · intro h
   apply BitVec.eq_of_getLsbD_eq
   intro i hi
   have := congrArg (fun x => BitVec.getLsbD x i) h
   simp only [BitVec.getLsbD_and] at this
   simp only [BitVec.getLsbD_and, BitVec.getLsbD_not, BitVec.getLsbD_zero, hi, decide_true, Bool.true_and]
   revert this
   cases u.getLsbD i <;> cases m.getLsbD i <;> simp
 · intro h
   apply BitVec.eq_of_getLsbD_eq
   intro i hi
   have := congrArg (fun x => BitVec.getLsbD x i) h
   simp only [BitVec.getLsbD_and, BitVec.getLsbD_not, BitVec.getLsbD_zero, hi, decide_true, Bool.true_and] at this
   simp only [BitVec.getLsbD_and]
   revert this
   cases u.getLsbD i <;> cases m.getLsbD i <;> simp
theorem an_cln {a l : Int} (h0 : 0 ≤ a) (h1 : a < 4294967296) : (anI a (mskI l) != 0) = !(clnI a l == a) := by
 obtain ⟨n, rfl⟩ := Int.eq_ofNat_of_zero_le h0
 have wi : ∀ u : BitVec 32, IntKind.u32.wrap (u.toNat : Int) = (u.toNat : Int) := fun u => by have := u.isLt; simp [IntKind.wrap, IntKind.bits, IntKind.signed]; omega
 have hn : (BitVec.ofInt 32 (n : Int)).toNat = n := ofInt_nat (k := 32) (by omega)
 have e1 : anI (n : Int) (mskI l) = ((BitVec.ofInt 32 (n : Int) &&& ~~~ BitVec.ofInt 32 (mskI l)).toNat : Int) := wi _
 have e2 : clnI (n : Int) l = ((BitVec.ofInt 32 (n : Int) &&& BitVec.ofInt 32 (mskI l)).toNat : Int) := wi _
 rw [e1, e2]
 generalize BitVec.ofInt 32 (mskI l) = m
 generalize BitVec.ofInt 32 (n : Int) = u at *
 subst hn
 have hb := bv_andn u m
 cases hq : (((u &&& m).toNat : Int) == (u.toNat : Int)) with
 | true =>
  have : u &&& m = u := BitVec.eq_of_toNat_eq (by have := beq_iff_eq.1 hq; omega)
  rw [hb.1 this]; rfl
 | false =>
  have h3 : ¬ u &&& ~~~m = 0#32 := fun e => by rw [hb.2 e] at hq; simp at hq
  rw [Bool.not_false, bne_iff_ne]
  intro e
  exact h3 (BitVec.eq_of_toNat_eq (by show _ = 0; omega))
theorem rpC_ok {s : List UInt8} (hs : s.length ≤ 1000000) : rpC ((spl 47 s).map SV.str) = .ret (.tup [.agg [.int .u32 (ppreV s).1.1, .int .i64 (ppreV s).1.2], .int .i64 (ppreV s).2]) [] := by
 have hc := spl_cut 47 s
 rw [show ((UInt8.toNat 47 : Nat) : Int) = 47 from rfl] at hc
 obtain ⟨hl1, hl2⟩ := cutF_len 47 s
 have nd := nu_dec (l := 32) (by decide) (by decide) (cutF 47 s).2.1
 have bad : (decF 32 (cutF 47 s).2.1).2 = false → (ppreV s) = ((0, 0), 19) := by
  intro h
  unfold ppreV
  rw [h]
  cases (pipV (cutF 47 s).1).2 != 0 <;> rfl
 have z : (CTree.ret (.tup [.agg [.int .u32 0, .int .i64 0], .int .i64 19]) []) = zP 19 := rfl
 cases h1 : (cutF 47 s).2.2 with
 | false =>
  rw [h1, cond_false] at hc
  rw [bad (by rw [(cut_no h1).2]; rfl), hc]
  rfl
 | true =>
  rw [h1, cond_true] at hc
  have hd := spl_cut 47 (cutF 47 s).2.1
  rw [show ((UInt8.toNat 47 : Nat) : Int) = 47 from rfl] at hd
  cases h2 : (cutF 47 (cutF 47 s).2.1).2.2 with
  | true =>
   have hf : (decF 32 (cutF 47 s).2.1).2 = false := by
    cases hx : (decF 32 (cutF 47 s).2.1).2 with
    | false => rfl
    | true => rw [nuV_no (nd.1.trans hx)] at h2; cases h2
   rw [h2, cond_true] at hd
   obtain ⟨x, L, hL⟩ : ∃ x L, spl 47 (cutF 47 (cutF 47 s).2.1).2.1 = x :: L := ⟨_, _, spl_cut 47 _⟩
   rw [bad hf, hc, hd, hL]
   unfold rpC
   rw [show ((((((cutF 47 s).1 :: (cutF 47 (cutF 47 s).2.1).1 :: x :: L).map SV.str).length : Nat) : Int) != 2) = true from by
    rw [bne_iff_ne]; simp only [List.length_map, List.length_cons]; omega]
   rfl
  | false =>
   rw [h2, cond_false, (cut_no h2).1] at hd
   rw [hc, hd]
   show (bif ((2 : Nat) : Int) != 2 then zP 19 else bif inB 0 2 then bif decide ((cutF 47 s).1.length ≤ 1000000) then bif inB 1 2 then rpX (cutF 47 s).1 (cutF 47 s).2.1 else .fail else .fail else .fail) = _
   rw [show (((2 : Nat) : Int) != 2) = false from rfl, cond_false, show inB 0 2 = true from rfl, cond_true, decide_eq_true (by omega), cond_true, show inB 1 2 = true from rfl, cond_true]
   unfold rpX ppreV
   rw [nd.1]
   cases h3 : (bif (pipV (cutF 47 s).1).2 != 0 then true else !(decF 32 (cutF 47 s).2.1).2) with
   | true => rfl
   | false =>
    rw [cond_false, cond_false]
    have hok : (decF 32 (cutF 47 s).2.1).2 = true := by
     cases hx : (decF 32 (cutF 47 s).2.1).2 with
     | true => rfl
     | false => rw [hx] at h3; cases hy : (pipV (cutF 47 s).1).2 != 0 <;> rw [hy] at h3 <;> cases h3
    obtain ⟨d0, d1⟩ := dec_rng (l := 32) (by decide) _ hok
    obtain ⟨p0, p1⟩ := pip_rng (cutF 47 s).1
    rw [nd.2 hok]
    generalize (decF 32 (cutF 47 s).2.1).1 = l at *
    generalize (pipV (cutF 47 s).1).1 = a at *
    have hv : vld l = true := (vld_iff l).2 ⟨d0, d1⟩
    rw [hv, cond_true, an_cln p0 p1]
    have hcl : clnV a l = (clnI a l, l, 0) := by unfold clnV; rw [hv]; rfl
    rw [hcl]
    simp only [beq_self_eq_true, Bool.and_true]
    cases clnI a l == a <;> rfl
theorem pprer_k : Known Tryz.prog 56 ppre_s := (openKnown rpOk Tryz.func56 rfl).weak (by
 intro args H v ups h
 unfold ppre_s at h
 split at h
 · rename_i s
   rw [crun_ite, cond_eq_ite] at h
   split at h
   · rename_i hc
     refine (congrArg crun (rp_t s)).trans ?_
     rw [hc, cond_true, rpC_ok (of_decide_eq_true hc)]
     exact h
   · cases h
 · cases h)
end Go.Proofs.YtjjfggahllnafaaGreatDoor
/- AddrCalls: the segment of an identifier. -/
namespace Go.Proofs.YtjjfggahllnafaaGreatDoor
open Go.Am
set_option maxRecDepth 100000
def l10 (l : List Int) : List Int := [l.getD 0 0, l.getD 1 0, l.getD 2 0, l.getD 3 0, l.getD 4 0, l.getD 5 0, l.getD 6 0, l.getD 7 0, l.getD 8 0, l.getD 9 0]
def eq10 (l m : List Int) : Bool := l.getD 0 0 == m.getD 0 0 && (l.getD 1 0 == m.getD 1 0 && (l.getD 2 0 == m.getD 2 0 && (l.getD 3 0 == m.getD 3 0 && (l.getD 4 0 == m.getD 4 0 && (l.getD 5 0 == m.getD 5 0 && (l.getD 6 0 == m.getD 6 0 && (l.getD 7 0 == m.getD 7 0 && (l.getD 8 0 == m.getD 8 0 && (l.getD 9 0 == m.getD 9 0)))))))))
def nbT (n : Int) (b : Bool) : CTree := .ret (.tup [.int .i64 n, .bool b]) []
theorem es_t (a b c d e f g h i j : Int) : opn (tbl [(17, sg_s), (27, ce_s)]) Tryz.f19 [es8 [a, b, c, d, e, f, g, h, i, j]] [] =
 bif (sgV (w64 (w64 j - 1))).2 != 0 then nbT 0 false else bif dec (bytesI (l10 (sgV (w64 (w64 j - 1))).1) ∧ bytesI (l10 [a, b, c, d, e, f, g, h, i, j])) then
  bif ceF 10 0 (l10 (sgV (w64 (w64 j - 1))).1) (l10 [a, b, c, d, e, f, g, h, i, j]) != 0 then nbT 0 false else nbT (w64 (w64 j - 1)) true else .fail := by kernel_rfl
def seT : Nat → Int → List Int → CTree
 | 0, _, _ => nbT 0 false
 | k + 1, s, l => bif eq10 (sgV s).1 l then nbT s true else seT k (w64 (s + 1)) l
theorem esr_t (a b c d e f g h i j : Int) : opn (tbl [(18, sg_s)]) Tryz.f20 [es8 [a, b, c, d, e, f, g, h, i, j]] [] = seT 64 0 [a, b, c, d, e, f, g, h, i, j] := by kernel_rfl
/- Plainly. -/
def hdB (l : List Int) : Bool := l.getD 0 0 == 3 && (l.getD 1 0 == 0 && (l.getD 2 0 == 0 && (l.getD 3 0 == 0 && (l.getD 4 0 == 0 && (l.getD 5 0 == 0 && (l.getD 6 0 == 0 && (l.getD 7 0 == 0 && (l.getD 8 0 == 0))))))))
def esV (l : List Int) : Int × Bool := bif hdB l && (decide (1 ≤ l.getD 9 0) && decide (l.getD 9 0 ≤ 64)) then (l.getD 9 0 - 1, true) else (0, false)
theorem cmpV_z {a b : Int} : cmpV a b = 0 ↔ a = b := by
 unfold cmpV
 by_cases h : a < b
 · rw [decide_eq_true h, cond_true]; constructor <;> intro h' <;> omega
 · rw [decide_eq_false h, cond_false]
   by_cases h2 : a > b
   · rw [decide_eq_true h2, cond_true]; constructor <;> intro h' <;> omega
   · rw [decide_eq_false h2, cond_false]; constructor <;> intro h' <;> omega
theorem ceF_z : ∀ (k i : Nat) (a b : List Int), ceF k i a b = 0 ↔ ∀ d, d < k → a.getD (i + d) 0 = b.getD (i + d) 0
 | 0, _, _, _ => by simp [ceF]
 | k + 1, i, a, b => by
  unfold ceF
  by_cases h : cmpV (a.getD i 0) (b.getD i 0) = 0
  · rw [show (cmpV (a.getD i 0) (b.getD i 0) != 0) = false by rw [h]; rfl, cond_false, ceF_z k (i + 1) a b]
    have h0 := cmpV_z.1 h
    constructor
    · intro hd d hk
      cases d with
      | zero => exact h0
      | succ d => have := hd d (by omega); rwa [show i + 1 + d = i + (d + 1) by omega] at this
    · intro hd d hk
      have := hd (d + 1) (by omega)
      rwa [show i + (d + 1) = i + 1 + d by omega] at this
  · rw [show (cmpV (a.getD i 0) (b.getD i 0) != 0) = true from bne_iff_ne.2 h, cond_true]
    constructor
    · intro h'; exact absurd h' h
    · intro hd; exact absurd (cmpV_z.2 (hd 0 (by omega))) h
theorem sg_in {s : Int} (h0 : 0 ≤ s) (h1 : s < 64) : sgV s = ([3, 0, 0, 0, 0, 0, 0, 0, 0, s + 1], 0) := by
 unfold sgV sgB
 rw [decide_eq_false (by omega), decide_eq_false (by omega), cond_false, cond_false, show w64 (s + 1) = s + 1 from w64_id (by omega) (by omega), show w8 (s + 1) = s + 1 from w8_id (by omega) (by omega)]
theorem sg_out {s : Int} (h : s < 0 ∨ 64 ≤ s) : sgV s = ([0, 0, 0, 0, 0, 0, 0, 0, 0, 0], 2) := by
 unfold sgV sgB
 rcases h with h | h
 · rw [decide_eq_true h]; rfl
 · rw [decide_eq_true (show s ≥ 64 from h)]; cases decide (s < 0) <;> rfl
theorem eq_sg (l : List Int) (n : Int) : eq10 [3, 0, 0, 0, 0, 0, 0, 0, 0, n] l = (hdB l && decide (l.getD 9 0 = n)) := by
 rw [Bool.eq_iff_iff]
 simp only [eq10, hdB, List.getD_cons_zero, List.getD_cons_succ, Bool.and_eq_true, beq_iff_eq, decide_eq_true_eq]
 constructor
 · rintro ⟨h0, h1, h2, h3, h4, h5, h6, h7, h8, h9⟩
   exact ⟨⟨h0.symm, h1.symm, h2.symm, h3.symm, h4.symm, h5.symm, h6.symm, h7.symm, h8.symm⟩, h9.symm⟩
 · rintro ⟨⟨h0, h1, h2, h3, h4, h5, h6, h7, h8⟩, h9⟩
   exact ⟨h0.symm, h1.symm, h2.symm, h3.symm, h4.symm, h5.symm, h6.symm, h7.symm, h8.symm, h9.symm⟩
theorem seT_v (l : List Int) : ∀ (k : Nat) (s : Int), 0 ≤ s → s + k = 64 → seT k s l = bif hdB l && (decide (s + 1 ≤ l.getD 9 0) && decide (l.getD 9 0 ≤ 64)) then nbT (l.getD 9 0 - 1) true else nbT 0 false
 | 0, s, h0, h1 => by
  have : (decide (s + 1 ≤ l.getD 9 0) && decide (l.getD 9 0 ≤ 64)) = false := by
   rw [Bool.and_eq_false_iff]
   by_cases h : s + 1 ≤ l.getD 9 0
   · exact .inr (decide_eq_false (by omega))
   · exact .inl (decide_eq_false h)
  rw [this, Bool.and_false]; rfl
 | k + 1, s, h0, h1 => by
  unfold seT
  rw [sg_in h0 (by omega)]
  simp only []
  rw [eq_sg, show w64 (s + 1) = s + 1 from w64_id (by omega) (by omega), seT_v l k (s + 1) (by omega) (by omega)]
  cases hdB l with
  | false => rfl
  | true =>
   rw [Bool.true_and, Bool.true_and, Bool.true_and]
   by_cases h : l.getD 9 0 = s + 1
   · rw [decide_eq_true h, cond_true, decide_eq_true (by omega), decide_eq_true (by omega), h]
     show nbT s true = nbT (s + 1 - 1) true
     rw [show s + 1 - 1 = s by omega]
   · rw [decide_eq_false h, cond_false]
     by_cases h' : s + 1 ≤ l.getD 9 0
     · rw [decide_eq_true h', decide_eq_true (show s + 1 + 1 ≤ l.getD 9 0 by omega)]
     · rw [decide_eq_false h', decide_eq_false (show ¬ s + 1 + 1 ≤ l.getD 9 0 by omega)]
noncomputable def es_s : CSumm := fun args H => match args, H with
 | [.agg [.int .u8 a, .int .u8 b, .int .u8 c, .int .u8 d, .int .u8 e, .int .u8 f, .int .u8 g, .int .u8 h, .int .u8 i, .int .u8 j]], [] =>
  .ite (dec (bytesI [a, b, c, d, e, f, g, h, i, j])) (.ret (.tup [.int .i64 (esV [a, b, c, d, e, f, g, h, i, j]).1, .bool (esV [a, b, c, d, e, f, g, h, i, j]).2]) []) .fail
 | _, _ => .fail
theorem esV_r (l : List Int) : (bif hdB l && (decide (1 ≤ l.getD 9 0) && decide (l.getD 9 0 ≤ 64)) then nbT (l.getD 9 0 - 1) true else nbT 0 false) = nbT (esV l).1 (esV l).2 := by
 unfold esV
 cases hdB l && (decide (1 ≤ l.getD 9 0) && decide (l.getD 9 0 ≤ 64)) <;> rfl
theorem esr_k : Known Tryz.prog 20 es_s := (openKnown (tbl_cons sgr_k ok0) Tryz.func20 rfl).weak (by
 intro args H v ups hh
 unfold es_s at hh
 split at hh
 · rename_i a b c d e f g h i j
   rw [crun_ite, cond_eq_ite] at hh
   split at hh
   · rw [← hh]
     refine (congrArg crun (esr_t ..)).trans ?_
     rw [seT_v _ 64 0 (by omega) (by omega)]
     exact congrArg crun (esV_r [a, b, c, d, e, f, g, h, i, j])
   · cases hh
 · cases hh)
theorem es_k : Known Tryz.prog 19 es_s := (openKnown (tbl_cons sg_k (tbl_cons ce_k ok0)) Tryz.func19 rfl).weak (by
 intro args H v ups hh
 unfold es_s at hh
 split at hh
 · rename_i a b c d e f g h i j
   rw [crun_ite, cond_eq_ite] at hh
   split at hh
   · rename_i hc
     have hb := dec_iff.1 hc
     rw [← hh]
     obtain ⟨j0, j1⟩ := hb j (by simp)
     refine (congrArg crun (es_t ..)).trans ?_
     rw [show w64 j = j from w64_id (by omega) (by omega), show w64 (j - 1) = j - 1 from w64_id (by omega) (by omega)]
     refine Eq.trans ?_ (congrArg crun (esV_r [a, b, c, d, e, f, g, h, i, j]))
     show _ = crun (bif hdB [a, b, c, d, e, f, g, h, i, j] && (decide (1 ≤ j) && decide (j ≤ 64)) then nbT (j - 1) true else nbT 0 false)
     by_cases h1 : 1 ≤ j
     · by_cases h2 : j ≤ 64
       · rw [sg_in (show 0 ≤ j - 1 by omega) (by omega), decide_eq_true h1, decide_eq_true h2, show j - 1 + 1 = j by omega]
         simp only []
         rw [show ((0 : Int) != 0) = false from rfl, cond_false, Bool.and_self, Bool.and_true]
         have hb2 : bytesI (l10 [3, 0, 0, 0, 0, 0, 0, 0, 0, j]) := by
          intro x hx
          simp only [l10, List.getD_cons_zero, List.getD_cons_succ, List.mem_cons, List.not_mem_nil, or_false] at hx
          rcases hx with rfl | rfl | rfl | rfl | rfl | rfl | rfl | rfl | rfl | rfl <;> omega
         rw [dec_iff.2 ⟨hb2, hb⟩, cond_true]
         have hq : (ceF 10 0 (l10 [3, 0, 0, 0, 0, 0, 0, 0, 0, j]) (l10 [a, b, c, d, e, f, g, h, i, j]) != 0) = !hdB [a, b, c, d, e, f, g, h, i, j] := by
          rw [Bool.eq_iff_iff, bne_iff_ne, ne_eq, ceF_z, Bool.not_eq_true']
          constructor
          · intro hn
            cases hd : hdB [a, b, c, d, e, f, g, h, i, j] with
            | false => rfl
            | true =>
             exfalso; apply hn
             simp only [hdB, List.getD_cons_zero, List.getD_cons_succ, Bool.and_eq_true, beq_iff_eq] at hd
             obtain ⟨rfl, rfl, rfl, rfl, rfl, rfl, rfl, rfl, rfl⟩ := hd
             intro d _; rfl
          · intro hd hn
            have e0 := hn 0 (by omega); have e1 := hn 1 (by omega); have e2 := hn 2 (by omega); have e3 := hn 3 (by omega); have e4 := hn 4 (by omega)
            have e5 := hn 5 (by omega); have e6 := hn 6 (by omega); have e7 := hn 7 (by omega); have e8 := hn 8 (by omega)
            simp only [l10, Nat.zero_add, List.getD_cons_zero, List.getD_cons_succ] at e0 e1 e2 e3 e4 e5 e6 e7 e8
            subst e0; subst e1; subst e2; subst e3; subst e4; subst e5; subst e6; subst e7; subst e8
            cases hd
         rw [hq]
         cases hdB [a, b, c, d, e, f, g, h, i, j] <;> rfl
       · rw [sg_out (.inr (by omega)), decide_eq_false h2, Bool.and_false, Bool.and_false]; rfl
     · rw [sg_out (.inl (by omega)), decide_eq_false h1, Bool.false_and, Bool.and_false]; rfl
   · cases hh
 · cases hh)
end Go.Proofs.YtjjfggahllnafaaGreatDoor
/- AddrCalls: 'parses'. -/
namespace Go.Proofs.YtjjfggahllnafaaGreatDoor
open Go.Am
set_option maxRecDepth 100000
noncomputable abbrev κpa := tbl [(51, pmac_s), (52, pmac_s), (53, pip_s), (54, pip_s), (55, ppre_s), (56, ppre_s), (57, pesi_s), (58, pesi_s)]
theorem paK : KOk Tryz.prog κpa := tbl_cons pmac_k (tbl_cons pmx_k (tbl_cons pip_k (tbl_cons pipr_k (tbl_cons ppre_k (tbl_cons pprer_k (tbl_cons pesi_k (tbl_cons pex_k ok0)))))))
noncomputable def asN : Nat → Bool → CTree → CTree
 | 0, _, K => K
 | k + 1, b, K => asT b (asN k b K)
theorem asN_t {b : Bool} {K : CTree} (h : b = true) : ∀ k, asN k b K = K
 | 0 => rfl
 | k + 1 => by rw [asN, asT_t h, asN_t h k]
def prsB (m : Int × Int) (i : Int × Int) (p : (Int × Int) × Int) (e : List Int × Int) : Bool :=
 bif bif bif bif bif bif bif m.1 == m.1 then m.2 == m.2 else false then i.1 == i.1 else false then i.2 == i.2 else false then p.1.1 == p.1.1 && p.1.2 == p.1.2 else false then p.2 == p.2 else false then eq10 e.1 e.1 else false then e.2 == e.2 else false
theorem parses_t (s : List UInt8) : opn κpa Tryz.f32 [.str s] [] = asN 8 (decide (s.length ≤ 1000000)) (rtB (prsB (pmacV s) (pipV s) (ppreV s) (pesiV s))) := by kernel_rfl
noncomputable def parses_s : CSumm := fun args H => match args, H with
 | [.str s], [] => .ite (decide (s.length ≤ 1000000)) (.ret (.bool true) []) .fail
 | _, _ => .fail
theorem eq10_refl (l : List Int) : eq10 l l = true := by simp [eq10]
theorem parses_k : Known Tryz.prog 32 parses_s := (openKnown paK Tryz.func32 rfl).weak (by
 intro args H v ups h
 unfold parses_s at h
 split at h
 · rename_i s
   rw [crun_ite, cond_eq_ite] at h
   split at h
   · rename_i hc
     refine (congrArg crun (parses_t s)).trans ?_
     rw [asN_t hc]
     have : prsB (pmacV s) (pipV s) (ppreV s) (pesiV s) = true := by
      unfold prsB
      simp [eq10_refl]
     rw [this]
     exact h
   · cases h
 · cases h)
end Go.Proofs.YtjjfggahllnafaaGreatDoor
/- AddrCalls: the law's tree. -/
namespace Go.Proofs.YtjjfggahllnafaaGreatDoor
open Go.Am
set_option maxRecDepth 100000
def lives_s : CSumm := fun args H => match args, H with
 | [], [] => .ret (.bool true) []
 | _, _ => .fail
theorem lives_t : opn (tbl []) Tryz.f4 [] [] = .ret (.bool true) [] := by kernel_rfl
theorem lives_k : Known Tryz.prog 4 lives_s := (openKnown ok0 Tryz.func4 rfl).weak (by
 intro args H v ups h
 unfold lives_s at h
 split at h
 · exact (congrArg crun lives_t).trans h
 · cases h)
noncomputable abbrev κl1 := tbl [(4, lives_s), (5, lb_s), (6, lb_s), (7, nod_s), (8, nod_s), (9, rm_s), (10, rm_s), (11, rn_s), (12, rn_s), (13, mc_s), (14, mc_s), (15, cln_s), (16, cln_s), (17, sg_s), (18, sg_s), (19, es_s), (20, es_s), (21, con_s), (22, con_s), (23, cov_s), (24, cov_s), (25, cp_s), (26, cp_s), (27, ce_s), (28, ce_s), (29, im_s), (30, im_s), (31, txt_s), (32, parses_s)]
theorem l1K : KOk Tryz.prog κl1 := tbl_cons lives_k (tbl_cons lb_k (tbl_cons lbr_k (tbl_cons nod_k (tbl_cons ndr_k (tbl_cons rm_k (tbl_cons rmr_k (tbl_cons rn_k (tbl_cons rnr_k (tbl_cons mc_k (tbl_cons mcr_k (tbl_cons cln_k (tbl_cons clnr_k (tbl_cons sg_k (tbl_cons sgr_k (tbl_cons es_k (tbl_cons esr_k (tbl_cons con_k (tbl_cons conr_k (tbl_cons cov_k (tbl_cons covr_k (tbl_cons cp_k (tbl_cons cpr_k (tbl_cons ce_k (tbl_cons cer_k (tbl_cons im_k (tbl_cons imr_k (tbl_cons txt_k (tbl_cons parses_k ok0))))))))))))))))))))))))))))
def orT (b : Bool) (K : CTree) : CTree := bif b then rtB false else K
def oB (a b : Bool) : Bool := bif a then true else b
def l1aB (n ip m : Int) : Bool := oB (oB (oB (oB (oB (oB (oB (oB ((lbV n).1 != (lbV n).1) ((lbV n).2 != (lbV n).2)) ((nodV ip).1 != (nodV ip).1)) (!((nodV ip).2 == (nodV ip).2))) ((rmV n).1 != (rmV n).1)) ((rmV n).2 != (rmV n).2)) ((rnV m).1 != (rnV m).1)) (!((rnV m).2 == (rnV m).2))) (!(mcV m == mcV m))
def l1a (n ip m : Int) (K : CTree) : CTree := orT (l1aB n ip m) K
noncomputable def l1b (n ip p pl q ql : Int) (a b : List Int) (K : CTree) : CTree := asT (dec (bytesI (l10 a))) (asT (dec (bytesI (l10 a))) (orT (!((clnV p pl).1 == (clnV p pl).1 && (clnV p pl).2.1 == (clnV p pl).2.1)) (orT ((clnV p pl).2.2 != (clnV p pl).2.2)
 (orT (!(eq10 (sgV n).1 (sgV n).1)) (orT ((sgV n).2 != (sgV n).2) (orT ((esV (l10 a)).1 != (esV (l10 a)).1) (orT ((esV (l10 a)).2 != (esV (l10 a)).2)
 (orT (conV p pl ip != conV p pl ip) (orT (covV p pl q ql != covV p pl q ql) (asT (u32B p && u32B q) (asT (u32B p && u32B q) (orT (cpV p pl q ql != cpV p pl q ql)
 (asT (dec (bytesI (l10 a) ∧ bytesI (l10 b))) (asT (dec (bytesI (l10 a) ∧ bytesI (l10 b))) (orT (ceF 10 0 (l10 a) (l10 b) != ceF 10 0 (l10 a) (l10 b))
 (asT (dec (bytesI (l10 a))) (asT (dec (bytesI (l10 a))) (orT (macO ((l10 a).drop 1) != macO ((l10 a).drop 1)) K))))))))))))))))))
noncomputable def l1c (ip p : Int) (a : List Int) (s : List UInt8) : CTree := asT (dec (u32B ip = true ∧ u32B p = true ∧ bytesI (l10 a))) (asT (decide (s.length ≤ 1000000)) (rtB true))
theorem law_t (n ip m p pl q ql : Int) (a b : List Int) (s : List UInt8) : opn κl1 Tryz.f3 [.int .i64 n, .int .u32 ip, .int .u64 m, .agg [.int .u32 p, .int .i64 pl], .agg [.int .u32 q, .int .i64 ql], es8 a, es8 b, .str s] [] =
 bif decide ((s.length : Int) > 200) then rtB true else l1a n ip m (l1b n ip p pl q ql a b (l1c ip p a s)) := by kernel_rfl
end Go.Proofs.YtjjfggahllnafaaGreatDoor
/- AddrCalls: the whole law. -/
namespace Go.Proofs.YtjjfggahllnafaaGreatDoor
open Go.Am
set_option maxRecDepth 100000
theorem orT_f {b : Bool} {K : CTree} (h : b = false) : orT b K = K := by rw [h]; rfl
theorem l1aB_f (n ip m : Int) : l1aB n ip m = false := by unfold l1aB oB; simp
noncomputable def law_s : CSumm := fun args H => match args, H with
 | [.int .i64 _, .int .u32 ip, .int .u64 _, .agg [.int .u32 p, .int .i64 _], .agg [.int .u32 q, .int .i64 _], .agg [.int .u8 a, .int .u8 b, .int .u8 c, .int .u8 d, .int .u8 e, .int .u8 f, .int .u8 g, .int .u8 h, .int .u8 i, .int .u8 j],
  .agg [.int .u8 a', .int .u8 b', .int .u8 c', .int .u8 d', .int .u8 e', .int .u8 f', .int .u8 g', .int .u8 h', .int .u8 i', .int .u8 j'], .str _], [] =>
  .ite (dec (u32B ip = true ∧ u32B p = true ∧ u32B q = true ∧ bytesI [a, b, c, d, e, f, g, h, i, j] ∧ bytesI [a', b', c', d', e', f', g', h', i', j'])) (.ret (.bool true) []) .fail
 | _, _ => .fail
theorem law_k : Known Tryz.prog 3 law_s := (openKnown l1K Tryz.func3 rfl).weak (by
 intro args H v ups hh
 unfold law_s at hh
 split at hh
 · rename_i n ip m p pl q ql a b c d e f g h i j a' b' c' d' e' f' g' h' i' j' s
   rw [crun_ite, cond_eq_ite] at hh
   split at hh
   · rename_i hc
     obtain ⟨h0, h1, h2, h3, h4⟩ := dec_iff.1 hc
     rw [← hh]
     refine (congrArg crun (law_t n ip m p pl q ql [a, b, c, d, e, f, g, h, i, j] [a', b', c', d', e', f', g', h', i', j'] s)).trans ?_
     have e1 : l10 [a, b, c, d, e, f, g, h, i, j] = [a, b, c, d, e, f, g, h, i, j] := rfl
     have e2 : l10 [a', b', c', d', e', f', g', h', i', j'] = [a', b', c', d', e', f', g', h', i', j'] := rfl
     cases hs : decide ((s.length : Int) > 200) with
     | true => rfl
     | false =>
      have hl := of_decide_eq_false hs
      rw [cond_false]
      unfold l1a l1b l1c
      rw [orT_f (l1aB_f _ _ _), e1, e2, asT_t (dec_iff.2 h3), asT_t (dec_iff.2 h3), orT_f (by simp), orT_f (by simp), orT_f (by simp [eq10_refl]), orT_f (by simp), orT_f (by simp), orT_f (by simp), orT_f (by simp), orT_f (by simp),
       asT_t (by rw [h1, h2]; rfl), asT_t (by rw [h1, h2]; rfl), orT_f (by simp), asT_t (dec_iff.2 ⟨h3, h4⟩), asT_t (dec_iff.2 ⟨h3, h4⟩), orT_f (by simp), asT_t (dec_iff.2 h3), asT_t (dec_iff.2 h3), orT_f (by simp),
       asT_t (dec_iff.2 ⟨h0, h1, h3⟩), asT_t (decide_eq_true (by omega))]
      rfl
   · cases hh
 · cases hh)
end Go.Proofs.YtjjfggahllnafaaGreatDoor
/- AddrCalls: the row and its card. -/
namespace Go.Proofs.YtjjfggahllnafaaGreatDoor
open Go.Am Go.ChangeShapes Go.WideShapes Go.ChangeAt Go.RowKit Go.Joins Go.Lib
set_option maxRecDepth 100000
theorem Tryz.own : ownKnob Tryz.prog.godebug = none := by kernel_rfl
theorem laidTryz : laidOutB Tryz.prog = true := by kernel_rfl
theorem mapsTryz : mapsRowed Tryz.prog = true := by kernel_rfl
theorem fullTryz : ((List.range Tryz.prog.types.size).all fun t => match Tryz.prog.underlying t with | some (.slice e) => decide (0 < Tryz.prog.cellsOf e) | _ => true) = true := by kernel_rfl
theorem wf32n {n : Int} (h : (Lit.int .u32 n).wf = true) : 0 ≤ n ∧ n < 4294967296 := by
 simp [Lit.wf, IntKind.min, IntKind.max, IntKind.signed, IntKind.bits] at h; omega
theorem wf8 {n : Int} (h : (Lit.int .u8 n).wf = true) : 0 ≤ n ∧ n ≤ 255 := by
 simp [Lit.wf, IntKind.min, IntKind.max, IntKind.signed, IntKind.bits] at h; omega
def pow10 : List Int := [1, 10, 100, 1000, 10000, 100000, 1000000, 10000000, 100000000, 1000000000, 10000000000, 100000000000, 1000000000000, 10000000000000, 100000000000000, 1000000000000000, 10000000000000000, 100000000000000000, 1000000000000000000, 10000000000000000000]
noncomputable def pg : Nat := (Tryz.prog.globalNamed "internal/strconv.uint64pow10").getD 0
noncomputable def pgT : TypeId := ((Tryz.prog.globals[pg]?).map (·.type)).getD 0
noncomputable def pgE : TypeId := match Tryz.prog.underlying pgT with | some (.array _ e) => e | _ => 0
theorem pg_n : Tryz.prog.globalNamed "internal/strconv.uint64pow10" = some pg := by kernel_rfl
theorem gtab_eq : gtab Tryz.prog = [(pg, pow10.map fun z => (IntKind.u64, z))] := by kernel_rfl
theorem pg_t : (Tryz.prog.globals[pg]?).map (·.type) = some pgT := by kernel_rfl
theorem pg_u : Tryz.prog.underlying pgT = some (.array 20 pgE) := by kernel_rfl
theorem pg_e : Tryz.prog.underlying pgE = some (.int .u64) := by kernel_rfl
theorem pg_c : Tryz.prog.cellsOf pgE = 1 := by kernel_rfl
theorem pg_k : Tryz.prog.cellsOf pgT = 20 := by kernel_rfl
theorem glob_of {W : World} (h : laidMet Tryz.prog Rows.addrCallsRow.laid W) : GlobR Tryz.prog W (Old W) := by
 obtain ⟨ps, ⟨_, _, _, _, _, _, _, _, _, _, ⟨_, _, _, _, _, _, _, _, _, _, ⟨g', t', cs, fuel, p, q, hg', ht', hvar, hd, _, _⟩, _⟩, _⟩, _⟩ := h
 obtain rfl := Option.some.inj (pg_n.symm.trans hg')
 obtain rfl := Option.some.inj (pg_t.symm.trans ht')
 have hcs := cells_of_tab (zs := pow10) pg_u pg_e pg_c pg_k hd
 intro e he
 rw [gtab_eq, List.mem_singleton] at he
 subst he
 have hcell : ∀ d, W.cell? ⟨pg, d, none⟩ = cs[d]? := fun d => World.var?_cell pg_n hvar d
 have hcl : ∀ d, cs[d]? = (pow10.map fun z => Value.int .u64 z)[d]? := fun d => by rw [← hcs, Array.getElem?_toList]
 refine ⟨?_, fun d kn hd => ?_⟩
 · have h0 := (hcell 0).trans (hcl 0)
   rw [show (pow10.map fun z => Value.int .u64 z)[0]? = some (.int .u64 1) from rfl] at h0
   show pg < W.heap.size
   rcases Nat.lt_or_ge pg W.heap.size with hlt | hge
   · exact hlt
   · simp [World.cell?, Array.getElem?_eq_none hge] at h0
 · rw [hcell, hcl]
   simp only [List.getElem?_map, Option.map_eq_some_iff] at hd ⊢
   obtain ⟨z, hz, rfl⟩ := hd
   exact ⟨z, hz, rfl⟩
theorem laidH_eq (W : World) : laidMetH Tryz.prog Rows.addrCallsRow.laid W = laidMet Tryz.prog Rows.addrCallsRow.laid W := MakeChecks.laidMetH_plain _ _ _ (by kernel_rfl)
noncomputable def wit (os : Os) : World := World.laidAll Tryz.prog os Rows.addrCallsRow.laid
theorem wit_met (os : Os) (args : Array Value) : laidMet Tryz.prog Rows.addrCallsRow.laid ((wit os).forCall (fun _ _ => 0) ⟨#[], args, []⟩).memory := laidMet_laidAll _ (by kernel_rfl) (by kernel_rfl)
end Go.Proofs.YtjjfggahllnafaaGreatDoor
