/- The reference reads attributes: values, known. -/
import Derived.Test.YtdgnhaacdpmclaaGreatPart10
import Derived.Test.YtdgnhaacdpmclaaGreatMachine4
namespace Go.Proofs.YtdgnhaacdpmclaaGreat
open Go.Am
set_option maxRecDepth 100000
def rZ (z : Dz) (f : Nat → Bool) : Chunk := rS z.pb z.cb z.mb z.d f
noncomputable def vOut (g : Int) (v : List SV) (z : Dz) (f : Nat → Bool) : List (Nat × Option Chunk) := bif okC g v then [(0, some (rZ (gC g v z) f))] else [(0, none)]
def VGo (s : CSumm) (g : Int) (v : List SV) (z : Dz) (f : Nat → Bool) (ok : Bool) (out : List (Nat × Option Chunk)) : Prop :=
 ∃ v1 ups, crun (s (vAr g v) [(0, rZ z f)]) = some (v1, ups) ∧ (Frozen Tryz.prog [(0, rZ z f)] v1 ups (.bool ok) out ∨ Am.Told Tryz.prog [(0, rZ z f)] v1 ups (.bool ok) out)
theorem vg_no {s : CSumm} {g : Int} {v : List SV} {z : Dz} {f : Nat → Bool} {ups : List (Nat × Option Chunk)} (h : crun (s (vAr g v) [(0, rZ z f)]) = some (.bool false, ups)) (hu : ups = [] ∨ ∃ c, ups = [(0, some c)]) : VGo s g v z f false [(0, none)] := by
 refine ⟨_, _, h, .inr ⟨.rfl', fun x c' hx => ?_⟩⟩
 simp only [updF] at hx
 by_cases h0 : x = 0
 · rw [if_pos h0] at hx; cases hx
 · rw [if_neg h0] at hx
   rcases hu with rfl | ⟨c, rfl⟩
   · exact ⟨c', hx, .rfl'⟩
   · exact ⟨c', by simp only [updF, h0, if_false]; exact hx, .rfl'⟩
theorem vg_yes {s : CSumm} {g : Int} {v : List SV} {z z' : Dz} {f : Nat → Bool} (h : crun (s (vAr g v) [(0, rZ z f)]) = some (.bool true, [(0, some (rZ z' f))])) : VGo s g v z f true [(0, some (rZ z' f))] :=
 ⟨_, _, h, .inr ⟨.rfl', fun x c' hx => ⟨c', hx, .rfl'⟩⟩⟩
section
variable {v : List SV} {pb cb mb : Bool} {d : Ds} {f : Nat → Bool} (hv : byl v) (hl : v.length ≤ 1000)
include hv hl
omit hv hl in
theorem vv_1 : VGo (vB (ltab []) body77) 1 v ⟨pb, cb, mb, d⟩ f (okC 1 v) (vOut 1 v ⟨pb, cb, mb, d⟩ f) := by
 have ht := v_1 v pb cb mb d f
 have hok : okC 1 v = (decide (v.length = 1) && decide (dg v 0 ≤ 2)) := by show (decide (v.length = 1) && decide (tkN v 0 1 ≤ 2)) = _; rw [tk1]
 by_cases h1 : v.length = 1
 · rw [show ((v.length : Int) != 1) = false by simp; omega, cond_false, show inB 0 v.length = true by unfold inB; simp; omega, cond_true] at ht
   by_cases h2 : dg v 0 ≤ 2
   · rw [decide_eq_false (show ¬ dg v 0 > 2 by omega), cond_false, cond_true] at ht
     have ho : okC 1 v = true := by rw [hok, decide_eq_true h1, decide_eq_true h2]; rfl
     unfold vOut
     rw [ho]
     refine vg_yes ((congrArg crun ht).trans ?_)
     show some (SV.bool true, [(0, some (rS pb cb mb (d1 d (dg v 0)) f))]) = some (SV.bool true, [(0, some (rS pb cb mb (d1 d (tkN v 0 1)) f))])
     rw [tk1]
   · rw [decide_eq_true (show dg v 0 > 2 by omega), cond_true] at ht
     have ho : okC 1 v = false := by rw [hok, decide_eq_true h1, decide_eq_false h2]; rfl
     unfold vOut
     rw [ho]
     exact vg_no (congrArg crun ht) (.inl rfl)
 · rw [show ((v.length : Int) != 1) = true by simp; omega, cond_true] at ht
   have ho : okC 1 v = false := by rw [hok, decide_eq_false h1]; rfl
   unfold vOut
   rw [ho]
   exact vg_no (congrArg crun ht) (.inl rfl)
omit hl in
theorem vv_n {g : Int} {dn : Ds → Int → Ds} (hg : okC g v = (decide (v.length = 4) && decide (tkN v 0 4 ≤ 4294967295))) (hgC : gC g v ⟨pb, cb, mb, d⟩ = ⟨pb, cb, mb, dn d (tkN v 0 4)⟩)
  (ht : vB (ltab []) body77 (vAr g v) [(0, rS pb cb mb d f)] = bif (v.length : Int) != 4 then vF else ytC v 0 4 (vT pb cb mb f (dn d (tkN v 0 4)))) : VGo (vB (ltab []) body77) g v ⟨pb, cb, mb, d⟩ f (okC g v) (vOut g v ⟨pb, cb, mb, d⟩ f) := by
 obtain ⟨q1, q2⟩ := tkN_rng hv.ok 0 4
 by_cases h1 : v.length = 4
 · rw [show ((v.length : Int) != 4) = false by simp; omega, cond_false] at ht
   unfold ytC at ht
   rw [dec_iff.2 ⟨hv, by omega, by omega, by omega, by decide⟩, cond_true] at ht
   have hq : (256 : Int) ^ 4 = 4294967296 := by decide
   have ho : okC g v = true := by rw [hg, decide_eq_true h1, decide_eq_true (by omega)]; rfl
   unfold vOut
   rw [ho, hgC]
   exact vg_yes (congrArg crun ht)
 · rw [show ((v.length : Int) != 4) = true by simp; omega, cond_true] at ht
   have ho : okC g v = false := by rw [hg, decide_eq_false h1]; rfl
   unfold vOut
   rw [ho]
   exact vg_no (congrArg crun ht) (.inl rfl)
theorem vv_15 : VGo (vB (ltab []) body77) 15 v ⟨pb, cb, mb, d⟩ f (okC 15 v) (vOut 15 v ⟨pb, cb, mb, d⟩ f) := by
 have ht := v_15 v pb cb mb d f
 have hok : okC 15 v = unOk v := rfl
 unfold unOk at hok
 by_cases h3 : 3 ≤ v.length
 · rw [decide_eq_false (show ¬ (v.length : Int) < 3 by omega), cond_false, decide_eq_true (Int.le_refl 0), decide_eq_true (show (0 : Int) ≤ 3 by omega), decide_eq_true (show (3 : Int) ≤ v.length by omega), Bool.and_self, Bool.and_self, cond_true, hd3_fam hv h3] at ht
   rw [decide_eq_true h3, cond_true] at hok
   cases hf : tkN v 0 3 == 6470 with
   | false =>
    rw [hf] at ht hok
    unfold vOut; rw [hok]
    exact vg_no (congrArg crun ht) (.inl rfl)
   | true =>
    rw [hf, Bool.not_true, cond_false, show frC v 3 = frC v ((3 : Nat) : Int) from rfl, frC_ok h3] at ht
    unfold rrC at ht
    rw [dec_iff.2 ⟨hv.dropb 3, by rw [List.length_drop]; omega⟩, cond_true] at ht
    rw [hf, cond_true] at hok
    cases he : rdE (v.drop 3) == 0 with
    | false =>
     rw [show (rdE (v.drop 3) != 0) = true by unfold bne; rw [he]; rfl, cond_true, cond_true] at ht
     rw [he] at hok
     unfold vOut; rw [hok]
     exact vg_no (congrArg crun ht) (.inl rfl)
    | true =>
     rw [show (rdE (v.drop 3) != 0) = false by unfold bne; rw [he]; rfl] at ht
     rw [he] at hok
     unfold vOut; rw [hok]
     exact vg_yes (congrArg crun ht)
 · rw [decide_eq_true (show (v.length : Int) < 3 by omega), cond_true] at ht
   rw [decide_eq_false h3, cond_false] at hok
   unfold vOut; rw [hok]
   exact vg_no (congrArg crun ht) (.inl rfl)
theorem vv_14 : VGo (vB (ltab []) body77) 14 v ⟨pb, cb, mb, d⟩ f (okC 14 v) (vOut 14 v ⟨pb, cb, mb, d⟩ f) := by
 have ht := v_14 v pb cb mb d f
 have hok : okC 14 v = rcOk v := rfl
 unfold rcOk at hok
 by_cases h3 : 3 ≤ v.length
 · rw [decide_eq_false (show ¬ (v.length : Int) < 3 by omega), cond_false, decide_eq_true (Int.le_refl 0), decide_eq_true (show (0 : Int) ≤ 3 by omega), decide_eq_true (show (3 : Int) ≤ v.length by omega), Bool.and_self, Bool.and_self, cond_true, hd3_fam hv h3] at ht
   cases hf : tkN v 0 3 == 6470 with
   | false =>
    rw [hf] at ht
    have hok : okC 14 v = false := by rw [hok, hf]; cases decide (9 ≤ v.length) <;> rfl
    unfold vOut; rw [hok]
    exact vg_no (congrArg crun ht) (.inl rfl)
   | true =>
    rw [hf, Bool.not_true, cond_false, show frC v 3 = frC v ((3 : Nat) : Int) from rfl, frC_ok h3, List.length_drop] at ht
    by_cases h9 : 9 ≤ v.length
    · rw [decide_eq_false (show ¬ ((v.length - 3 : Nat) : Int) < 6 by omega), cond_false, show inB 0 (v.length - 3) = true by unfold inB; simp; omega, cond_true, show inB 5 (v.length - 3) = true by unfold inB; simp; omega, cond_true, dg_drop, dg_drop, show dg v (3 + 0) = dg v 3 from rfl, show dg v (3 + 5) = dg v 8 from rfl] at ht
      rw [decide_eq_true h9, cond_true, hf, cond_true] at hok
      cases hg : dg v 3 == 4 with
      | false =>
       rw [show (dg v 3 != 4) = true by unfold bne; rw [hg]; rfl, cond_true] at ht
       rw [hg, cond_false] at hok
       unfold vOut; rw [hok]
       exact vg_no (congrArg crun ht) (.inl rfl)
      | true =>
       rw [show (dg v 3 != 4) = false by unfold bne; rw [hg]; rfl, cond_false] at ht
       rw [hg, cond_true] at hok
       cases hh : dg v 8 == 0 with
       | false =>
        rw [show (dg v 8 != 0) = true by unfold bne; rw [hh]; rfl, cond_true] at ht
        rw [hh, cond_false] at hok
        unfold vOut; rw [hok]
        exact vg_no (congrArg crun ht) (.inl rfl)
       | true =>
        rw [show (dg v 8 != 0) = false by unfold bne; rw [hh]; rfl, cond_false] at ht
        rw [hh, cond_true] at hok
        unfold ytC at ht
        rw [dec_iff.2 ⟨hv.dropb 3, by rw [List.length_drop]; omega, by omega, by rw [List.length_drop]; omega, by decide⟩, cond_true, show frC (v.drop 3) 6 = frC (v.drop 3) ((6 : Nat) : Int) from rfl, frC_ok (by rw [List.length_drop]; omega), List.drop_drop, tkN_drop] at ht
        unfold rrC at ht
        rw [dec_iff.2 ⟨hv.dropb _, by rw [List.length_drop]; omega⟩, cond_true] at ht
        change _ = bif (bif rdE (v.drop 9) != 0 then true else (bif (14 : Int) == 14 then ((rdL (v.drop 9)).length : Int) == 0 else false)) then CTree.ret (.bool false) [(0, some (rS pb cb mb (dNx d (tkN v 4 4)) f))] else vT pb cb mb f { dNx d (tkN v 4 4) with rch := rdL (v.drop 9) } at ht
        obtain ⟨q5, q6⟩ := tkN_rng hv.ok 4 4
        cases he : rdE (v.drop 9) == 0 with
        | false =>
         rw [show (rdE (v.drop 9) != 0) = true by unfold bne; rw [he]; rfl, cond_true, cond_true] at ht
         rw [he, cond_false] at hok
         unfold vOut; rw [hok]
         exact vg_no (congrArg crun ht) (.inr ⟨_, rfl⟩)
        | true =>
         rw [show (rdE (v.drop 9) != 0) = false by unfold bne; rw [he]; rfl, cond_false, show ((14 : Int) == 14) = true from rfl, cond_true] at ht
         rw [he, cond_true] at hok
         by_cases hz : (rdL (v.drop 9)).length = 0
         · rw [hz] at ht hok
           have hok : okC 14 v = false := hok
           unfold vOut; rw [hok]
           exact vg_no (congrArg crun ht) (.inr ⟨_, rfl⟩)
         · rw [show (((rdL (v.drop 9)).length : Int) == 0) = false by simp; intro e; exact hz (by rw [e]; rfl), cond_false] at ht
           rw [decide_eq_true (by omega)] at hok
           have hG : gC 14 v ⟨pb, cb, mb, d⟩ = ⟨pb, cb, mb, { dNx d (tkN v 4 4) with rch := rdL (v.drop 9) }⟩ := by
            show (⟨pb, cb, mb, rcG v d⟩ : Dz) = _
            unfold rcG dNx
            rw [w3_id q5 (Int.lt_of_lt_of_le q6 (by decide))]
           unfold vOut; rw [hok, hG]
           exact vg_yes (congrArg crun ht)
    · rw [decide_eq_true (show ((v.length - 3 : Nat) : Int) < 6 by omega), cond_true] at ht
      rw [decide_eq_false h9, cond_false] at hok
      unfold vOut; rw [hok]
      exact vg_no (congrArg crun ht) (.inl rfl)
 · rw [decide_eq_true (show (v.length : Int) < 3 by omega), cond_true] at ht
   rw [decide_eq_false (show ¬ 9 ≤ v.length by omega), cond_false] at hok
   unfold vOut; rw [hok]
   exact vg_no (congrArg crun ht) (.inl rfl)
end
end Go.Proofs.YtdgnhaacdpmclaaGreat
/- The reference reads attributes: lists and the tunnel, known; any value. -/
namespace Go.Proofs.YtdgnhaacdpmclaaGreat
open Go.Am
set_option maxRecDepth 100000
theorem co_app {a b l : List SV} (h : CoL Tryz.prog a b) : CoL Tryz.prog (a ++ l) (b ++ l) := by
 induction h with
 | nil => exact .rfl'
 | cons h1 _ ih => exact .cons h1 ih
theorem sem_app {k e : Nat} {rs a b l : List SV} (h : SemL Tryz.prog k e rs a b) : SemL Tryz.prog k e rs (a ++ l) (b ++ l) := by
 induction h with
 | nil => exact .rfl'
 | cons h1 _ ih => exact .cons h1 ih
theorem mtL_nth (f : Nat → Bool) : ∀ (n i j : Nat), j < n → (mtL f n i).getD j .junk = .bool (f (i + j))
 | n + 1, i, 0, _ => rfl
 | n + 1, i, j + 1, h => by
  show (mtL f n (i + 1)).getD j .junk = _
  rw [mtL_nth f n (i + 1) j (by omega), show i + 1 + j = i + (j + 1) by omega]
theorem mtL_ext {f g : Nat → Bool} : ∀ (n i : Nat), (∀ j, i ≤ j → j < i + n → f j = g j) → mtL f n i = mtL g n i
 | 0, _, _ => rfl
 | n + 1, i, h => by rw [mtL, mtL, h i (by omega) (by omega), mtL_ext n (i + 1) (fun j h1 h2 => h j (by omega) (by omega))]
theorem mtF_mt (f : Nat → Bool) : mtL (mtF (mtL f 256 0)) 256 0 = mtL f 256 0 := mtL_ext 256 0 (fun j _ h => by
 unfold mtF
 rw [mtL_nth f 256 0 j (by omega), Nat.zero_add]; rfl)
section
variable {v : List SV} {pb cb mb : Bool} {d : Ds} {f : Nat → Bool} (hv : byl v) (hl : v.length ≤ 1000)
include hv hl
theorem vv_2 : VGo (vB (ltab []) body77) 2 v ⟨true, cb, mb, d⟩ f (okC 2 v) (vOut 2 v ⟨true, cb, mb, d⟩ f) := by
 have ht := v_2 v true cb mb d f
 have hok : okC 2 v = ptOk v := rfl
 unfold ptOk at hok
 by_cases h0 : v.length = 0
 · rw [show ((v.length : Int) == 0) = true by rw [h0]; rfl, cond_true] at ht
   rw [show (v.length == 0) = true by simpa using h0, cond_true] at hok
   have hG : gC 2 v ⟨true, cb, mb, d⟩ = ⟨false, cb, mb, { d with path := [] }⟩ := by
    show (⟨false, cb, mb, ptG v d⟩ : Dz) = _
    unfold ptG
    rw [show (v.length == 0) = true by simpa using h0]; rfl
   unfold vOut; rw [hok, hG, cond_true]
   refine ⟨_, _, congrArg crun ht, .inr ⟨.rfl', fun x c' hx => ?_⟩⟩
   simp only [updF] at hx
   by_cases x0 : x = 0
   · subst x0; rw [if_pos rfl] at hx; cases hx
     exact ⟨_, rfl, .cells (co_app (.cons .rfl' (.cons .nils .rfl')))⟩
   · rw [if_neg x0] at hx; exact ⟨c', hx, .rfl'⟩
 · rw [show ((v.length : Int) == 0) = false by simp; intro e; exact h0 (by rw [e]; rfl), cond_false] at ht
   rw [show (v.length == 0) = false by simpa using h0, cond_false] at hok
   by_cases h2 : 2 ≤ v.length
   · obtain ⟨q1, q2⟩ := hv.ok 1
     rw [decide_eq_false (show ¬ (v.length : Int) < 2 by omega), cond_false, show inB 0 v.length = true by unfold inB; simp; omega, cond_true, show inB 1 v.length = true by unfold inB; simp; omega, cond_true,
      show w64 (dg v 1) = dg v 1 from w64_id (by omega) (by omega), show w64 (4 * dg v 1) = 4 * dg v 1 from w64_id (by omega) (by omega), show w64 ((v.length : Int) - 2) = ((v.length - 2 : Nat) : Int) by rw [show w64 ((v.length : Int) - 2) = (v.length : Int) - 2 from w64_id (by omega) (by omega)]; omega] at ht
     rw [decide_eq_true h2, cond_true] at hok
     cases hd : dg v 0 != 2 with
     | true =>
      rw [hd, cond_true] at ht
      rw [hd] at hok
      have hok : okC 2 v = false := hok
      unfold vOut; rw [hok]
      exact vg_no (congrArg crun ht) (.inl rfl)
     | false =>
      rw [hd, cond_false] at ht
      rw [hd, cond_false] at hok
      have hB := elB_n (k := v.length - 2) (by omega) (z := 4) (m := 32) (by omega)
      have hQ : elQ ((v.length - 2 : Nat) : Int) 4 = (((v.length - 2) / 4 : Nat) : Int) := elQ_n _ (by omega) 4 (by omega)
      rw [hQ] at hok
      by_cases hm : 4 * dg v 1 = ((v.length - 2 : Nat) : Int)
      · rw [show (4 * dg v 1 != ((v.length - 2 : Nat) : Int)) = false by simpa using hm, cond_false, show frC v 2 = frC v ((2 : Nat) : Int) from rfl, frC_ok h2] at ht
        unfold liC at ht
        rw [dec_iff.2 ⟨hv.dropb 2, by rw [List.length_drop]; omega, by omega, by omega⟩, cond_true, List.length_drop, show liB ((v.length - 2 : Nat) : Int) 32 = _ from liB_n (k := 32) (by omega) (by omega)] at ht
        rw [show ((((v.length - 2) / 4 : Nat) : Int) != dg v 1) = false by simp; omega] at hok
        cases hb : elB ((v.length - 2 : Nat) : Int) 4 ((32 : Nat) : Int) with
        | false =>
         rw [hb] at ht
         rw [show elB ((v.length - 2 : Nat) : Int) 4 32 = false from hb] at hok
         have hok : okC 2 v = false := hok
         unfold vOut; rw [hok]
         exact vg_no (congrArg crun ht) (.inr ⟨_, rfl⟩)
        | true =>
         rw [hb] at ht
         rw [show elB ((v.length - 2 : Nat) : Int) 4 32 = true from hb] at hok
         have hok : okC 2 v = true := hok
         have hG : gC 2 v ⟨true, cb, mb, d⟩ = ⟨false, cb, mb, { d with path := wd (v.drop 2) 0 ((v.length - 2) / 4) }⟩ := by
          show (⟨false, cb, mb, ptG v d⟩ : Dz) = _
          unfold ptG
          rw [show (v.length == 0) = false by simpa using h0, cond_false, hQ, wd_drop]; rfl
         unfold vOut; rw [hok, hG]
         exact vg_yes (congrArg crun ht)
      · rw [show (4 * dg v 1 != ((v.length - 2 : Nat) : Int)) = true by simpa using hm, cond_true] at ht
        have hok : okC 2 v = false := by
         rw [hok]
         cases hb : elB ((v.length - 2 : Nat) : Int) 4 32 with
         | false => rfl
         | true =>
          have := hB.1 hb
          rw [show ((((v.length - 2) / 4 : Nat) : Int) != dg v 1) = true by simp; omega]; rfl
        unfold vOut; rw [hok]
        exact vg_no (congrArg crun ht) (.inl rfl)
   · rw [decide_eq_true (show (v.length : Int) < 2 by omega), cond_true] at ht
     rw [decide_eq_false h2, cond_false] at hok
     unfold vOut; rw [hok]
     exact vg_no (congrArg crun ht) (.inl rfl)
theorem vv_10 : VGo (vB T77 m77) 10 v ⟨pb, true, mb, d⟩ f (okC 10 v) (vOut 10 v ⟨pb, true, mb, d⟩ f) := by
 have ht := v_10 v pb mb d f
 have hok : okC 10 v = elB (v.length : Int) 4 16 := rfl
 unfold liC at ht
 rw [dec_iff.2 ⟨hv, by omega, by omega, by omega⟩, cond_true, show liB (v.length : Int) 16 = _ from liB_n (k := 16) (by omega) (by omega)] at ht
 have hX : ∀ q, ylX q pb mb d (mtF (mtL f 256 0)) = ylX q pb mb d f := by intro q; unfold ylX rSx; rw [mtF_mt]
 have hA : ylA pb mb d f = ylA pb mb d (mtF (mtL f 256 0)) := by unfold ylA; rw [hX]
 cases hb : elB (v.length : Int) 4 ((16 : Nat) : Int) with
 | false =>
  rw [hb] at ht
  change _ = ylL [] pb mb d f false at ht
  unfold ylL at ht
  rw [decide_eq_false (show ¬ (0 : Int) < (([] : List SV).length : Int) by simp), cond_false, dec_iff.2 hA, cond_true] at ht
  have hok : okC 10 v = false := hok.trans hb
  unfold vOut; rw [hok]
  exact vg_no (congrArg crun ht) (.inl rfl)
 | true =>
  have hB := (elB_n (k := v.length) (by omega) (z := 4) (m := 16) (by omega)).1 hb
  rw [hb] at ht
  change _ = ylL (wd v 0 (v.length / 4)) pb mb d f true at ht
  unfold ylL at ht
  rw [wd_len, decide_eq_true (by omega), cond_true, dec_iff.2 ⟨hA, trivial, by omega, by omega, by rw [wd_len]; omega, by rw [wd_len]; simp; omega⟩, cond_true] at ht
  have hw : wv (wd v 0 (v.length / 4)) 0 = wd v 0 (v.length / 4) := wd_n32 _ _ _
  rw [hw] at ht
  have hok : okC 10 v = true := hok.trans hb
  have hG : gC 10 v ⟨pb, true, mb, d⟩ = ⟨pb, false, mb, { d with cl := wd v 0 (v.length / 4) }⟩ := rfl
  unfold vOut; rw [hok, hG, cond_true]
  refine ⟨_, _, congrArg crun ht, .inl ⟨1, 27, wd v 0 (v.length / 4), rfl, .rfl', fun x c' hx => ?_⟩⟩
  simp only [updF] at hx
  by_cases x0 : x = 0
  · subst x0; rw [if_pos rfl] at hx; cases hx
    exact ⟨by decide, _, rfl, .cells (sem_app (.cons .rfl' (.cons .rfl' (.cons .rfl' (.cons .rfl' (.cons .rfl' (.cons .rfl' (.cons .rfl' (.cons .rfl' (.cons .rfl' (.cons (.qs (by rw [wd_len]; unfold ylN; rw [wd_len]; rfl)) .rfl')))))))))))⟩
  · rw [if_neg x0] at hx
    have x1 : x ≠ 1 := by rintro rfl; cases hx
    exact ⟨x1, c', by simp only [updF, x0, x1, if_false]; exact hx, .rfl'⟩
omit hv in
theorem vv_16 : VGo (vB T77 m77) 16 v ⟨pb, cb, true, d⟩ f (okC 16 v) (vOut 16 v ⟨pb, cb, true, d⟩ f) := by
 have ht := v_16 v pb cb d f
 have hok : okC 16 v = elB (v.length : Int) 8 64 := rfl
 have hX : ∀ q, ymX q pb cb d (mtF (mtL f 256 0)) = ymX q pb cb d f := by intro q; unfold ymX rSx; rw [mtF_mt]
 have hA : ymA pb cb d f = ymA pb cb d (mtF (mtL f 256 0)) := by unfold ymA; rw [hX]
 have hB := elB_n (k := v.length) (by omega) (z := 8) (m := 64) (by omega)
 have no : (v.length = 0 ∨ v.length % 8 ≠ 0 ∨ v.length > 512) → okC 16 v = false := by
  intro h
  rw [hok]
  cases hb : elB (v.length : Int) 8 64 with
  | false => rfl
  | true => have := hB.1 hb; omega
 rw [Int.tmod_eq_emod_of_nonneg (by omega)] at ht
 by_cases h0 : v.length = 0
 · rw [show ((v.length : Int) == 0) = true by rw [h0]; rfl, cond_true] at ht
   unfold vOut; rw [no (.inl h0)]
   exact vg_no (congrArg crun ht) (.inl rfl)
 · rw [show ((v.length : Int) == 0) = false by simp; intro e; exact h0 (by rw [e]; rfl), cond_false] at ht
   by_cases h8 : v.length % 8 = 0
   · rw [show ((v.length : Int) % 8 != 0) = false by simp; omega, cond_false] at ht
     by_cases h5 : v.length > 512
     · rw [decide_eq_true (show (v.length : Int) > 512 by omega), cond_true] at ht
       unfold vOut; rw [no (.inr (.inr h5))]
       exact vg_no (congrArg crun ht) (.inl rfl)
     · rw [decide_eq_false (show ¬ (v.length : Int) > 512 by omega), cond_false] at ht
       unfold ymL at ht
       rw [decide_eq_true (by omega), cond_true, dec_iff.2 ⟨hA, by simpa using h8, by omega, by omega, by omega, by simp; omega⟩, cond_true] at ht
       have hok : okC 16 v = true := hok.trans (hB.2 ⟨by omega, by omega, by omega⟩)
       have hG : gC 16 v ⟨pb, cb, true, d⟩ = ⟨pb, cb, false, { d with cm := cw v 0 (v.length / 8) }⟩ := rfl
       have hw : cv v 0 = cw v 0 (v.length / 8) := rfl
       rw [hw] at ht
       unfold vOut; rw [hok, hG, cond_true]
       refine ⟨_, _, congrArg crun ht, .inl ⟨1, 91, cw v 0 (v.length / 8), rfl, .rfl', fun x c' hx => ?_⟩⟩
       simp only [updF] at hx
       by_cases x0 : x = 0
       · subst x0; rw [if_pos rfl] at hx; cases hx
         exact ⟨by decide, _, rfl, .cells (sem_app (.cons .rfl' (.cons .rfl' (.cons .rfl' (.cons .rfl' (.cons .rfl' (.cons .rfl' (.cons .rfl' (.cons .rfl' (.cons .rfl' (.cons .rfl' (.cons (.qs (by rw [cw_len]; rfl)) .rfl'))))))))))))⟩
       · rw [if_neg x0] at hx
         have x1 : x ≠ 1 := by rintro rfl; cases hx
         exact ⟨x1, c', by simp only [updF, x0, x1, if_false]; exact hx, .rfl'⟩
   · rw [show ((v.length : Int) % 8 != 0) = true by simp; omega, cond_true] at ht
     unfold vOut; rw [no (.inr (.inl h8))]
     exact vg_no (congrArg crun ht) (.inl rfl)
theorem vv_22 : VGo (vB (ltab []) body77) 22 v ⟨pb, cb, mb, d⟩ f (okC 22 v) (vOut 22 v ⟨pb, cb, mb, d⟩ f) := by
 have ht := v_22 v pb cb mb d f
 have hok : okC 22 v = tnOk v := rfl
 unfold tnOk at hok
 obtain ⟨q1, q2⟩ := hv.ok 1
 have eY : 1 ≤ v.length → ∀ K, tuY v K = K (dg v 0 != 0) := by
  intro h K
  unfold tuY
  rw [show inB 0 v.length = true by unfold inB; simp; omega]; rfl
 have eA : ∀ (L : Nat) (k : Int), v.length = L → 2 ≤ L → ∀ K, tuA v L k K = K (dg v 1 == k) := by
  intro L k h h2 K
  unfold tuA
  rw [show ((v.length : Int) == (L : Int)) = true by rw [h]; simp, show inB 1 v.length = true by unfold inB; simp; omega]; rfl
 have eN : ∀ (L : Nat) (k : Int), v.length ≠ L → ∀ K, tuA v L k K = K false := by
  intro L k h K
  unfold tuA
  rw [show ((v.length : Int) == (L : Int)) = false by simp; omega]; rfl
 have inb : 2 ≤ v.length → inB 1 v.length = true := by intro h; unfold inB; simp; omega
 have e14 : v.length ≠ 13 → ∀ K, tuA v 13 3 K = K false := eN 13 3
 have e13 : v.length = 13 → ∀ K, tuA v 13 3 K = K (dg v 1 == 3) := fun h => eA 13 3 h (by omega)
 have e10 : v.length ≠ 9 → ∀ K, tuA v 9 6 K = K false := eN 9 6
 have e9 : v.length = 9 → ∀ K, tuA v 9 6 K = K (dg v 1 == 6) := fun h => eA 9 6 h (by omega)
 by_cases h13 : v.length = 13
 · rw [e13 h13, e10 (by omega)] at ht
   rw [decide_eq_true h13, decide_eq_false (show ¬ v.length = 9 by omega)] at hok
   cases h3 : dg v 1 == 3 with
   | false =>
    rw [h3] at ht hok
    have hok : okC 22 v = false := by rw [hok]; cases dg v 0 == 0 <;> cases dg v 1 == 6 <;> rfl
    unfold vOut; rw [hok]
    exact vg_no (congrArg crun ht) (.inl rfl)
   | true =>
    rw [h3] at ht hok
    rw [show ∀ K, tuR v true false K = tuY v K from fun _ => rfl, eY (by omega)] at ht
    cases hz : dg v 0 == 0 with
    | false =>
     rw [show (dg v 0 != 0) = true by unfold bne; rw [hz]; rfl, cond_true] at ht
     rw [hz, cond_false] at hok
     unfold vOut; rw [hok]
     exact vg_no (congrArg crun ht) (.inl rfl)
    | true =>
     rw [show (dg v 0 != 0) = false by unfold bne; rw [hz]; rfl, cond_false, inb (by omega), cond_true] at ht
     rw [hz, cond_true, cond_true] at hok
     unfold ytC at ht
     obtain ⟨r1, r2⟩ := tkN_rng hv.ok 2 3
     obtain ⟨r3, r4⟩ := tkN_rng hv.ok 5 4
     obtain ⟨r5, r6⟩ := tkN_rng hv.ok 9 4
     rw [dec_iff.2 ⟨hv, by omega, by omega, by omega, by decide⟩, cond_true, dec_iff.2 ⟨hv, by omega, by omega, by omega, by decide⟩, cond_true, cond_true, dec_iff.2 ⟨hv, by omega, by omega, by omega, by decide⟩, cond_true,
      show w64 (dg v 1) = dg v 1 from w64_id (by omega) (by omega), w3_id r1 (Int.lt_trans r2 (by decide)), w3_id r3 (Int.lt_of_lt_of_le r4 (by decide)), w3_id r5 (Int.lt_of_lt_of_le r6 (by decide))] at ht
     have hG : gC 22 v ⟨pb, cb, mb, d⟩ = ⟨pb, cb, mb, dT d (dg v 1) (tkN v 2 3) (tkN v 5 4) (tkN v 9 4)⟩ := by
      show (⟨pb, cb, mb, tnG v d⟩ : Dz) = _
      unfold tnG; rw [h3]; rfl
     unfold vOut; rw [hok, hG]
     exact vg_yes (congrArg crun ht)
 · rw [decide_eq_false h13] at hok
   rw [e14 h13] at ht
   by_cases h9 : v.length = 9
   · rw [e9 h9] at ht
     rw [decide_eq_true h9] at hok
     cases h6 : dg v 1 == 6 with
     | false =>
      rw [h6] at ht hok
      have hok : okC 22 v = false := by rw [hok]; cases dg v 0 == 0 <;> cases dg v 1 == 3 <;> rfl
      unfold vOut; rw [hok]
      exact vg_no (congrArg crun ht) (.inl rfl)
     | true =>
      have h3 : (dg v 1 == 3) = false := by have : dg v 1 = 6 := by simpa using h6
                                            rw [this]; rfl
      rw [h6] at ht hok
      rw [h3] at hok
      rw [show ∀ K, tuR v false true K = tuY v K from fun _ => rfl, eY (by omega)] at ht
      cases hz : dg v 0 == 0 with
      | false =>
       rw [show (dg v 0 != 0) = true by unfold bne; rw [hz]; rfl, cond_true] at ht
       rw [hz, cond_false] at hok
       unfold vOut; rw [hok]
       exact vg_no (congrArg crun ht) (.inl rfl)
      | true =>
       rw [show (dg v 0 != 0) = false by unfold bne; rw [hz]; rfl, cond_false, inb (by omega), cond_true] at ht
       rw [hz, cond_true, cond_false, cond_true] at hok
       unfold ytC at ht
       obtain ⟨r1, r2⟩ := tkN_rng hv.ok 2 3
       obtain ⟨r3, r4⟩ := tkN_rng hv.ok 5 4
       rw [dec_iff.2 ⟨hv, by omega, by omega, by omega, by decide⟩, cond_true, dec_iff.2 ⟨hv, by omega, by omega, by omega, by decide⟩, cond_true, cond_false,
        show w64 (dg v 1) = dg v 1 from w64_id (by omega) (by omega), w3_id r1 (Int.lt_trans r2 (by decide)), w3_id r3 (Int.lt_of_lt_of_le r4 (by decide))] at ht
       have hG : gC 22 v ⟨pb, cb, mb, d⟩ = ⟨pb, cb, mb, dT d (dg v 1) (tkN v 2 3) (tkN v 5 4) 0⟩ := by
        show (⟨pb, cb, mb, tnG v d⟩ : Dz) = _
        unfold tnG; rw [h3]; rfl
       unfold vOut; rw [hok, hG]
       exact vg_yes (congrArg crun ht)
   · rw [e10 h9] at ht
     rw [decide_eq_false h9] at hok
     have hok : okC 22 v = false := by rw [hok]; cases dg v 0 == 0 <;> cases dg v 1 == 3 <;> cases dg v 1 == 6 <;> rfl
     unfold vOut; rw [hok]
     exact vg_no (congrArg crun ht) (.inl rfl)
end
end Go.Proofs.YtdgnhaacdpmclaaGreat
/- The reference reads attributes: a value known, an attribute evaluated. -/
namespace Go.Proofs.YtdgnhaacdpmclaaGreat
open Go.Am
set_option maxRecDepth 100000
noncomputable def vv_s : CSumm := fun args H => match args, H with
 | [.ptr 0 0, .int .u8 g, .psl 5 v], [(0, .cells 83 cs)] => match yP cs with
  | some (pb, cb, mb, d, f) => .ite (dec (H = [(0, rZ ⟨pb, cb, mb, d⟩ f)] ∧ byl v ∧ v.length ≤ 1000 ∧ knC g = true ∧ (g = 2 → pb = true) ∧ (g = 10 → cb = true) ∧ (g = 16 → mb = true)))
    (.ite (okC g v) (.ret (.bool true) [(0, some (rZ (gC g v ⟨pb, cb, mb, d⟩) f))]) (.ret (.bool false) [(0, none)])) .fail
  | none => .fail
 | _, _ => .fail
theorem va_k {T : LTab} (hT : LOk Tryz.prog T) {c : Code} (hb : Tryz.f77.body = some (fillC T c)) : Known Tryz.prog 77 (vB T c) := ⟨⟨Tryz.f77, Tryz.func77, noNum_at noNumTry Tryz.func77, rfl⟩, bodyL_valid vaOk mixTry hT Tryz.func77 hb⟩
theorem va_k1 : Known Tryz.prog 77 (vB (ltab []) body77) := va_k ltab_nil (show Tryz.f77.body = some (fillC (ltab []) body77) by kernel_rfl)
theorem va_k2 : Known Tryz.prog 77 (vB T77 m77) := va_k (ltab_cons yl_valid (ltab_cons ym_valid ltab_nil)) (show Tryz.f77.body = some (fillC T77 m77) by kernel_rfl)
theorem vv_k : Known Tryz.prog 77 vv_s := known_told_each va_k1 (by
 intro args H v' ups' h
 unfold vv_s at h
 split at h
 · rename_i g v cs
   split at h
   · rename_i pb cb mb d f hd
     rw [crun_ite] at h
     cases hc : dec _ with
     | false => rw [hc] at h; cases h
     | true =>
      rw [hc, cond_true, crun_ite] at h
      obtain ⟨hH, hv, hl, hk, p2, p10, p16⟩ := dec_iff.1 hc
      rw [hH]
      have fin : ∀ s, Known Tryz.prog 77 s → VGo s g v ⟨pb, cb, mb, d⟩ f (okC g v) (vOut g v ⟨pb, cb, mb, d⟩ f) → ∃ s, Known Tryz.prog 77 s ∧ ∃ v1 ups, crun (s [.ptr 0 0, .int .u8 g, .psl 5 v] [(0, rZ ⟨pb, cb, mb, d⟩ f)]) = some (v1, ups) ∧
        (Frozen Tryz.prog [(0, rZ ⟨pb, cb, mb, d⟩ f)] v1 ups v' ups' ∨ Am.Told Tryz.prog [(0, rZ ⟨pb, cb, mb, d⟩ f)] v1 ups v' ups') := by
       intro s hs hg
       refine ⟨s, hs, ?_⟩
       unfold vOut at hg
       cases ho : okC g v with
       | true => rw [ho] at h hg; cases h; exact hg
       | false => rw [ho] at h hg; cases h; exact hg
      rcases knC_of hk with rfl | rfl | rfl | rfl | rfl | rfl | rfl | rfl | rfl | rfl
      · exact fin _ va_k1 (vv_1)
      · have := p2 rfl; subst this; exact fin _ va_k1 (vv_2 hv hl)
      · exact fin _ va_k1 (vv_n (dn := d4) hv rfl rfl (v_4 v pb cb mb d f))
      · exact fin _ va_k1 (vv_n (dn := d5) hv rfl rfl (v_5 v pb cb mb d f))
      · exact fin _ va_k1 (vv_n (dn := d9) hv rfl rfl (v_9 v pb cb mb d f))
      · have := p10 rfl; subst this; exact fin _ va_k2 (vv_10 hv hl)
      · exact fin _ va_k1 (vv_14 hv hl)
      · exact fin _ va_k1 (vv_15 hv hl)
      · have := p16 rfl; subst this; exact fin _ va_k2 (vv_16 hl)
      · exact fin _ va_k1 (vv_22 hv hl)
   · cases h
 · cases h)
noncomputable abbrev κon := tbl [(77, vv_s)]
theorem onOk : KOk Tryz.prog κon := tbl_cons vv_k ok0
def stF (f : Nat → Bool) (g : Int) (i : Nat) : Bool := bif Nat.beq i g.toNat then true else f i
def andR (g fl : Int) : Int := bif flC g == 192 then andN (andN fl 16) 32 else andN fl 16
def oAr (fl g : Int) (v : List SV) : List SV := [.ptr 0 0, .int .u8 fl, .int .u8 g, .psl 5 v]
noncomputable def oneT (fl g : Int) (v : List SV) (z : Dz) (f : Nat → Bool) : CTree :=
 bif andR g fl != flC g then .ret (.int .i64 17) [] else bif f g.toNat then .ret (.int .i64 11) [] else
 bif dec ([(0, rZ z (stF f g))] = [(0, rZ (nZ z) (mtF (mtL (stF f g) 256 0)))] ∧ byl v ∧ v.length ≤ 1000 ∧ knC g = true ∧ (g = 2 → z.pb = true) ∧ (g = 10 → z.cb = true) ∧ (g = 16 → z.mb = true)) then
  bif okC g v then .ret (.int .i64 0) [(0, some (rZ (gC g v (nZ z)) (mtF (mtL (stF f g) 256 0))))] else .ret (.int .i64 3) [(0, none)] else .fail
theorem o_1 (fl : Int) (v : List SV) (pb cb mb : Bool) (d : Ds) (f : Nat → Bool) : opn κon Tryz.f28 (oAr fl 1 v) [(0, rZ ⟨pb, cb, mb, d⟩ f)] = oneT fl 1 v ⟨pb, cb, mb, d⟩ f := by cases pb <;> cases cb <;> cases mb <;> kernel_rfl
end Go.Proofs.YtdgnhaacdpmclaaGreat
/- The reference reads attributes: an attribute, by its code. -/
namespace Go.Proofs.YtdgnhaacdpmclaaGreat
open Go.Am
set_option maxRecDepth 100000
theorem o_2 (fl : Int) (v : List SV) (pb cb mb : Bool) (d : Ds) (f : Nat → Bool) : opn κon Tryz.f28 (oAr fl 2 v) [(0, rZ ⟨pb, cb, mb, d⟩ f)] = oneT fl 2 v ⟨pb, cb, mb, d⟩ f := by cases pb <;> cases cb <;> cases mb <;> kernel_rfl
theorem o_4 (fl : Int) (v : List SV) (pb cb mb : Bool) (d : Ds) (f : Nat → Bool) : opn κon Tryz.f28 (oAr fl 4 v) [(0, rZ ⟨pb, cb, mb, d⟩ f)] = oneT fl 4 v ⟨pb, cb, mb, d⟩ f := by cases pb <;> cases cb <;> cases mb <;> kernel_rfl
theorem o_5 (fl : Int) (v : List SV) (pb cb mb : Bool) (d : Ds) (f : Nat → Bool) : opn κon Tryz.f28 (oAr fl 5 v) [(0, rZ ⟨pb, cb, mb, d⟩ f)] = oneT fl 5 v ⟨pb, cb, mb, d⟩ f := by cases pb <;> cases cb <;> cases mb <;> kernel_rfl
theorem o_9 (fl : Int) (v : List SV) (pb cb mb : Bool) (d : Ds) (f : Nat → Bool) : opn κon Tryz.f28 (oAr fl 9 v) [(0, rZ ⟨pb, cb, mb, d⟩ f)] = oneT fl 9 v ⟨pb, cb, mb, d⟩ f := by cases pb <;> cases cb <;> cases mb <;> kernel_rfl
theorem o_10 (fl : Int) (v : List SV) (pb cb mb : Bool) (d : Ds) (f : Nat → Bool) : opn κon Tryz.f28 (oAr fl 10 v) [(0, rZ ⟨pb, cb, mb, d⟩ f)] = oneT fl 10 v ⟨pb, cb, mb, d⟩ f := by cases pb <;> cases cb <;> cases mb <;> kernel_rfl
theorem o_14 (fl : Int) (v : List SV) (pb cb mb : Bool) (d : Ds) (f : Nat → Bool) : opn κon Tryz.f28 (oAr fl 14 v) [(0, rZ ⟨pb, cb, mb, d⟩ f)] = oneT fl 14 v ⟨pb, cb, mb, d⟩ f := by cases pb <;> cases cb <;> cases mb <;> kernel_rfl
theorem o_15 (fl : Int) (v : List SV) (pb cb mb : Bool) (d : Ds) (f : Nat → Bool) : opn κon Tryz.f28 (oAr fl 15 v) [(0, rZ ⟨pb, cb, mb, d⟩ f)] = oneT fl 15 v ⟨pb, cb, mb, d⟩ f := by cases pb <;> cases cb <;> cases mb <;> kernel_rfl
theorem o_16 (fl : Int) (v : List SV) (pb cb mb : Bool) (d : Ds) (f : Nat → Bool) : opn κon Tryz.f28 (oAr fl 16 v) [(0, rZ ⟨pb, cb, mb, d⟩ f)] = oneT fl 16 v ⟨pb, cb, mb, d⟩ f := by cases pb <;> cases cb <;> cases mb <;> kernel_rfl
theorem o_22 (fl : Int) (v : List SV) (pb cb mb : Bool) (d : Ds) (f : Nat → Bool) : opn κon Tryz.f28 (oAr fl 22 v) [(0, rZ ⟨pb, cb, mb, d⟩ f)] = oneT fl 22 v ⟨pb, cb, mb, d⟩ f := by cases pb <;> cases cb <;> cases mb <;> kernel_rfl
end Go.Proofs.YtdgnhaacdpmclaaGreat
/- The reference reads attributes: an attribute, of a code that is not known. -/
namespace Go.Proofs.YtdgnhaacdpmclaaGreat
open Go.Am
set_option maxRecDepth 100000
noncomputable def fg_s : CSumm := fun args H => match args with
 | [.int .u8 g] => .ite (dec (knC g = false ∧ H = [])) (.ret (.tup [.int .u8 0, .bool false]) []) .fail
 | _ => .fail
def fgQ (g k : Int) (A N M : CTree) : CTree := bif g == k then (bif g == k then A else N) else M
def fg16 (g : Int) (C D : CTree) : CTree := fgQ g 16 C D (bif g == 22 then C else D)
def fg4 (g : Int) (B N : CTree) : CTree := fgQ g 4 B N (fgQ g 9 B N (fgQ g 10 B N (fgQ g 14 B N (bif g == 15 then B else N))))
def fgT (g : Int) (A B C D : CTree) : CTree := fgQ g 1 A (fg4 g B (fg16 g C D)) (fgQ g 2 A (fg4 g B (fg16 g C D)) (bif g == 5 then A else fg4 g B (fg16 g C D)))
def fgR (w : Int) (b : Bool) : CTree := .ret (.tup [.int .u8 w, .bool b]) []
theorem fg_t (g : Int) : opn (tbl []) Tryz.f76 [.int .u8 g] [] = fgT g (fgR 64 true) (fgR 128 true) (fgR 192 true) (fgR 0 false) := by kernel_rfl
theorem fg_k : Known Tryz.prog 76 fg_s := (openKnown ok0 Tryz.func76 rfl).weak (by
 intro args H v ups h
 unfold fg_s at h
 split at h
 · rename_i g
   rw [crun_ite] at h
   cases hc : dec _ with
   | false => rw [hc] at h; cases h
   | true =>
    rw [hc, cond_true] at h
    obtain ⟨hk, rfl⟩ := dec_iff.1 hc
    have no : ∀ k : Int, knC k = true → (g == k) = false := fun k hkk => beq_eq_false_iff_ne.2 (fun e => by rw [e, hkk] at hk; cases hk)
    refine (congrArg crun (fg_t g)).trans ?_
    unfold fgT fg4 fg16 fgQ
    rw [no 1 rfl, no 2 rfl, no 5 rfl, no 4 rfl, no 9 rfl, no 10 rfl, no 14 rfl, no 15 rfl, no 16 rfl, no 22 rfl]
    exact h
 · cases h)
noncomputable abbrev κou := tbl [(77, vv_s), (76, fg_s)]
theorem ouOk : KOk Tryz.prog κou := tbl_cons vv_k (tbl_cons fg_k ok0)
theorem o_u (fl g : Int) (v : List SV) (pb cb mb : Bool) (d : Ds) (f : Nat → Bool) : opn κou Tryz.f28 (oAr fl g v) [(0, rZ ⟨pb, cb, mb, d⟩ f)] =
 bif dec (knC g = false ∧ ([] : HpL) = []) then bif andI .u8 (andN fl 16) 128 == 0 then .ret (.int .i64 17) [] else .ret (.int .i64 0) [] else .fail := by cases pb <;> cases cb <;> cases mb <;> kernel_rfl
end Go.Proofs.YtdgnhaacdpmclaaGreat
/- The reference reads attributes: an attribute, known. -/
namespace Go.Proofs.YtdgnhaacdpmclaaGreat
open Go.Am
set_option maxRecDepth 100000
theorem byt_all : ((List.range 256).all fun k => (andN (andN (k : Int) 16) 32 == andN (k : Int) 48) && (andI .u8 (andN (k : Int) 16) 128 == andI .u8 (k : Int) 128)) = true := by kernel_rfl
theorem byt_at {fl : Int} (h0 : 0 ≤ fl) (h1 : fl ≤ 255) : andN (andN fl 16) 32 = andN fl 48 ∧ andI .u8 (andN fl 16) 128 = andI .u8 fl 128 := by
 obtain ⟨k, rfl⟩ := Int.eq_ofNat_of_zero_le h0
 have := List.all_eq_true.1 byt_all k (List.mem_range.2 (by omega))
 simp only [Bool.and_eq_true, beq_iff_eq] at this
 exact this
theorem andR_eq {g fl : Int} (hk : knC g = true) (h0 : 0 ≤ fl) (h1 : fl ≤ 255) : andR g fl = andN fl (igC g) := by
 rcases knC_of hk with rfl | rfl | rfl | rfl | rfl | rfl | rfl | rfl | rfl | rfl
 all_goals first | rfl | exact (byt_at h0 h1).1
def oInv (z : Dz) (f : Nat → Bool) : Prop := nZ z = z ∧ (f 2 = false → z.pb = true) ∧ (f 10 = false → z.cb = true) ∧ (f 16 = false → z.mb = true)
noncomputable def oneE (fl g : Int) (v : List SV) (f : Nat → Bool) : Int := bif fitC g fl then (bif f g.toNat then 11 else bif okC g v then 0 else 3) else 17
noncomputable def on_s (g : Int) : CSumm := fun args H => match args, H with
 | [.ptr 0 0, .int .u8 fl, .int .u8 g', .psl 5 v], [(0, .cells 83 cs)] => match yP cs with
  | some (pb, cb, mb, d, f) => .ite (dec (H = [(0, rZ ⟨pb, cb, mb, d⟩ f)] ∧ g' = g ∧ knC g = true ∧ oInv ⟨pb, cb, mb, d⟩ f ∧ byl v ∧ v.length ≤ 1000 ∧ 0 ≤ fl ∧ fl ≤ 255))
    (.ite (oneE fl g v f == 0) (.ret (.int .i64 0) [(0, some (rZ (gC g v ⟨pb, cb, mb, d⟩) (stF f g)))]) (.ret (.int .i64 (oneE fl g v f)) [(0, none)])) .fail
  | none => .fail
 | _, _ => .fail
theorem rZ_mt (z : Dz) (f : Nat → Bool) : rZ z (mtF (mtL f 256 0)) = rZ z f := by unfold rZ rS; rw [mtF_mt]
theorem dropped {c : Chunk} {e : Int} {ups : List (Nat × Option Chunk)} (hu : ups = [] ∨ ups = [(0, none)]) : Am.Told Tryz.prog [(0, c)] (.int .i64 e) ups (.int .i64 e) [(0, none)] := by
 refine ⟨.rfl', fun x c' hx => ?_⟩
 simp only [updF] at hx
 by_cases h0 : x = 0
 · rw [if_pos h0] at hx; cases hx
 · rw [if_neg h0] at hx
   rcases hu with rfl | rfl
   · exact ⟨c', hx, .rfl'⟩
   · exact ⟨c', by simp only [updF, h0, if_false]; exact hx, .rfl'⟩
theorem on_k (g : Int) : Known Tryz.prog 28 (on_s g) := known_told (openKnown onOk Tryz.func28 rfl) (by
 intro args H v' ups' h
 unfold on_s at h
 split at h
 · rename_i fl g' v cs
   split at h
   · rename_i pb cb mb d f hd
     rw [crun_ite] at h
     cases hc : dec _ with
     | false => rw [hc] at h; cases h
     | true =>
      rw [hc, cond_true, crun_ite] at h
      obtain ⟨hH, rfl, hk, ⟨i1, i2, i3, i4⟩, hv, hl, f0, f1⟩ := dec_iff.1 hc
      rw [hH]
      have ht : opn κon Tryz.f28 (oAr fl g' v) [(0, rZ ⟨pb, cb, mb, d⟩ f)] = oneT fl g' v ⟨pb, cb, mb, d⟩ f := by
       rcases knC_of hk with rfl | rfl | rfl | rfl | rfl | rfl | rfl | rfl | rfl | rfl
       · exact o_1 ..
       · exact o_2 ..
       · exact o_4 ..
       · exact o_5 ..
       · exact o_9 ..
       · exact o_10 ..
       · exact o_14 ..
       · exact o_15 ..
       · exact o_16 ..
       · exact o_22 ..
      unfold oneT at ht
      rw [andR_eq hk f0 f1] at ht
      unfold oneE fitC at h
      cases hf : (andN fl (igC g') == flC g') with
      | false =>
       rw [show (andN fl (igC g') != flC g') = true by unfold bne; rw [hf]; rfl, cond_true] at ht
       rw [hf] at h
       cases h
       exact ⟨_, _, congrArg crun ht, .inr (dropped (.inl rfl))⟩
      | true =>
       rw [show (andN fl (igC g') != flC g') = false by unfold bne; rw [hf]; rfl, cond_false] at ht
       rw [hf] at h
       cases hm : f g'.toNat with
       | true =>
        rw [hm] at ht h
        cases h
        exact ⟨_, _, congrArg crun ht, .inr (dropped (.inl rfl))⟩
       | false =>
        rw [hm, cond_false, rZ_mt, i1, rZ_mt, dec_iff.2 ⟨rfl, hv, hl, hk, fun e => i2 (by subst e; exact hm), fun e => i3 (by subst e; exact hm), fun e => i4 (by subst e; exact hm)⟩, cond_true] at ht
        rw [hm] at h
        cases ho : okC g' v with
        | true =>
         rw [ho] at ht h
         cases h
         exact ⟨_, _, congrArg crun ht, .inr ⟨.rfl', fun x c' hx => ⟨c', hx, .rfl'⟩⟩⟩
        | false =>
         rw [ho] at ht h
         cases h
         exact ⟨_, _, congrArg crun ht, .inr (dropped (.inr rfl))⟩
   · cases h
 · cases h)
noncomputable def ou_s : CSumm := fun args H => match args, H with
 | [.ptr 0 0, .int .u8 fl, .int .u8 g, .psl 5 v], [(0, .cells 83 cs)] => match yP cs with
  | some (pb, cb, mb, d, f) => .ite (dec (H = [(0, rZ ⟨pb, cb, mb, d⟩ f)] ∧ knC g = false ∧ 0 ≤ fl ∧ fl ≤ 255))
    (.ite (andI .u8 fl 128 == 0) (.ret (.int .i64 17) [(0, none)]) (.ret (.int .i64 0) [])) .fail
  | none => .fail
 | _, _ => .fail
theorem ou_k : Known Tryz.prog 28 ou_s := known_told (openKnown ouOk Tryz.func28 rfl) (by
 intro args H v' ups' h
 unfold ou_s at h
 split at h
 · rename_i fl g v cs
   split at h
   · rename_i pb cb mb d f hd
     rw [crun_ite] at h
     cases hc : dec _ with
     | false => rw [hc] at h; cases h
     | true =>
      rw [hc, cond_true, crun_ite] at h
      obtain ⟨hH, hk, f0, f1⟩ := dec_iff.1 hc
      rw [hH]
      have ht := o_u fl g v pb cb mb d f
      rw [dec_iff.2 ⟨hk, rfl⟩, cond_true, (byt_at f0 f1).2] at ht
      cases hf : andI .u8 fl 128 == 0 with
      | true =>
       rw [hf] at ht h
       cases h
       exact ⟨_, _, congrArg crun ht, .inr (dropped (.inl rfl))⟩
      | false =>
       rw [hf] at ht h
       cases h
       exact ⟨_, _, congrArg crun ht, .inr ⟨.rfl', fun x c' hx => ⟨c', hx, .rfl'⟩⟩⟩
   · cases h
 · cases h)
end Go.Proofs.YtdgnhaacdpmclaaGreat
/- The reference reads attributes: the loop's summary. -/
namespace Go.Proofs.YtdgnhaacdpmclaaGreat
open Go.Am
set_option maxRecDepth 100000
def lkF (f : Nat → Bool) (g : Int) : Bool := f g.toNat
def cnF (f : Nat → Bool) : Nat → Bool := mtF (mtL f 256 0)
theorem mtL_len (f : Nat → Bool) : ∀ (n i : Nat), (mtL f n i).length = n
 | 0, _ => rfl
 | n + 1, i => by rw [mtL, List.length_cons, mtL_len f n (i + 1)]
theorem cnF_id {f : Nat → Bool} (h : ∀ i, 256 ≤ i → f i = false) : cnF f = f := by
 funext i
 unfold cnF mtF
 by_cases hi : i < 256
 · rw [mtL_nth f 256 0 i hi, Nat.zero_add]; rfl
 · rw [List.getD_eq_getElem?_getD, List.getElem?_eq_none (by rw [mtL_len]; omega)]
   exact (h i (by omega)).symm
def aZc : Chunk := .cells 33 [.int .i64 0, .nils, .int .u32 0, .bool false, .int .u32 0, .bool false, .int .u32 0, .bool false, .int .u32 0, .nils, .nils, .int .i64 0, .int .u32 0, .int .u32 0, .int .u32 0]
def qH (c : Chunk) : HpL := [(0, aZc), (1, .cells 37 [.int .i64 0, .int .i64 0]), (2, c)]
def qAr (p : List SV) (a : Int) : List SV := [.psl 5 p, .ptr 0 0, .nils, .nils, .ptr 1 0, .ptr 2 0, .int .i64 a]
def qV (c : Int) (p : List SV) : SV := .tup [.int .i64 c, .psl 5 p, .ptr 0 0, .nils, .nils, .ptr 1 0, .ptr 2 0]
noncomputable abbrev attM := attL lkF stF
def qF (e a : Int) : Chunk := .cells 37 [.int .i64 e, .int .i64 a]
noncomputable def qEnd (p : List SV) (o : Int × Int × (Nat → Bool) × Dz) : CTree :=
 .ite (o.1 == 0) (.ret (qV 2 p) [(2, some (rS false false false o.2.2.2.d o.2.2.1))]) (.ret (qV 1 p) [(1, some (qF o.1 o.2.1)), (0, some aZc), (2, none)])
def qInv (p : List SV) (a : Int) (z : Dz) (f : Nat → Bool) : Prop := oInv z f ∧ cnF f = f ∧ byl p ∧ p.length ≤ 1000 ∧ 0 ≤ a ∧ a ≤ p.length
noncomputable def q_s : CSumm := fun args H => match args, H with
 | [.psl 5 p, .ptr 0 0, .nils, .nils, .ptr 1 0, .ptr 2 0, .int .i64 a], [(0, _), (1, _), (2, .cells 83 cs)] => match yP cs with
  | some (pb, cb, mb, d, f) => .ite (dec (H = qH (rZ ⟨pb, cb, mb, d⟩ f) ∧ qInv p a ⟨pb, cb, mb, d⟩ f)) (qEnd p (attM p p.length a.toNat 0 f ⟨pb, cb, mb, d⟩)) .fail
  | none => .fail
 | _, _ => .fail
def qM : List SV → HpL → Nat
 | [.psl _ p, _, _, _, _, _, .int _ a], _ => p.length - a.toNat
 | _, _ => 0
noncomputable def body10 : Code := Tryz.f10.body.getD .skip
noncomputable def c10 : Code := (loopAt 3 body10).getD .skip
noncomputable def e10 : LEnt := { ins := [0, 2, 3, 4, 5, 6, 7], outs := [0, 2, 3, 4, 5, 6], keep := [], size := 118, code := c10, s := q_s }
noncomputable abbrev κq1 (s : CSumm) := openT Tryz.prog (tbl [(26, yt_s), (28, s)]) 300 5
noncomputable abbrev ιq1 : Nat → Bool := fun g => inl (tbl [(26, yt_s), (28, yt_s)]) g && hasBody Tryz.prog g
theorem q1Ok {s : CSumm} (h : Known Tryz.prog 28 s) : KOk Tryz.prog (κq1 s) := openT_ok noNumTry mixTry (tbl_cons yt_k (tbl_cons h ok0)) 300 5
noncomputable abbrev qOnce (N : Nat) (s : CSumm) : CSumm := loopOnce Tryz.prog (κq1 s) ιq1 (ltab []) true 300 e10 { e10 with s := boundT qM q_s N } c10
/- Behind a round. -/
noncomputable def qNx (N : Nat) (p : List SV) (a : Int) (z : Dz) (f : Nat → Bool) (K : Int × Int × (Nat → Bool) × Dz → CTree) : CTree :=
 bif Nat.blt (p.length - a.toNat) N then bif dec (qH (rZ z f) = qH (rZ (nZ z) (cnF f)) ∧ qInv p a (nZ z) (cnF f)) then K (attM p p.length a.toNat 0 (cnF f) (nZ z)) else .fail else .fail
noncomputable def qK (p : List SV) (o : Int × Int × (Nat → Bool) × Dz) : CTree :=
 bif o.1 == 0 then .ret (qV 2 p) [(2, some (rS false false false o.2.2.2.d o.2.2.1))] else .ret (qV 1 p) [(0, some aZc), (1, some (qF o.1 o.2.1)), (2, none)]
def qFlt (p : List SV) (e a : Int) : CTree := .ret (qV 1 p) [(1, some (qF e a)), (0, some aZc)]
def qFlt2 (p : List SV) (e a : Int) : CTree := .ret (qV 1 p) [(1, some (qF e a)), (0, some aZc), (2, none)]
/- Where the value begins and ends. -/
noncomputable def qEd (p : List SV) (a h : Int) : Int := w64 (w64 (a + h) + w64 (tkN p (w64 (a + 2)).toNat (w64 (h - 2)).toNat))
noncomputable def qVl (p : List SV) (a h : Int) : List SV := (p.drop (w64 (a + h)).toNat).take ((qEd p a h).toNat - (w64 (a + h)).toNat)
noncomputable def qX (p : List SV) (a h : Int) (K : List SV → Int → CTree) : CTree :=
 bif decide (w64 (a + h) > (p.length : Int)) then qFlt p 4 a else ytC p (w64 (a + 2)) (w64 (h - 2)) (bif decide (qEd p a h > (p.length : Int)) then qFlt p 4 a else ytC p (w64 (a + 2)) (w64 (h - 2)) (
  bif inB a p.length then bif inB (w64 (a + 1)) p.length then bif decide (0 ≤ w64 (a + h)) && decide (w64 (a + h) ≤ qEd p a h) && decide (qEd p a h ≤ (p.length : Int)) then K (qVl p a h) (qEd p a h) else .fail else .fail else .fail))
noncomputable def qRd (p : List SV) (a : Int) (K : List SV → Int → CTree) : CTree :=
 bif decide (a < (p.length : Int)) then bif inB a p.length then bif andI .u8 (dg p a.toNat) 16 != 0 then qX p a 4 K else qX p a 3 K else .fail else .ret (qV 2 p) []
noncomputable def qOn (N : Nat) (g : Int) (p : List SV) (a : Int) (z : Dz) (f : Nat → Bool) (v : List SV) (e : Int) : CTree :=
 bif dec ([(0, rZ z f)] = [(0, rZ (nZ z) (cnF f))] ∧ dg p (w64 (a + 1)).toNat = g ∧ knC g = true ∧ oInv (nZ z) (cnF f) ∧ byl v ∧ v.length ≤ 1000 ∧ 0 ≤ dg p a.toNat ∧ dg p a.toNat ≤ 255) then
  bif oneE (dg p a.toNat) g v (cnF f) == 0 then qNx N p e (gC g v (nZ z)) (stF (cnF f) g) (qK p)
  else bif oneE (dg p a.toNat) g v (cnF f) != 0 then qFlt2 p (oneE (dg p a.toNat) g v (cnF f)) a else .fail
 else .fail
theorem q_1 (N : Nat) (p : List SV) (a : Int) (pb cb mb : Bool) (d : Ds) (f : Nat → Bool) : qOnce N (on_s 1) (qAr p a) (qH (rZ ⟨pb, cb, mb, d⟩ f)) = qRd p a (qOn N 1 p a ⟨pb, cb, mb, d⟩ f) := by cases pb <;> cases cb <;> cases mb <;> kernel_rfl
end Go.Proofs.YtdgnhaacdpmclaaGreat
/- The reference reads attributes: rounds of the loop with the codes 2 to 5. -/
namespace Go.Proofs.YtdgnhaacdpmclaaGreat
open Go.Am
set_option maxRecDepth 100000
theorem q_2 (N : Nat) (p : List SV) (a : Int) (pb cb mb : Bool) (d : Ds) (f : Nat → Bool) : qOnce N (on_s 2) (qAr p a) (qH (rZ ⟨pb, cb, mb, d⟩ f)) = qRd p a (qOn N 2 p a ⟨pb, cb, mb, d⟩ f) := by cases pb <;> cases cb <;> cases mb <;> kernel_rfl
theorem q_4 (N : Nat) (p : List SV) (a : Int) (pb cb mb : Bool) (d : Ds) (f : Nat → Bool) : qOnce N (on_s 4) (qAr p a) (qH (rZ ⟨pb, cb, mb, d⟩ f)) = qRd p a (qOn N 4 p a ⟨pb, cb, mb, d⟩ f) := by cases pb <;> cases cb <;> cases mb <;> kernel_rfl
theorem q_5 (N : Nat) (p : List SV) (a : Int) (pb cb mb : Bool) (d : Ds) (f : Nat → Bool) : qOnce N (on_s 5) (qAr p a) (qH (rZ ⟨pb, cb, mb, d⟩ f)) = qRd p a (qOn N 5 p a ⟨pb, cb, mb, d⟩ f) := by cases pb <;> cases cb <;> cases mb <;> kernel_rfl
end Go.Proofs.YtdgnhaacdpmclaaGreat
/- The reference reads attributes: rounds of the loop with the codes 9 to 14. -/
namespace Go.Proofs.YtdgnhaacdpmclaaGreat
open Go.Am
set_option maxRecDepth 100000
theorem q_9 (N : Nat) (p : List SV) (a : Int) (pb cb mb : Bool) (d : Ds) (f : Nat → Bool) : qOnce N (on_s 9) (qAr p a) (qH (rZ ⟨pb, cb, mb, d⟩ f)) = qRd p a (qOn N 9 p a ⟨pb, cb, mb, d⟩ f) := by cases pb <;> cases cb <;> cases mb <;> kernel_rfl
theorem q_10 (N : Nat) (p : List SV) (a : Int) (pb cb mb : Bool) (d : Ds) (f : Nat → Bool) : qOnce N (on_s 10) (qAr p a) (qH (rZ ⟨pb, cb, mb, d⟩ f)) = qRd p a (qOn N 10 p a ⟨pb, cb, mb, d⟩ f) := by cases pb <;> cases cb <;> cases mb <;> kernel_rfl
theorem q_14 (N : Nat) (p : List SV) (a : Int) (pb cb mb : Bool) (d : Ds) (f : Nat → Bool) : qOnce N (on_s 14) (qAr p a) (qH (rZ ⟨pb, cb, mb, d⟩ f)) = qRd p a (qOn N 14 p a ⟨pb, cb, mb, d⟩ f) := by cases pb <;> cases cb <;> cases mb <;> kernel_rfl
end Go.Proofs.YtdgnhaacdpmclaaGreat
/- The reference reads attributes: rounds of the loop with the codes 15 to 22. -/
namespace Go.Proofs.YtdgnhaacdpmclaaGreat
open Go.Am
set_option maxRecDepth 100000
theorem q_15 (N : Nat) (p : List SV) (a : Int) (pb cb mb : Bool) (d : Ds) (f : Nat → Bool) : qOnce N (on_s 15) (qAr p a) (qH (rZ ⟨pb, cb, mb, d⟩ f)) = qRd p a (qOn N 15 p a ⟨pb, cb, mb, d⟩ f) := by cases pb <;> cases cb <;> cases mb <;> kernel_rfl
theorem q_16 (N : Nat) (p : List SV) (a : Int) (pb cb mb : Bool) (d : Ds) (f : Nat → Bool) : qOnce N (on_s 16) (qAr p a) (qH (rZ ⟨pb, cb, mb, d⟩ f)) = qRd p a (qOn N 16 p a ⟨pb, cb, mb, d⟩ f) := by cases pb <;> cases cb <;> cases mb <;> kernel_rfl
theorem q_22 (N : Nat) (p : List SV) (a : Int) (pb cb mb : Bool) (d : Ds) (f : Nat → Bool) : qOnce N (on_s 22) (qAr p a) (qH (rZ ⟨pb, cb, mb, d⟩ f)) = qRd p a (qOn N 22 p a ⟨pb, cb, mb, d⟩ f) := by cases pb <;> cases cb <;> cases mb <;> kernel_rfl
end Go.Proofs.YtdgnhaacdpmclaaGreat
/- The reference reads attributes: rounds of the loop with unknown codes. -/
namespace Go.Proofs.YtdgnhaacdpmclaaGreat
open Go.Am
set_option maxRecDepth 100000
noncomputable def qKu (p : List SV) (o : Int × Int × (Nat → Bool) × Dz) : CTree :=
 bif o.1 == 0 then .ret (qV 2 p) [(2, some (rS false false false o.2.2.2.d o.2.2.1))] else .ret (qV 1 p) [(2, none), (0, some aZc), (1, some (qF o.1 o.2.1))]
noncomputable def qOu (N : Nat) (p : List SV) (a : Int) (z : Dz) (f : Nat → Bool) (v : List SV) (e : Int) : CTree :=
 bif dec ([(0, rZ z f)] = [(0, rZ (nZ z) (cnF f))] ∧ knC (dg p (w64 (a + 1)).toNat) = false ∧ 0 ≤ dg p a.toNat ∧ dg p a.toNat ≤ 255) then
  bif andI .u8 (dg p a.toNat) 128 == 0 then qFlt2 p 17 a else qNx N p e z f (qKu p)
 else .fail
theorem q_u (N : Nat) (p : List SV) (a : Int) (pb cb mb : Bool) (d : Ds) (f : Nat → Bool) : qOnce N ou_s (qAr p a) (qH (rZ ⟨pb, cb, mb, d⟩ f)) = qRd p a (qOu N p a ⟨pb, cb, mb, d⟩ f) := by cases pb <;> cases cb <;> cases mb <;> kernel_rfl
end Go.Proofs.YtdgnhaacdpmclaaGreat
/- The reference reads attributes: the loop, known. -/
namespace Go.Proofs.YtdgnhaacdpmclaaGreat
open Go.Am
set_option maxRecDepth 100000
section
variable {p : List SV} {a : Nat} (hb : byl p) (hl : p.length ≤ 1000)
include hb hl
omit hb hl in
theorem qRd_end (h : ¬ a < p.length) (K : List SV → Int → CTree) : qRd p (a : Int) K = .ret (qV 2 p) [] := by
 unfold qRd; rw [decide_eq_false (by omega)]; rfl
theorem qX_ok {h : Nat} (hd : hdN p a = h) (hh : h = 3 ∨ h = 4) (ho : okN p a p.length) (K : List SV → Int → CTree) : qX p (a : Int) (h : Int) K = K (vl p (vS p a) (vE p a)) (vE p a : Int) := by
 obtain ⟨o1, o2⟩ := ho
 rw [hd] at o1 o2
 obtain ⟨t1, t2⟩ := tkN_rng hb.ok (a + 2) (h - 2)
 have hln : lnN p a = (tkN p (a + 2) (h - 2)).toNat := by unfold lnN; rw [hd]
 have w1 : w64 ((a : Int) + (h : Int)) = ((a + h : Nat) : Int) := by rw [show w64 ((a : Int) + h) = (a : Int) + h from w64_id (by omega) (by omega)]; omega
 have w2 : w64 ((a : Int) + 2) = ((a + 2 : Nat) : Int) := by rw [show w64 ((a : Int) + 2) = (a : Int) + 2 from w64_id (by omega) (by omega)]; omega
 have w3' : w64 ((a : Int) + 1) = ((a + 1 : Nat) : Int) := by rw [show w64 ((a : Int) + 1) = (a : Int) + 1 from w64_id (by omega) (by omega)]; omega
 have w4 : w64 ((h : Int) - 2) = ((h - 2 : Nat) : Int) := by rw [show w64 ((h : Int) - 2) = (h : Int) - 2 from w64_id (by omega) (by omega)]; omega
 have hE : qEd p (a : Int) (h : Int) = ((vE p a : Nat) : Int) := by
  unfold qEd vE
  rw [w1, w2, w4, hd]
  simp only [show (((a + 2 : Nat) : Int)).toNat = a + 2 from rfl, show (((h - 2 : Nat) : Int)).toNat = h - 2 from rfl]
  have t3 : tkN p (a + 2) (h - 2) = (lnN p a : Nat) := by omega
  rw [t3, show w64 ((lnN p a : Nat) : Int) = ((lnN p a : Nat) : Int) from w64_id (by omega) (by omega), show w64 (((a + h : Nat) : Int) + ((lnN p a : Nat) : Int)) = ((a + h : Nat) : Int) + ((lnN p a : Nat) : Int) from w64_id (by omega) (by omega)]
  omega
 have hV : qVl p (a : Int) (h : Int) = vl p (vS p a) (vE p a) := by
  unfold qVl vl sl
  rw [hE, w1]
  unfold vS vE
  rw [hd]
  simp only [show ∀ x : Nat, ((x : Nat) : Int).toNat = x from fun _ => rfl]
 have hvE : vE p a = a + h + lnN p a := by unfold vE; rw [hd]
 have hy : (((h - 2 : Nat) : Int) = 1 ∨ ((h - 2 : Nat) : Int) = 2 ∨ ((h - 2 : Nat) : Int) = 3 ∨ ((h - 2 : Nat) : Int) = 4) := by omega
 unfold qX ytC
 rw [hE, hV, w1, w2, w3', w4, decide_eq_false (by omega), cond_false, dec_iff.2 ⟨hb, by omega, by omega, by omega, hy⟩, cond_true, decide_eq_false (by omega), cond_false, cond_true,
  show inB (a : Int) p.length = true by unfold inB; simp; omega, cond_true, show inB ((a + 1 : Nat) : Int) p.length = true by unfold inB; simp; omega, cond_true, decide_eq_true (by omega), decide_eq_true (by omega), decide_eq_true (by omega)]
 rfl
theorem qX_cut {h : Nat} (hd : hdN p a = h) (hh : h = 3 ∨ h = 4) (hlt : a < p.length) (ho : ¬ okN p a p.length) (K : List SV → Int → CTree) : qX p (a : Int) (h : Int) K = qFlt p 4 a := by
 obtain ⟨t1, t2⟩ := tkN_rng hb.ok (a + 2) (h - 2)
 have t4 : (256 : Int) ^ (h - 2) ≤ 65536 := by rcases hh with rfl | rfl <;> decide
 have hln : lnN p a = (tkN p (a + 2) (h - 2)).toNat := by unfold lnN; rw [hd]
 have w1 : w64 ((a : Int) + (h : Int)) = ((a + h : Nat) : Int) := by rw [show w64 ((a : Int) + h) = (a : Int) + h from w64_id (by omega) (by omega)]; omega
 have w2 : w64 ((a : Int) + 2) = ((a + 2 : Nat) : Int) := by rw [show w64 ((a : Int) + 2) = (a : Int) + 2 from w64_id (by omega) (by omega)]; omega
 have w4 : w64 ((h : Int) - 2) = ((h - 2 : Nat) : Int) := by rw [show w64 ((h : Int) - 2) = (h : Int) - 2 from w64_id (by omega) (by omega)]; omega
 unfold qX
 by_cases h1 : a + h ≤ p.length
 · have hE : qEd p (a : Int) (h : Int) = ((a + h + lnN p a : Nat) : Int) := by
     unfold qEd
     rw [w1, w2, w4]
     simp only [show (((a + 2 : Nat) : Int)).toNat = a + 2 from rfl, show (((h - 2 : Nat) : Int)).toNat = h - 2 from rfl]
     have t3 : tkN p (a + 2) (h - 2) = (lnN p a : Nat) := by omega
     rw [t3, show w64 ((lnN p a : Nat) : Int) = ((lnN p a : Nat) : Int) from w64_id (by omega) (by omega), show w64 (((a + h : Nat) : Int) + ((lnN p a : Nat) : Int)) = ((a + h : Nat) : Int) + ((lnN p a : Nat) : Int) from w64_id (by omega) (by omega)]
     omega
   have hgt : ¬ a + h + lnN p a ≤ p.length := fun hx => ho ⟨by rw [hd]; exact h1, by rw [hd]; exact hx⟩
   have hy : (((h - 2 : Nat) : Int) = 1 ∨ ((h - 2 : Nat) : Int) = 2 ∨ ((h - 2 : Nat) : Int) = 3 ∨ ((h - 2 : Nat) : Int) = 4) := by omega
   unfold ytC
   rw [hE, w1, w2, w4, decide_eq_false (by omega), cond_false, dec_iff.2 ⟨hb, by omega, by omega, by omega, hy⟩, cond_true, decide_eq_true (by omega)]
   rfl
 · rw [w1, decide_eq_true (by omega)]; rfl
theorem qRd_ok (hlt : a < p.length) (ho : okN p a p.length) (K : List SV → Int → CTree) : qRd p (a : Int) K = K (vl p (vS p a) (vE p a)) (vE p a : Int) := by
 unfold qRd
 rw [decide_eq_true (by omega), cond_true, show inB (a : Int) p.length = true by unfold inB; simp; omega, cond_true, show ((a : Int)).toNat = a from rfl]
 by_cases hf : andI .u8 (dg p a) 16 ≠ 0
 · rw [show (andI .u8 (dg p a) 16 != 0) = true by simpa using hf, cond_true]
   exact qX_ok (h := 4) hb hl (if_pos hf) (.inr rfl) ho K
 · rw [show (andI .u8 (dg p a) 16 != 0) = false by simpa using hf, cond_false]
   exact qX_ok (h := 3) hb hl (if_neg hf) (.inl rfl) ho K
theorem qRd_cut (hlt : a < p.length) (ho : ¬ okN p a p.length) (K : List SV → Int → CTree) : qRd p (a : Int) K = qFlt p 4 a := by
 unfold qRd
 rw [decide_eq_true (by omega), cond_true, show inB (a : Int) p.length = true by unfold inB; simp; omega, cond_true, show ((a : Int)).toNat = a from rfl]
 by_cases hf : andI .u8 (dg p a) 16 ≠ 0
 · rw [show (andI .u8 (dg p a) 16 != 0) = true by simpa using hf, cond_true]
   exact qX_cut (h := 4) hb hl (if_pos hf) (.inr rfl) hlt ho K
 · rw [show (andI .u8 (dg p a) 16 != 0) = false by simpa using hf, cond_false]
   exact qX_cut (h := 3) hb hl (if_neg hf) (.inl rfl) hlt ho K
end
theorem attL_any {σ : Type} {lk : σ → Int → Bool} {st : σ → Int → σ} {es : List SV} {n a : Nat} {s : σ} {z : Dz} (h : a < n) (x y : Int) : attL lk st es n a x s z = attL lk st es n a y s z := by
 conv => lhs; rw [attL, if_pos h]
 conv => rhs; rw [attL, if_pos h]
theorem qEnd_any {p : List SV} {n a : Nat} {f : Nat → Bool} {z : Dz} (x y : Int) : crun (qEnd p (attM p n a x f z)) = crun (qEnd p (attM p n a y f z)) := by
 by_cases h : a < n
 · unfold attM; rw [attL_any h x y]
 · unfold attM; rw [attL_end h, attL_end h]
   unfold qEnd
   rw [crun_ite, crun_ite]; rfl
end Go.Proofs.YtdgnhaacdpmclaaGreat
