/- The reference reads attributes: the loop is valid. -/
import Derived.Test.YtdgnhaacdpmclaaGreatPart11
import Derived.Test.YtdgnhaacdpmclaaGreatMachine4
namespace Go.Proofs.YtdgnhaacdpmclaaGreat
open Go.Am
set_option maxRecDepth 100000
theorem stF_cn {f : Nat → Bool} {g : Int} (hg : knC g = true) (hf : cnF f = f) : cnF (stF f g) = stF f g := by
 refine cnF_id (fun i hi => ?_)
 unfold stF
 have h1 : Nat.beq i g.toNat = false := by
  refine nb_f ?_
  rcases knC_of hg with rfl | rfl | rfl | rfl | rfl | rfl | rfl | rfl | rfl | rfl
  all_goals (intro e; omega)
 rw [h1, cond_false]
 have := congrFun hf i
 rw [← this]
 unfold cnF mtF
 rw [List.getD_eq_getElem?_getD, List.getElem?_eq_none (by rw [mtL_len]; omega)]; rfl
theorem oInv_next {z : Dz} {f : Nat → Bool} {g : Int} (v : List SV) (hg : knC g = true) (h : oInv z f) : oInv (gC g v z) (stF f g) := by
 obtain ⟨h1, h2, h3, h4⟩ := h
 have hs : ∀ k : Nat, stF f g k = bif Nat.beq k g.toNat then true else f k := fun _ => rfl
 refine ⟨gC_nz hg v h1, fun hh => ?_, fun hh => ?_, fun hh => ?_⟩
 · by_cases hk : g = 2
   · subst hk; cases hh
   · have e1 : (g == 2) = false := by simpa using hk
     have e2 : Nat.beq 2 g.toNat = false := nb_f (by omega)
     rw [hs, e2] at hh
     simp only [gC, e1, cond_false]; exact h2 hh
 · by_cases hk : g = 10
   · subst hk; cases hh
   · have e1 : (g == 10) = false := by simpa using hk
     have e2 : Nat.beq 10 g.toNat = false := nb_f (by omega)
     rw [hs, e2] at hh
     simp only [gC, e1, cond_false]; exact h3 hh
 · by_cases hk : g = 16
   · subst hk; cases hh
   · have e1 : (g == 16) = false := by simpa using hk
     have e2 : Nat.beq 16 g.toNat = false := nb_f (by omega)
     rw [hs, e2] at hh
     simp only [gC, e1, cond_false]; exact h4 hh
theorem p3a {h : HpF} {a b c : Option Chunk} : ∀ x, updF [(1, a), (0, b), (2, c)] h x = updF [(0, b), (1, a), (2, c)] h x := by
 intro x
 simp only [updF]
 by_cases h2 : x = 2
 · simp only [h2, if_true]
 · by_cases h1 : x = 1
   · subst h1; rfl
   · simp only [h2, h1, if_false]
theorem p3b {h : HpF} {a b c : Option Chunk} : ∀ x, updF [(1, a), (0, b), (2, c)] h x = updF [(2, c), (0, b), (1, a)] h x := by
 intro x
 simp only [updF]
 by_cases h2 : x = 2
 · subst h2; rfl
 · by_cases h1 : x = 1
   · subst h1; rfl
   · simp only [h2, h1, if_false]
theorem told_cut {H : HpL} {p : List SV} {e a : Int} : ToldL Tryz.prog H (qV 1 p) [(1, some (qF e a)), (0, some aZc)] (qV 1 p) [(1, some (qF e a)), (0, some aZc), (2, none)] := by
 refine ⟨1, _, _, rfl, rfl, .rfl', fun x c' hx => ⟨c', ?_, .rfl'⟩⟩
 simp only [updF] at hx ⊢
 by_cases h2 : x = 2
 · rw [if_pos h2] at hx; cases hx
 · rw [if_neg h2] at hx; exact hx
section
variable {N a : Nat} {p : List SV} {pb cb mb : Bool} {d : Ds} {f : Nat → Bool} {v' : SV} {ups' : List (Nat × Option Chunk)}
variable (hm : qInv p (a : Int) ⟨pb, cb, mb, d⟩ f) (hN : p.length - a < N + 1) (h : crun (qEnd p (attM p p.length a 0 f ⟨pb, cb, mb, d⟩)) = some (v', ups'))
theorem qbad {er at' : Int} {s : Nat → Bool} {z : Dz} (he : (er == 0) = false) (h : crun (qEnd p (er, at', s, z)) = some (v', ups')) : v' = qV 1 p ∧ ups' = [(1, some (qF er at')), (0, some aZc), (2, none)] := by
 unfold qEnd at h
 rw [crun_ite] at h
 simp only [he, cond_false] at h
 cases h; exact ⟨rfl, rfl⟩
theorem qK_goes {o : Int × Int × (Nat → Bool) × Dz} {H : HpL} (h : crun (qEnd p o) = some (v', ups')) : Goes H (qK p o) v' ups' := by
 refine .inl ?_
 unfold qEnd at h
 rw [crun_ite] at h
 unfold qK
 cases ho : o.1 == 0 with
 | true => rw [ho] at h; cases h; exact ⟨_, rfl, fun _ => rfl⟩
 | false => rw [ho] at h; cases h; exact ⟨_, rfl, p3a⟩
theorem qKu_goes {o : Int × Int × (Nat → Bool) × Dz} {H : HpL} (h : crun (qEnd p o) = some (v', ups')) : Goes H (qKu p o) v' ups' := by
 refine .inl ?_
 unfold qEnd at h
 rw [crun_ite] at h
 unfold qKu
 cases ho : o.1 == 0 with
 | true => rw [ho] at h; cases h; exact ⟨_, rfl, fun _ => rfl⟩
 | false => rw [ho] at h; cases h; exact ⟨_, rfl, p3b⟩
theorem qNx_ok {b : Nat} {z : Dz} {K : Int × Int × (Nat → Bool) × Dz → CTree} (hN : p.length - b < N) (hm : qInv p (b : Int) z f) : qNx N p (b : Int) z f K = K (attM p p.length b 0 f z) := by
 have h1 := hm.1.1
 have h2 := hm.2.1
 unfold qNx
 rw [h1, h2, show Nat.blt (p.length - ((b : Int)).toNat) N = true by rw [Nat.blt_eq]; exact hN, dec_iff.2 ⟨rfl, hm⟩]; rfl
include hm hN h
theorem qgoes_u (hlt : a < p.length) (hx : ¬ okN p a p.length ∨ knC (cdOf p a) = false) : Goes (qH (rZ ⟨pb, cb, mb, d⟩ f)) (qOnce N ou_s (qAr p a) (qH (rZ ⟨pb, cb, mb, d⟩ f))) v' ups' := by
 obtain ⟨h1, h2, h3, h4, h5, h6⟩ := hm
 have hrd := q_u N p a pb cb mb d f
 by_cases ho : okN p a p.length
 · have hk : knC (cdOf p a) = false := by rcases hx with hx | hx; exact absurd ho hx; exact hx
   rw [qRd_ok h3 h4 hlt ho] at hrd
   have hE : vE p a ≤ p.length := ho.2
   have hE3 : a + 3 ≤ vE p a := by have := hdN_ge (es := p) (a := a); unfold vE; omega
   have w1 : w64 ((a : Int) + 1) = ((a + 1 : Nat) : Int) := by rw [show w64 ((a : Int) + 1) = (a : Int) + 1 from w64_id (by omega) (by omega)]; omega
   obtain ⟨b0, b1⟩ := h3.ok a
   unfold qOu at hrd
   rw [w1] at hrd
   rw [dec_iff.2 ⟨by show _ = [(0, rZ (nZ ⟨pb, cb, mb, d⟩) (cnF f))]; rw [h1.1, h2], hk, b0, b1⟩, cond_true] at hrd
   rw [hrd]
   clear hrd
   rw [show ((a : Int)).toNat = a from rfl]
   cases hf : andI .u8 (dg p a) 128 == 0 with
   | true =>
    rw [attM, attL_u17 hlt ho hk hf] at h
    obtain ⟨rfl, rfl⟩ := qbad (by decide) h
    exact .inl ⟨_, rfl, fun _ => rfl⟩
   | false =>
    rw [attM, attL_unk hlt ho hk hf] at h
    rw [cond_false, qNx_ok (by omega) ⟨h1, h2, h3, h4, by omega, by omega⟩]
    exact qKu_goes (by rw [qEnd_any 0 (a : Int)]; exact h)
 · rw [qRd_cut h3 h4 hlt ho] at hrd
   rw [attM, attL_cut hlt ho] at h
   obtain ⟨rfl, rfl⟩ := qbad (by decide) h
   rw [hrd]
   exact .inr (.inr ⟨_, _, rfl, told_cut⟩)
theorem qgoes_k {g : Int} (hlt : a < p.length) (ho : okN p a p.length) (hg : cdOf p a = g) (hk : knC g = true) (hrd : qOnce N (on_s g) (qAr p a) (qH (rZ ⟨pb, cb, mb, d⟩ f)) = qRd p a (qOn N g p a ⟨pb, cb, mb, d⟩ f)) :
  Goes (qH (rZ ⟨pb, cb, mb, d⟩ f)) (qOnce N (on_s g) (qAr p a) (qH (rZ ⟨pb, cb, mb, d⟩ f))) v' ups' := by
 obtain ⟨h1, h2, h3, h4, h5, h6⟩ := hm
 rw [qRd_ok h3 h4 hlt ho] at hrd
 have hE : vE p a ≤ p.length := ho.2
 have hE3 : a + 3 ≤ vE p a := by have := hdN_ge (es := p) (a := a); unfold vE; omega
 have w1 : w64 ((a : Int) + 1) = ((a + 1 : Nat) : Int) := by rw [show w64 ((a : Int) + 1) = (a : Int) + 1 from w64_id (by omega) (by omega)]; omega
 obtain ⟨b0, b1⟩ := h3.ok a
 have hv : byl (vl p (vS p a) (vE p a)) := h3.sl _ _
 have hvl : (vl p (vS p a) (vE p a)).length ≤ 1000 := by unfold vl sl; rw [List.length_take]; omega
 unfold qOn at hrd
 have hz : nZ ⟨pb, cb, mb, d⟩ = ⟨pb, cb, mb, d⟩ := h1.1
 rw [w1, hz, h2] at hrd
 rw [dec_iff.2 ⟨rfl, hg, hk, h1, hv, hvl, b0, b1⟩, cond_true] at hrd
 rw [hrd]
 clear hrd
 subst hg
 rw [show ((a : Int)).toNat = a from rfl]
 unfold oneE
 cases hf : fitC (cdOf p a) (dg p a) with
 | false =>
  rw [attM, attL_fit hlt ho hk hf] at h
  obtain ⟨rfl, rfl⟩ := qbad (by decide) h
  exact .inl ⟨_, rfl, fun _ => rfl⟩
 | true =>
  rw [cond_true]
  cases hlk : f (cdOf p a).toNat with
  | true =>
   rw [attM, attL_dbl hlt ho hk hf hlk] at h
   obtain ⟨rfl, rfl⟩ := qbad (by decide) h
   exact .inl ⟨_, rfl, fun _ => rfl⟩
  | false =>
   rw [cond_false]
   cases hokc : okC (cdOf p a) (vl p (vS p a) (vE p a)) with
   | false =>
    rw [attM, attL_bad hlt ho hk hf hlk hokc] at h
    obtain ⟨rfl, rfl⟩ := qbad (by decide) h
    exact .inl ⟨_, rfl, fun _ => rfl⟩
   | true =>
    rw [attM, attL_go hlt ho hk hf hlk hokc] at h
    rw [cond_true, show ((0 : Int) == 0) = true from rfl, cond_true, qNx_ok (by omega) ⟨oInv_next _ hk h1, stF_cn hk h2, h3, h4, by omega, by omega⟩]
    exact qK_goes (by rw [qEnd_any 0 (a : Int)]; exact h)
end
theorem q_valid : ValidL Tryz.prog e10 := loop_valid3 (T := ltab []) (sp := true) (fuel := 300) (c := c10) (μ := qM) mixTry ltab_nil (show fillC (ltab []) c10 = c10 by kernel_rfl) (by
 intro N args H v' ups' hbt h
 unfold e10 q_s at h
 simp only [] at h
 split at h
 · rename_i p a y0 y1 cs
   split at h
   · rename_i pb cb mb d f hd
     rw [crun_ite] at h
     cases hc : dec _ with
     | false => rw [hc] at h; cases h
     | true =>
      rw [hc, cond_true] at h
      obtain ⟨hH, hm⟩ := dec_iff.1 hc
      rw [hH] at hbt ⊢
      obtain ⟨b, rfl⟩ := Int.eq_ofNat_of_zero_le hm.2.2.2.2.1
      have hN : p.length - b < N + 1 := by
       have : Nat.blt (p.length - b) (N + 1) = true := hbt
       rwa [Nat.blt_eq] at this
      rw [show ((b : Int)).toNat = b from rfl] at h
      by_cases hlt : b < p.length
      · by_cases ho : okN p b p.length
        · cases hk : knC (cdOf p b) with
          | false => exact ⟨κq1 ou_s, ιq1, q1Ok ou_k, qgoes_u hm hN h hlt (.inr hk)⟩
          | true =>
           refine ⟨κq1 (on_s (cdOf p b)), ιq1, q1Ok (on_k _), ?_⟩
           rcases knC_of hk with hg | hg | hg | hg | hg | hg | hg | hg | hg | hg
           · rw [hg]; exact qgoes_k hm hN h hlt ho hg rfl (q_1 ..)
           · rw [hg]; exact qgoes_k hm hN h hlt ho hg rfl (q_2 ..)
           · rw [hg]; exact qgoes_k hm hN h hlt ho hg rfl (q_4 ..)
           · rw [hg]; exact qgoes_k hm hN h hlt ho hg rfl (q_5 ..)
           · rw [hg]; exact qgoes_k hm hN h hlt ho hg rfl (q_9 ..)
           · rw [hg]; exact qgoes_k hm hN h hlt ho hg rfl (q_10 ..)
           · rw [hg]; exact qgoes_k hm hN h hlt ho hg rfl (q_14 ..)
           · rw [hg]; exact qgoes_k hm hN h hlt ho hg rfl (q_15 ..)
           · rw [hg]; exact qgoes_k hm hN h hlt ho hg rfl (q_16 ..)
           · rw [hg]; exact qgoes_k hm hN h hlt ho hg rfl (q_22 ..)
        · exact ⟨κq1 ou_s, ιq1, q1Ok ou_k, qgoes_u hm hN h hlt (.inl ho)⟩
      · obtain ⟨h1, h2, h3, h4, h5, h6⟩ := hm
        have hx := q_u N p b pb cb mb d f
        rw [qRd_end hlt] at hx
        rw [attM, attL_end hlt] at h
        unfold qEnd at h
        rw [crun_ite] at h
        cases h
        refine ⟨κq1 ou_s, ιq1, q1Ok ou_k, .inr (.inr ⟨_, _, congrArg crun hx, 2, _, _, rfl, rfl, .rfl', fun x c' hx => ?_⟩)⟩
        simp only [updF] at hx
        by_cases x2 : x = 2
        · subst x2; rw [if_pos rfl] at hx; cases hx
          obtain ⟨g1, g2, g3⟩ := nZ_iff.1 h1.1
          exact ⟨_, rfl, .cells (co_app (.cons .rfl' (.cons (co_nz g1) (.cons .rfl' (.cons .rfl' (.cons .rfl' (.cons .rfl' (.cons .rfl' (.cons .rfl' (.cons .rfl' (.cons (co_nz g2) (.cons (co_nz g3) .rfl'))))))))))))⟩
        · rw [if_neg x2] at hx; exact ⟨c', hx, .rfl'⟩
   · cases h
 · cases h)
end Go.Proofs.YtdgnhaacdpmclaaGreat
/- The reference reads attributes: Read. -/
namespace Go.Proofs.YtdgnhaacdpmclaaGreat
open Go.Am
set_option maxRecDepth 100000
def f0 : Nat → Bool := fun _ => false
def rI : Chunk := .cells 83 ([.int .i64 0, .nils, .int .u32 0, .bool false, .int .u32 0, .bool false, .int .u32 0, .bool false, .int .u32 0, .nils, .nils, .int .i64 0, .int .u32 0, .int .u32 0, .int .u32 0, .nils, .nils] ++ mtL f0 256 0)
noncomputable def qi_s : CSumm := fun args H => match args with
 | [.psl 5 p, .ptr 0 0, .nils, .nils, .ptr 1 0, .ptr 2 0, .int .i64 0] => .ite (dec (H = qH rI ∧ byl p ∧ p.length ≤ 1000)) (qEnd p (attM p p.length 0 0 f0 zI)) .fail
 | _ => .fail
theorem qInv0 {p : List SV} (h1 : byl p) (h2 : p.length ≤ 1000) : qInv p 0 zI f0 := ⟨⟨rfl, fun _ => rfl, fun _ => rfl, fun _ => rfl⟩, cnF_id (fun _ _ => rfl), h1, h2, by omega, by omega⟩
theorem q_start {p : List SV} (h1 : byl p) (h2 : p.length ≤ 1000) : crun (q_s (qAr p 0) (qH (rZ zI f0))) = crun (qEnd p (attM p p.length 0 0 f0 zI)) := by
 have hcn : mtF (mtL f0 256 0) = f0 := cnF_id (fun _ _ => rfl)
 show crun (.ite (dec (qH (rZ zI f0) = qH (rZ ⟨true, true, true, dI0⟩ (mtF (mtL f0 256 0))) ∧ qInv p 0 ⟨true, true, true, dI0⟩ (mtF (mtL f0 256 0)))) (qEnd p (attM p p.length 0 0 (mtF (mtL f0 256 0)) ⟨true, true, true, dI0⟩)) .fail) = _
 rw [hcn, crun_ite, dec_iff.2 ⟨rfl, qInv0 h1 h2⟩]; rfl
theorem canon_qH {c : Chunk} : Canon (qH c) := fun i p h => by
 have := canonB_spec (qH c) 0 rfl i p h
 omega
theorem qH_get {c : Chunk} {x : Nat} (h : x ≠ 2) (c' : Chunk) : (qH c).get x = (qH c').get x := by
 simp only [qH, HpL.get]
 rw [show Nat.beq 2 x = false from nb_f (fun e => h e.symm)]
 rfl
theorem qi_valid : ValidL Tryz.prog { e10 with s := qi_s } := loop_from q_valid (by
 intro args H v ups h hcan
 unfold qi_s at h
 split at h
 · rename_i p
   rw [crun_ite] at h
   cases hc : dec _ with
   | false => rw [hc] at h; cases h
   | true =>
    rw [hc, cond_true] at h
    obtain ⟨hH, h1, h2⟩ := dec_iff.1 hc
    rw [hH] at hcan ⊢
    refine ⟨qAr p 0, qH (rZ zI f0), ups, (q_start h1 h2).trans h, ⟨.rfl', canon_qH, rfl, fun x c hx => ?_, fun x c2 hx => ?_⟩, fun x => ?_⟩
    · by_cases h7 : x = 2
      · subst h7; cases hx
        exact ⟨_, rfl, .cells (co_app (.cons .rfl' (.cons .rfl' (.cons .rfl' (.cons .rfl' (.cons .rfl' (.cons .rfl' (.cons .rfl' (.cons .rfl' (.cons .rfl' (.cons .rfl' (.cons .rfl' (.cons .rfl' (.cons .rfl' (.cons .rfl' (.cons .rfl' (.cons .nils (.cons .nils .rfl'))))))))))))))))))⟩
      · exact ⟨c, by rw [qH_get h7 rI]; exact hx, .rfl'⟩
    · by_cases h7 : x = 2
      · subst h7; exact ⟨_, rfl⟩
      · exact ⟨c2, by rw [qH_get h7 (rZ zI f0)]; exact hx⟩
    · have h7 : ∀ (f g : HpF), (∀ y, y ≠ 2 → f y = g y) → updF ups f x = updF ups g x := by
        intro f g hfg
        unfold qEnd at h
        rw [crun_ite] at h
        cases ho : (attM p p.length 0 0 f0 zI).1 == 0 with
        | true =>
         rw [ho] at h; cases h
         simp only [updF]
         by_cases x7 : x = 2
         · subst x7; rfl
         · rw [hfg x x7]
        | false =>
         rw [ho] at h; cases h
         simp only [updF]
         by_cases x7 : x = 2
         · subst x7; rfl
         · rw [hfg x x7]
      exact h7 _ _ (fun y hy => qH_get hy _)
 · cases h)
noncomputable abbrev T10 : LTab := ltab [("q", { e10 with s := qi_s })]
noncomputable abbrev m10 : Code := markC [(3, "q")] body10
noncomputable def rr_b : CSumm := bodyCL Tryz.prog (κq1 no_s) ιq1 T10 true 300 Tryz.f10 m10
theorem no28 : Known Tryz.prog 28 no_s := ou_k.weak (fun _ _ _ _ h => by cases h)
theorem rr_k0 : Known Tryz.prog 10 rr_b := ⟨⟨Tryz.f10, Tryz.func10, noNum_at noNumTry Tryz.func10, rfl⟩, bodyL_valid (q1Ok no28) mixTry (ltab_cons qi_valid ltab_nil) Tryz.func10 (show Tryz.f10.body = some (fillC T10 m10) by kernel_rfl)⟩
noncomputable def rrK (p : List SV) (o : Int × Int × (Nat → Bool) × Dz) : CTree :=
 bif o.1 == 0 then bif !(o.2.2.1 14) then .ret (.tup [aI, .nils, .psl 49 o.2.2.2.d.unr, .agg [.int .i64 0, .int .i64 0]]) [] else
  bif !(o.2.2.1 1) then fltR 17 p.length else bif !(o.2.2.1 2) then fltR 17 p.length else .ret (.tup [aD o.2.2.2.d, .psl 49 o.2.2.2.d.rch, .psl 49 o.2.2.2.d.unr, .agg [.int .i64 0, .int .i64 0]]) []
 else fltR o.1 o.2.1
theorem rr_t (p : List SV) : rr_b [.psl 5 p] [] =
 bif dec (qH rI = qH rI ∧ byl p ∧ p.length ≤ 1000) then rrK p (attM p p.length 0 0 f0 zI) else .fail := by kernel_rfl
noncomputable def aref_s : CSumm := fun args H => match args, H with
 | [.psl 5 p], [] => .ite (dec (byl p ∧ p.length ≤ 1000)) (.ret (rdV (rdO lkF (attM p p.length 0 0 f0 zI) p.length)) []) .fail
 | _, _ => .fail
theorem aref_k : Known Tryz.prog 10 aref_s := known_told rr_k0 (by
 intro args H v' ups' h
 unfold aref_s at h
 split at h
 · rename_i p
   rw [crun_ite] at h
   cases hc : dec (byl p ∧ p.length ≤ 1000) with
   | false => rw [hc] at h; cases h
   | true =>
    rw [hc, cond_true] at h
    obtain ⟨h1, h2⟩ := dec_iff.1 hc
    have ht := rr_t p
    rw [dec_iff.2 ⟨rfl, h1, h2⟩, cond_true] at ht
    generalize attM p p.length 0 0 f0 zI = o at *
    have same : ∀ {x : Nat} {c' : Chunk}, updF [] (HpL.get []) x = some c' → ∃ c, updF [] (HpL.get []) x = some c ∧ CoC Tryz.prog x c c' := fun hx => ⟨_, hx, .rfl'⟩
    unfold rrK at ht
    unfold rdO at h
    have e14 : lkF o.2.2.1 14 = o.2.2.1 14 := rfl
    have e1 : lkF o.2.2.1 1 = o.2.2.1 1 := rfl
    have e2 : lkF o.2.2.1 2 = o.2.2.1 2 := rfl
    rw [e14, e1, e2] at h
    cases h0 : o.1 == 0 with
    | true =>
     rw [h0, cond_true] at ht h
     cases h14 : o.2.2.1 14 with
     | true =>
      rw [h14, Bool.not_true, cond_false] at ht
      rw [h14, cond_true] at h
      cases h1' : o.2.2.1 1 with
      | true =>
       rw [h1'] at ht h
       cases h2' : o.2.2.1 2 with
       | true =>
        rw [h2'] at ht h; cases h
        exact ⟨_, _, congrArg crun ht, .inr ⟨.rfl', fun x c' hx => same hx⟩⟩
       | false =>
        rw [h2'] at ht h; cases h
        exact ⟨_, _, congrArg crun ht, .inr ⟨.tup (.cons co_aI (.cons .nils (.cons .nils .rfl'))), fun x c' hx => same hx⟩⟩
      | false =>
       rw [h1'] at ht h; cases h
       exact ⟨_, _, congrArg crun ht, .inr ⟨.tup (.cons co_aI (.cons .nils (.cons .nils .rfl'))), fun x c' hx => same hx⟩⟩
     | false =>
      rw [h14] at ht h
      cases h
      exact ⟨_, _, congrArg crun ht, .inr ⟨.tup (.cons co_aI (.cons .nils .rfl')), fun x c' hx => same hx⟩⟩
    | false =>
     rw [h0, cond_false] at ht
     rw [h0] at h
     cases h
     exact ⟨_, _, congrArg crun ht, .inr ⟨.tup (.cons co_aI (.cons .nils (.cons .nils .rfl'))), fun x c' hx => same hx⟩⟩
 · cases h)
theorem att_sim {es : List SV} {n : Nat} : ∀ (m a : Nat) (x : Int) (kvs : List (Int × Bool)) (f : Nat → Bool) (z : Dz), n - a ≤ m → (∀ g : Int, knC g = true → lookB kvs g = lkF f g) →
  (attK es n a x kvs z).1 = (attM es n a x f z).1 ∧ (attK es n a x kvs z).2.1 = (attM es n a x f z).2.1 ∧ (attK es n a x kvs z).2.2.2 = (attM es n a x f z).2.2.2 ∧ ∀ g : Int, knC g = true → lookB (attK es n a x kvs z).2.2.1 g = lkF (attM es n a x f z).2.2.1 g
 | m, a, x, kvs, f, z, hm, hs => by
  unfold attK attM
  by_cases hlt : a < n
  · by_cases ho : okN es a n
    · have hE3 : a + 3 ≤ vE es a := by have := hdN_ge (es := es) (a := a); unfold vE; omega
      obtain ⟨m', rfl⟩ : ∃ m', m = m' + 1 := ⟨m - 1, by omega⟩
      cases hk : knC (cdOf es a) with
      | false =>
       cases hf : andI .u8 (dg es a) 128 == 0 with
       | true => rw [attL_u17 hlt ho hk hf, attL_u17 hlt ho hk hf]; exact ⟨rfl, rfl, rfl, hs⟩
       | false => rw [attL_unk hlt ho hk hf, attL_unk hlt ho hk hf]; exact att_sim m' _ _ _ _ _ (by omega) hs
      | true =>
       have hl := hs _ hk
       cases hf : fitC (cdOf es a) (dg es a) with
       | false => rw [attL_fit hlt ho hk hf, attL_fit hlt ho hk hf]; exact ⟨rfl, rfl, rfl, hs⟩
       | true =>
        cases hlk : lookB kvs (cdOf es a) with
        | true => rw [attL_dbl hlt ho hk hf hlk, attL_dbl hlt ho hk hf (hl ▸ hlk)]; exact ⟨rfl, rfl, rfl, hs⟩
        | false =>
         cases hv : okC (cdOf es a) (vl es (vS es a) (vE es a)) with
         | false => rw [attL_bad hlt ho hk hf hlk hv, attL_bad hlt ho hk hf (hl ▸ hlk) hv]; exact ⟨rfl, rfl, rfl, hs⟩
         | true =>
          rw [attL_go hlt ho hk hf hlk hv, attL_go hlt ho hk hf (hl ▸ hlk) hv]
          refine att_sim m' _ _ _ _ _ (by omega) (fun g hg => ?_)
          have e1 : lookB (stK kvs (cdOf es a)) g = bif g == cdOf es a then true else lookB kvs g := lookB_set _ true kvs g
          have e2 : lkF (stF f (cdOf es a)) g = bif Nat.beq g.toNat (cdOf es a).toNat then true else lkF f g := rfl
          rw [e1, e2, hs g hg]
          have pos : ∀ k : Int, knC k = true → 0 < k := by
           intro k hk
           rcases knC_of hk with rfl | rfl | rfl | rfl | rfl | rfl | rfl | rfl | rfl | rfl <;> omega
          have p1 := pos g hg
          have p2 := pos _ hk
          by_cases he : g = cdOf es a
          · rw [← he, show (g == g) = true by simp, show Nat.beq g.toNat g.toNat = true from nb_t rfl]
          · rw [show (g == cdOf es a) = false by simpa using he, show Nat.beq g.toNat (cdOf es a).toNat = false from nb_f (by omega)]
    · rw [attL_cut hlt ho, attL_cut hlt ho]; exact ⟨rfl, rfl, rfl, hs⟩
  · rw [attL_end hlt, attL_end hlt]; exact ⟨rfl, rfl, rfl, hs⟩
termination_by m => m
theorem same_read (es : List SV) : rdQ es es.length = rdO lkF (attM es es.length 0 0 f0 zI) es.length := by
 obtain ⟨h1, h2, h3, h4⟩ := att_sim (es := es) (n := es.length) es.length 0 0 [] f0 zI (by omega) (fun _ _ => rfl)
 unfold rdQ rdO
 rw [h1, h2, h3, h4 14 rfl, h4 1 rfl, h4 2 rfl]
end Go.Proofs.YtdgnhaacdpmclaaGreat
/- Lists are the same. -/
namespace Go.Proofs.YtdgnhaacdpmclaaGreat
open Go.Am
set_option maxRecDepth 100000
noncomputable def body29 : Code := Tryz.f29.body.getD .skip
noncomputable def c29 : Code := (loopAt 4 body29).getD .skip
noncomputable def sm29_s : CSumm := fun args H => match args, H with
 | [.psl 26 a, .psl 26 b, .int .i64 i], [] => .ite (dec (a = b ∧ a.length ≤ 100000 ∧ 0 ≤ i)) (.ret (.tup [.int .i64 2]) []) .fail
 | _, _ => .fail
def smM29 : List SV → HpL → Nat
 | [.psl _ a, _, .int _ i], _ => a.length - i.toNat
 | _, _ => 0
noncomputable def e29 : LEnt := { ins := [0, 1, 5], outs := [], keep := [], size := 26, code := c29, s := sm29_s }
theorem sm29_t (N : Nat) (a : List SV) (i : Int) : loopOnce Tryz.prog (openT Tryz.prog (tbl []) 300 5) (fun _ => false) (ltab []) true 300 e29 { e29 with s := boundT smM29 sm29_s N } c29 [.psl 26 a, .psl 26 a, .int .i64 i] [] =
 bif decide (i < a.length) then bif inB i a.length then bif inB i a.length then bif (asI (a.getD i.toNat .junk) != asI (a.getD i.toNat .junk)) then .ret (.tup [.int .i64 1]) [] else
  (bif Nat.blt (a.length - (w64 (i + 1)).toNat) N then bif dec (a = a ∧ a.length ≤ 100000 ∧ 0 ≤ w64 (i + 1)) then .ret (.tup [.int .i64 2]) [] else .fail else .fail) else .fail else .fail
 else .ret (.tup [.int .i64 2]) [] := by kernel_rfl
theorem sm29_v : ValidL Tryz.prog e29 := loop_valid (κ := openT Tryz.prog (tbl []) 300 5) (ι := fun _ => false) (T := ltab []) (sp := true) (fuel := 300) (c := c29) (μ := smM29) (openT_ok noNumTry mixTry ok0 300 5) mixTry ltab_nil (show fillC (ltab []) c29 = c29 by kernel_rfl) (by
 intro N args H r hb h
 unfold e29 sm29_s at h
 simp only [] at h
 split at h
 · rename_i a b i
   rw [crun_ite] at h
   cases hc : dec _ with
   | false => rw [hc] at h; cases h
   | true =>
    rw [hc, cond_true] at h
    obtain ⟨rfl, h1, h2⟩ := dec_iff.1 hc
    refine (congrArg crun (sm29_t N a i)).trans ?_
    by_cases hi : i < a.length
    · have hN : Nat.blt (a.length - i.toNat) (N + 1) = true := hb
      rw [Nat.blt_eq] at hN
      rw [decide_eq_true hi, show inB i a.length = true by unfold inB; simp; omega, show w64 (i + 1) = i + 1 from w64_id (by omega) (by omega), show Nat.blt (a.length - (i + 1).toNat) N = true by rw [Nat.blt_eq]; omega, dec_iff.2 ⟨rfl, h1, by omega⟩]
      simp only [bne_self_eq_false, cond_false, cond_true]
      exact h
    · rw [decide_eq_false hi]; exact h
 · cases h)
noncomputable def same29_s : CSumm := fun args H => match args, H with
 | [.psl 26 a, .psl 26 b], [] => .ite (dec (a = b ∧ a.length ≤ 100000)) (.ret (.bool true) []) .fail
 | _, _ => .fail
theorem same29_t (a : List SV) : bodyCL Tryz.prog (openT Tryz.prog (tbl []) 300 5) (fun _ => false) (ltab [("s", e29)]) true 300 Tryz.f29 (markC [(4, "s")] body29) [.psl 26 a, .psl 26 a] [] =
 bif (a.length : Int) != (a.length : Int) then .ret (.bool false) [] else bif dec (a = a ∧ a.length ≤ 100000 ∧ (0 : Int) ≤ 0) then .ret (.bool true) [] else .fail := by kernel_rfl
theorem same29_k : Known Tryz.prog 29 same29_s := by
 have h0 : Known Tryz.prog 29 (bodyCL Tryz.prog (openT Tryz.prog (tbl []) 300 5) (fun _ => false) (ltab [("s", e29)]) true 300 Tryz.f29 (markC [(4, "s")] body29)) := ⟨⟨Tryz.f29, Tryz.func29, noNum_at noNumTry Tryz.func29, rfl⟩, bodyL_valid (openT_ok noNumTry mixTry ok0 300 5) mixTry (ltab_cons sm29_v ltab_nil) Tryz.func29 (show Tryz.f29.body = some (fillC (ltab [("s", e29)]) (markC [(4, "s")] body29)) by kernel_rfl)⟩
 refine h0.weak (fun args H v ups h => ?_)
 unfold same29_s at h
 split at h
 · rename_i a b
   rw [crun_ite] at h
   cases hc : dec _ with
   | false => rw [hc] at h; cases h
   | true =>
    rw [hc, cond_true] at h
    obtain ⟨rfl, h1⟩ := dec_iff.1 hc
    refine (congrArg crun (same29_t a)).trans ?_
    rw [dec_iff.2 ⟨rfl, h1, by omega⟩, show ((a.length : Int) != (a.length : Int)) = false by simp]
    exact h
 · cases h
noncomputable def body30 : Code := Tryz.f30.body.getD .skip
noncomputable def c30 : Code := (loopAt 4 body30).getD .skip
noncomputable def sm30_s : CSumm := fun args H => match args, H with
 | [.psl 27 a, .psl 27 b, .int .i64 i], [] => .ite (dec (a = b ∧ a.length ≤ 100000 ∧ 0 ≤ i)) (.ret (.tup [.int .i64 2]) []) .fail
 | _, _ => .fail
def smM30 : List SV → HpL → Nat
 | [.psl _ a, _, .int _ i], _ => a.length - i.toNat
 | _, _ => 0
noncomputable def e30 : LEnt := { ins := [0, 1, 5], outs := [], keep := [], size := 26, code := c30, s := sm30_s }
theorem sm30_t (N : Nat) (a : List SV) (i : Int) : loopOnce Tryz.prog (openT Tryz.prog (tbl []) 300 5) (fun _ => false) (ltab []) true 300 e30 { e30 with s := boundT smM30 sm30_s N } c30 [.psl 27 a, .psl 27 a, .int .i64 i] [] =
 bif decide (i < a.length) then bif inB i a.length then bif inB i a.length then bif (asI (a.getD i.toNat .junk) != asI (a.getD i.toNat .junk)) then .ret (.tup [.int .i64 1]) [] else
  (bif Nat.blt (a.length - (w64 (i + 1)).toNat) N then bif dec (a = a ∧ a.length ≤ 100000 ∧ 0 ≤ w64 (i + 1)) then .ret (.tup [.int .i64 2]) [] else .fail else .fail) else .fail else .fail
 else .ret (.tup [.int .i64 2]) [] := by kernel_rfl
theorem sm30_v : ValidL Tryz.prog e30 := loop_valid (κ := openT Tryz.prog (tbl []) 300 5) (ι := fun _ => false) (T := ltab []) (sp := true) (fuel := 300) (c := c30) (μ := smM30) (openT_ok noNumTry mixTry ok0 300 5) mixTry ltab_nil (show fillC (ltab []) c30 = c30 by kernel_rfl) (by
 intro N args H r hb h
 unfold e30 sm30_s at h
 simp only [] at h
 split at h
 · rename_i a b i
   rw [crun_ite] at h
   cases hc : dec _ with
   | false => rw [hc] at h; cases h
   | true =>
    rw [hc, cond_true] at h
    obtain ⟨rfl, h1, h2⟩ := dec_iff.1 hc
    refine (congrArg crun (sm30_t N a i)).trans ?_
    by_cases hi : i < a.length
    · have hN : Nat.blt (a.length - i.toNat) (N + 1) = true := hb
      rw [Nat.blt_eq] at hN
      rw [decide_eq_true hi, show inB i a.length = true by unfold inB; simp; omega, show w64 (i + 1) = i + 1 from w64_id (by omega) (by omega), show Nat.blt (a.length - (i + 1).toNat) N = true by rw [Nat.blt_eq]; omega, dec_iff.2 ⟨rfl, h1, by omega⟩]
      simp only [bne_self_eq_false, cond_false, cond_true]
      exact h
    · rw [decide_eq_false hi]; exact h
 · cases h)
noncomputable def same30_s : CSumm := fun args H => match args, H with
 | [.psl 27 a, .psl 27 b], [] => .ite (dec (a = b ∧ a.length ≤ 100000)) (.ret (.bool true) []) .fail
 | _, _ => .fail
theorem same30_t (a : List SV) : bodyCL Tryz.prog (openT Tryz.prog (tbl []) 300 5) (fun _ => false) (ltab [("s", e30)]) true 300 Tryz.f30 (markC [(4, "s")] body30) [.psl 27 a, .psl 27 a] [] =
 bif (a.length : Int) != (a.length : Int) then .ret (.bool false) [] else bif dec (a = a ∧ a.length ≤ 100000 ∧ (0 : Int) ≤ 0) then .ret (.bool true) [] else .fail := by kernel_rfl
theorem same30_k : Known Tryz.prog 30 same30_s := by
 have h0 : Known Tryz.prog 30 (bodyCL Tryz.prog (openT Tryz.prog (tbl []) 300 5) (fun _ => false) (ltab [("s", e30)]) true 300 Tryz.f30 (markC [(4, "s")] body30)) := ⟨⟨Tryz.f30, Tryz.func30, noNum_at noNumTry Tryz.func30, rfl⟩, bodyL_valid (openT_ok noNumTry mixTry ok0 300 5) mixTry (ltab_cons sm30_v ltab_nil) Tryz.func30 (show Tryz.f30.body = some (fillC (ltab [("s", e30)]) (markC [(4, "s")] body30)) by kernel_rfl)⟩
 refine h0.weak (fun args H v ups h => ?_)
 unfold same30_s at h
 split at h
 · rename_i a b
   rw [crun_ite] at h
   cases hc : dec _ with
   | false => rw [hc] at h; cases h
   | true =>
    rw [hc, cond_true] at h
    obtain ⟨rfl, h1⟩ := dec_iff.1 hc
    refine (congrArg crun (same30_t a)).trans ?_
    rw [dec_iff.2 ⟨rfl, h1, by omega⟩, show ((a.length : Int) != (a.length : Int)) = false by simp]
    exact h
 · cases h
noncomputable def body31 : Code := Tryz.f31.body.getD .skip
noncomputable def c31 : Code := (loopAt 4 body31).getD .skip
noncomputable def sm31_s : CSumm := fun args H => match args, H with
 | [.psl 91 a, .psl 91 b, .int .i64 i], [] => .ite (dec (a = b ∧ a.length ≤ 100000 ∧ 0 ≤ i)) (.ret (.tup [.int .i64 2]) []) .fail
 | _, _ => .fail
def smM31 : List SV → HpL → Nat
 | [.psl _ a, _, .int _ i], _ => a.length - i.toNat
 | _, _ => 0
noncomputable def e31 : LEnt := { ins := [0, 1, 5], outs := [], keep := [], size := 26, code := c31, s := sm31_s }
theorem sm31_t (N : Nat) (a : List SV) (i : Int) : loopOnce Tryz.prog (openT Tryz.prog (tbl []) 300 5) (fun _ => false) (ltab []) true 300 e31 { e31 with s := boundT smM31 sm31_s N } c31 [.psl 91 a, .psl 91 a, .int .i64 i] [] =
 bif decide (i < a.length) then bif inB i a.length then bif inB i a.length then bif !((asI (cellAt (a.getD i.toNat .junk) 0) == asI (cellAt (a.getD i.toNat .junk) 0)) && ((asI (cellAt (a.getD i.toNat .junk) 1) == asI (cellAt (a.getD i.toNat .junk) 1)) && ((asI (cellAt (a.getD i.toNat .junk) 2) == asI (cellAt (a.getD i.toNat .junk) 2)) && ((asI (cellAt (a.getD i.toNat .junk) 3) == asI (cellAt (a.getD i.toNat .junk) 3)) && ((asI (cellAt (a.getD i.toNat .junk) 4) == asI (cellAt (a.getD i.toNat .junk) 4)) && ((asI (cellAt (a.getD i.toNat .junk) 5) == asI (cellAt (a.getD i.toNat .junk) 5)) && ((asI (cellAt (a.getD i.toNat .junk) 6) == asI (cellAt (a.getD i.toNat .junk) 6)) && (asI (cellAt (a.getD i.toNat .junk) 7) == asI (cellAt (a.getD i.toNat .junk) 7))))))))) then .ret (.tup [.int .i64 1]) [] else
  (bif Nat.blt (a.length - (w64 (i + 1)).toNat) N then bif dec (a = a ∧ a.length ≤ 100000 ∧ 0 ≤ w64 (i + 1)) then .ret (.tup [.int .i64 2]) [] else .fail else .fail) else .fail else .fail
 else .ret (.tup [.int .i64 2]) [] := by kernel_rfl
theorem sm31_v : ValidL Tryz.prog e31 := loop_valid (κ := openT Tryz.prog (tbl []) 300 5) (ι := fun _ => false) (T := ltab []) (sp := true) (fuel := 300) (c := c31) (μ := smM31) (openT_ok noNumTry mixTry ok0 300 5) mixTry ltab_nil (show fillC (ltab []) c31 = c31 by kernel_rfl) (by
 intro N args H r hb h
 unfold e31 sm31_s at h
 simp only [] at h
 split at h
 · rename_i a b i
   rw [crun_ite] at h
   cases hc : dec _ with
   | false => rw [hc] at h; cases h
   | true =>
    rw [hc, cond_true] at h
    obtain ⟨rfl, h1, h2⟩ := dec_iff.1 hc
    refine (congrArg crun (sm31_t N a i)).trans ?_
    by_cases hi : i < a.length
    · have hN : Nat.blt (a.length - i.toNat) (N + 1) = true := hb
      rw [Nat.blt_eq] at hN
      rw [decide_eq_true hi, show inB i a.length = true by unfold inB; simp; omega, show w64 (i + 1) = i + 1 from w64_id (by omega) (by omega), show Nat.blt (a.length - (i + 1).toNat) N = true by rw [Nat.blt_eq]; omega, dec_iff.2 ⟨rfl, h1, by omega⟩]
      simp only [beq_self_eq_true, Bool.and_self, Bool.not_true, cond_false, cond_true]
      exact h
    · rw [decide_eq_false hi]; exact h
 · cases h)
noncomputable def same31_s : CSumm := fun args H => match args, H with
 | [.psl 91 a, .psl 91 b], [] => .ite (dec (a = b ∧ a.length ≤ 100000)) (.ret (.bool true) []) .fail
 | _, _ => .fail
theorem same31_t (a : List SV) : bodyCL Tryz.prog (openT Tryz.prog (tbl []) 300 5) (fun _ => false) (ltab [("s", e31)]) true 300 Tryz.f31 (markC [(4, "s")] body31) [.psl 91 a, .psl 91 a] [] =
 bif (a.length : Int) != (a.length : Int) then .ret (.bool false) [] else bif dec (a = a ∧ a.length ≤ 100000 ∧ (0 : Int) ≤ 0) then .ret (.bool true) [] else .fail := by kernel_rfl
theorem same31_k : Known Tryz.prog 31 same31_s := by
 have h0 : Known Tryz.prog 31 (bodyCL Tryz.prog (openT Tryz.prog (tbl []) 300 5) (fun _ => false) (ltab [("s", e31)]) true 300 Tryz.f31 (markC [(4, "s")] body31)) := ⟨⟨Tryz.f31, Tryz.func31, noNum_at noNumTry Tryz.func31, rfl⟩, bodyL_valid (openT_ok noNumTry mixTry ok0 300 5) mixTry (ltab_cons sm31_v ltab_nil) Tryz.func31 (show Tryz.f31.body = some (fillC (ltab [("s", e31)]) (markC [(4, "s")] body31)) by kernel_rfl)⟩
 refine h0.weak (fun args H v ups h => ?_)
 unfold same31_s at h
 split at h
 · rename_i a b
   rw [crun_ite] at h
   cases hc : dec _ with
   | false => rw [hc] at h; cases h
   | true =>
    rw [hc, cond_true] at h
    obtain ⟨rfl, h1⟩ := dec_iff.1 hc
    refine (congrArg crun (same31_t a)).trans ?_
    rw [dec_iff.2 ⟨rfl, h1, by omega⟩, show ((a.length : Int) != (a.length : Int)) = false by simp]
    exact h
 · cases h
noncomputable def body12 : Code := Tryz.f12.body.getD .skip
noncomputable def c12 : Code := (loopAt 4 body12).getD .skip
noncomputable def sm12_s : CSumm := fun args H => match args, H with
 | [.psl 49 a, .psl 49 b, .int .i64 i], [] => .ite (dec (a = b ∧ a.length ≤ 100000 ∧ 0 ≤ i)) (.ret (.tup [.int .i64 2]) []) .fail
 | _, _ => .fail
def smM12 : List SV → HpL → Nat
 | [.psl _ a, _, .int _ i], _ => a.length - i.toNat
 | _, _ => 0
noncomputable def e12 : LEnt := { ins := [0, 1, 5], outs := [], keep := [], size := 26, code := c12, s := sm12_s }
theorem sm12_t (N : Nat) (a : List SV) (i : Int) : loopOnce Tryz.prog (openT Tryz.prog (tbl []) 300 5) (fun _ => false) (ltab []) true 300 e12 { e12 with s := boundT smM12 sm12_s N } c12 [.psl 49 a, .psl 49 a, .int .i64 i] [] =
 bif decide (i < a.length) then bif inB i a.length then bif inB i a.length then bif !((asI (cellAt (a.getD i.toNat .junk) 0) == asI (cellAt (a.getD i.toNat .junk) 0)) && ((asI (cellAt (a.getD i.toNat .junk) 1) == asI (cellAt (a.getD i.toNat .junk) 1)) && ((asI (cellAt (a.getD i.toNat .junk) 2) == asI (cellAt (a.getD i.toNat .junk) 2)) && ((asI (cellAt (a.getD i.toNat .junk) 3) == asI (cellAt (a.getD i.toNat .junk) 3)) && ((asI (cellAt (a.getD i.toNat .junk) 4) == asI (cellAt (a.getD i.toNat .junk) 4)) && ((asI (cellAt (a.getD i.toNat .junk) 5) == asI (cellAt (a.getD i.toNat .junk) 5)) && ((asI (cellAt (a.getD i.toNat .junk) 6) == asI (cellAt (a.getD i.toNat .junk) 6)) && ((asI (cellAt (a.getD i.toNat .junk) 7) == asI (cellAt (a.getD i.toNat .junk) 7)) && ((asI (cellAt (a.getD i.toNat .junk) 8) == asI (cellAt (a.getD i.toNat .junk) 8)) && ((asI (cellAt (a.getD i.toNat .junk) 9) == asI (cellAt (a.getD i.toNat .junk) 9)) && ((asI (cellAt (a.getD i.toNat .junk) 10) == asI (cellAt (a.getD i.toNat .junk) 10)) && ((asI (cellAt (a.getD i.toNat .junk) 11) == asI (cellAt (a.getD i.toNat .junk) 11)) && ((asI (cellAt (a.getD i.toNat .junk) 12) == asI (cellAt (a.getD i.toNat .junk) 12)) && ((asI (cellAt (a.getD i.toNat .junk) 13) == asI (cellAt (a.getD i.toNat .junk) 13)) && ((asI (cellAt (a.getD i.toNat .junk) 14) == asI (cellAt (a.getD i.toNat .junk) 14)) && ((asB (cellAt (a.getD i.toNat .junk) 15) == asB (cellAt (a.getD i.toNat .junk) 15)) && ((asI (cellAt (a.getD i.toNat .junk) 16) == asI (cellAt (a.getD i.toNat .junk) 16)) && ((asI (cellAt (a.getD i.toNat .junk) 17) == asI (cellAt (a.getD i.toNat .junk) 17)) && ((asI (cellAt (a.getD i.toNat .junk) 18) == asI (cellAt (a.getD i.toNat .junk) 18)) && ((asI (cellAt (a.getD i.toNat .junk) 19) == asI (cellAt (a.getD i.toNat .junk) 19)) && (asI (cellAt (a.getD i.toNat .junk) 20) == asI (cellAt (a.getD i.toNat .junk) 20)))))))))))))))))))))) then .ret (.tup [.int .i64 1]) [] else
  (bif Nat.blt (a.length - (w64 (i + 1)).toNat) N then bif dec (a = a ∧ a.length ≤ 100000 ∧ 0 ≤ w64 (i + 1)) then .ret (.tup [.int .i64 2]) [] else .fail else .fail) else .fail else .fail
 else .ret (.tup [.int .i64 2]) [] := by kernel_rfl
theorem sm12_v : ValidL Tryz.prog e12 := loop_valid (κ := openT Tryz.prog (tbl []) 300 5) (ι := fun _ => false) (T := ltab []) (sp := true) (fuel := 300) (c := c12) (μ := smM12) (openT_ok noNumTry mixTry ok0 300 5) mixTry ltab_nil (show fillC (ltab []) c12 = c12 by kernel_rfl) (by
 intro N args H r hb h
 unfold e12 sm12_s at h
 simp only [] at h
 split at h
 · rename_i a b i
   rw [crun_ite] at h
   cases hc : dec _ with
   | false => rw [hc] at h; cases h
   | true =>
    rw [hc, cond_true] at h
    obtain ⟨rfl, h1, h2⟩ := dec_iff.1 hc
    refine (congrArg crun (sm12_t N a i)).trans ?_
    by_cases hi : i < a.length
    · have hN : Nat.blt (a.length - i.toNat) (N + 1) = true := hb
      rw [Nat.blt_eq] at hN
      rw [decide_eq_true hi, show inB i a.length = true by unfold inB; simp; omega, show w64 (i + 1) = i + 1 from w64_id (by omega) (by omega), show Nat.blt (a.length - (i + 1).toNat) N = true by rw [Nat.blt_eq]; omega, dec_iff.2 ⟨rfl, h1, by omega⟩]
      simp only [beq_self_eq_true, Bool.and_self, Bool.not_true, cond_false, cond_true]
      exact h
    · rw [decide_eq_false hi]; exact h
 · cases h)
noncomputable def same12_s : CSumm := fun args H => match args, H with
 | [.psl 49 a, .psl 49 b], [] => .ite (dec (a = b ∧ a.length ≤ 100000)) (.ret (.bool true) []) .fail
 | _, _ => .fail
theorem same12_t (a : List SV) : bodyCL Tryz.prog (openT Tryz.prog (tbl []) 300 5) (fun _ => false) (ltab [("s", e12)]) true 300 Tryz.f12 (markC [(4, "s")] body12) [.psl 49 a, .psl 49 a] [] =
 bif (a.length : Int) != (a.length : Int) then .ret (.bool false) [] else bif dec (a = a ∧ a.length ≤ 100000 ∧ (0 : Int) ≤ 0) then .ret (.bool true) [] else .fail := by kernel_rfl
theorem same12_k : Known Tryz.prog 12 same12_s := by
 have h0 : Known Tryz.prog 12 (bodyCL Tryz.prog (openT Tryz.prog (tbl []) 300 5) (fun _ => false) (ltab [("s", e12)]) true 300 Tryz.f12 (markC [(4, "s")] body12)) := ⟨⟨Tryz.f12, Tryz.func12, noNum_at noNumTry Tryz.func12, rfl⟩, bodyL_valid (openT_ok noNumTry mixTry ok0 300 5) mixTry (ltab_cons sm12_v ltab_nil) Tryz.func12 (show Tryz.f12.body = some (fillC (ltab [("s", e12)]) (markC [(4, "s")] body12)) by kernel_rfl)⟩
 refine h0.weak (fun args H v ups h => ?_)
 unfold same12_s at h
 split at h
 · rename_i a b
   rw [crun_ite] at h
   cases hc : dec _ with
   | false => rw [hc] at h; cases h
   | true =>
    rw [hc, cond_true] at h
    obtain ⟨rfl, h1⟩ := dec_iff.1 hc
    refine (congrArg crun (same12_t a)).trans ?_
    rw [dec_iff.2 ⟨rfl, h1, by omega⟩, show ((a.length : Int) != (a.length : Int)) = false by simp]
    exact h
 · cases h
end Go.Proofs.YtdgnhaacdpmclaaGreat
/- AttrRead: what the law calls. -/
namespace Go.Proofs.YtdgnhaacdpmclaaGreat
open Go.Am
set_option maxRecDepth 100000
def lives_s : CSumm := fun args H => match args, H with
 | [], [] => .ret (.bool true) []
 | _, _ => .fail
theorem lives_t : bodyC Tryz.prog (openT Tryz.prog (tbl []) 300 8) (fun g => inl (tbl []) g && hasBody Tryz.prog g) true 300 Tryz.f7 [] [] = .ret (.bool true) [] := by kernel_rfl
theorem lives_k : Known Tryz.prog 7 lives_s := known_of_bodyC noNumTry mixTry (openT_ok noNumTry mixTry ok0 300 8) Tryz.func7 rfl (by
 intro args H v ups h
 unfold lives_s at h
 split at h
 · rw [lives_t]; exact h
 · cases h)
end Go.Proofs.YtdgnhaacdpmclaaGreat
/- AttrRead: attributes are the same; bytes are copied, and written over. -/
namespace Go.Proofs.YtdgnhaacdpmclaaGreat
open Go.Am
set_option maxRecDepth 100000
noncomputable abbrev κs := tbl [(29, same29_s), (30, same30_s), (31, same31_s)]
theorem sOk : KOk Tryz.prog κs := tbl_cons same29_k (tbl_cons same30_k (tbl_cons same31_k ok0))
noncomputable def smC (a : List SV) (K : CTree) : CTree := bif dec (a = a ∧ a.length ≤ 100000) then K else .fail
def sF : CTree := .ret (.bool false) []
theorem sat_t (d : Ds) : opn κs Tryz.f11 [aD d, aD d] [] =
 bif d.ori == d.ori then smC d.path (bif d.nx == d.nx then bif d.hm == d.hm then bif d.med == d.med then bif d.hp == d.hp then bif d.prf == d.prf then bif d.ho == d.ho then bif d.orr == d.orr then
  smC d.cl (smC d.cm (.ret (.bool (d.tk == d.tk && (d.tl == d.tl && (d.tr == d.tr && d.tg == d.tg)))) [])) else sF else sF else sF else sF else sF else sF else sF) else sF := by kernel_rfl
def aP : SV → Option Ds
 | .agg [.int .i64 ori, .psl 26 p, .int .u32 nx, .bool hm, .int .u32 med, .bool hp, .int .u32 prf, .bool ho, .int .u32 orr, .psl 27 c, .psl 91 m, .int .i64 tk, .int .u32 tl, .int .u32 tr, .int .u32 tg] => some ⟨ori, nx, med, prf, orr, tk, tl, tr, tg, hm, hp, ho, p, c, m, [], []⟩
 | _ => none
noncomputable def sameA_s : CSumm := fun args H => match args, H with
 | [x, y], [] => match aP x with
  | some d => .ite (dec (x = aD d ∧ y = aD d ∧ d.path.length ≤ 100000 ∧ d.cl.length ≤ 100000 ∧ d.cm.length ≤ 100000)) (.ret (.bool true) []) .fail
  | none => .fail
 | _, _ => .fail
theorem sameA_k : Known Tryz.prog 11 sameA_s := (openKnown sOk Tryz.func11 rfl).weak (by
 intro args H v ups h
 unfold sameA_s at h
 split at h
 · rename_i x y
   split at h
   · rename_i d hd
     rw [crun_ite] at h
     cases hc : dec _ with
     | false => rw [hc] at h; cases h
     | true =>
      rw [hc, cond_true] at h
      obtain ⟨rfl, rfl, h1, h2, h3⟩ := dec_iff.1 hc
      refine (congrArg crun (sat_t d)).trans ?_
      unfold smC
      rw [dec_iff.2 ⟨rfl, h1⟩, dec_iff.2 ⟨rfl, h2⟩, dec_iff.2 ⟨rfl, h3⟩]
      simp only [beq_self_eq_true, Bool.and_self, cond_true]
      exact h
   · cases h
 · cases h)
noncomputable def own_s : CSumm := fun args H => match args, H with
 | [.psl 5 b], [] => .ite (dec (b.length ≤ 100000)) (.ret (.qs 0 1 0 b.length) [(0, some (.seq 5 b))]) .fail
 | _, _ => .fail
theorem own_t (b : List SV) : opn (tbl []) Tryz.f8 [.psl 5 b] [] = bif decide (([] : List SV).length + b.length ≤ 9223372036854775807) && decide ((([] : List SV).length + b.length) * Tryz.prog.types[5].bytes ≤ 140737488355328) then .ret (.qs 0 1 0 (([] : List SV).length + b.length)) [(0, some (.seq 5 ([] ++ b)))] else .fail := by kernel_rfl
theorem own_k : Known Tryz.prog 8 own_s := (openKnown ok0 Tryz.func8 rfl).weak (by
 intro args H v ups h
 unfold own_s at h
 split at h
 · rename_i b
   rw [crun_ite] at h
   cases hc : dec _ with
   | false => rw [hc] at h; cases h
   | true =>
    rw [hc, cond_true] at h
    have hl := dec_iff.1 hc
    refine (congrArg crun (own_t b)).trans ?_
    rw [types5, List.length_nil, Nat.zero_add, decide_eq_true (by omega), decide_eq_true (by omega)]
    exact h
 · cases h)
/- The bytes are written over. -/
noncomputable def body3 : Code := Tryz.f3.body.getD .skip
noncomputable def c3 : Code := (loopAt 8 body3).getD .skip
noncomputable def w_s : CSumm := fun args H => match args, H with
 | [.qs 0 1 0 n, .int .i64 i], [(0, .seq 5 es)] => .ite (dec (n = es.length ∧ n ≤ 100000 ∧ 0 ≤ i)) (.ret (.tup [.int .i64 2]) [(0, none)]) .fail
 | _, _ => .fail
def wM : List SV → HpL → Nat
 | [.qs _ _ _ n, .int _ i], _ => n - i.toNat
 | _, _ => 0
noncomputable def e3 : LEnt := { ins := [3, 8], outs := [], keep := [0, 4, 5, 6, 7], size := 61, code := c3, s := w_s }
theorem w_t (N n : Nat) (es : List SV) (i : Int) : loopOnce Tryz.prog (openT Tryz.prog (tbl []) 300 5) (fun _ => false) (ltab []) true 300 e3 { e3 with s := boundT wM w_s N } c3 [.qs 0 1 0 n, .int .i64 i] [(0, .seq 5 es)] =
 bif decide (i < n) then bif inB i n then bif decide (0 + i.toNat < es.length) then
  (bif Nat.blt (n - (w64 (i + 1)).toNat) N then bif dec (n = (es.set (0 + i.toNat) (.int .u8 77)).length ∧ n ≤ 100000 ∧ 0 ≤ w64 (i + 1)) then .ret (.tup [.int .i64 2]) [(0, none)] else .fail else .fail) else .fail else .fail
 else .ret (.tup [.int .i64 2]) [] := by kernel_rfl
theorem w_valid : ValidL Tryz.prog e3 := loop_valid3 (T := ltab []) (sp := true) (fuel := 300) (c := c3) (μ := wM) mixTry ltab_nil (show fillC (ltab []) c3 = c3 by kernel_rfl) (by
 intro N args H v' ups' hbt h
 unfold e3 w_s at h
 simp only [] at h
 split at h
 · rename_i n i es
   rw [crun_ite] at h
   cases hc : dec _ with
   | false => rw [hc] at h; cases h
   | true =>
    rw [hc, cond_true] at h
    obtain ⟨h1, h2, h3⟩ := dec_iff.1 hc
    refine ⟨openT Tryz.prog (tbl []) 300 5, fun _ => false, openT_ok noNumTry mixTry ok0 300 5, ?_⟩
    have ht := w_t N n es i
    have hN : Nat.blt (n - i.toNat) (N + 1) = true := hbt
    rw [Nat.blt_eq] at hN
    by_cases hi : i < n
    · rw [decide_eq_true hi, cond_true, show inB i n = true by unfold inB; simp; omega, cond_true, Nat.zero_add, decide_eq_true (by omega), cond_true, show w64 (i + 1) = i + 1 from w64_id (by omega) (by omega), show Nat.blt (n - (i + 1).toNat) N = true by rw [Nat.blt_eq]; omega, cond_true, dec_iff.2 ⟨by rw [List.length_set]; exact h1, h2, by omega⟩, cond_true] at ht
      exact .inl ⟨_, (congrArg crun ht).trans h, fun x => rfl⟩
    · rw [decide_eq_false hi, cond_false] at ht
      cases h
      refine .inr (.inr ⟨_, _, congrArg crun ht, 2, _, _, rfl, rfl, .rfl', fun x c' hx => ⟨c', ?_, .rfl'⟩⟩)
      simp only [updF] at hx ⊢
      by_cases h0 : x = 0
      · rw [if_pos h0] at hx; cases hx
      · rw [if_neg h0] at hx; exact hx
 · cases h)
end Go.Proofs.YtdgnhaacdpmclaaGreat
/- AttrRead: the law's tree. -/
namespace Go.Proofs.YtdgnhaacdpmclaaGreat
open Go.Am
set_option maxRecDepth 100000
noncomputable abbrev κl3 := openT Tryz.prog (tbl [(7, lives_s), (8, own_s), (9, aread_s), (10, aref_s), (11, sameA_s), (12, same12_s)]) 300 5
noncomputable abbrev ιl3 : Nat → Bool := fun g => inl (tbl [(7, lives_s), (8, lives_s), (9, lives_s), (10, lives_s), (11, lives_s), (12, lives_s)]) g && hasBody Tryz.prog g
theorem l3Ok : KOk Tryz.prog κl3 := openT_ok noNumTry mixTry (tbl_cons lives_k (tbl_cons own_k (tbl_cons aread_k (tbl_cons aref_k (tbl_cons sameA_k (tbl_cons same12_k ok0)))))) 300 5
noncomputable abbrev T3 : LTab := ltab [("w", e3)]
noncomputable abbrev m3 : Code := markC [(8, "w")] body3
noncomputable def law3_b : CSumm := bodyCL Tryz.prog κl3 ιl3 T3 true 300 Tryz.f3 m3
theorem law3_k0 : Known Tryz.prog 3 law3_b := ⟨⟨Tryz.f3, Tryz.func3, noNum_at noNumTry Tryz.func3, rfl⟩, bodyL_valid l3Ok mixTry (ltab_cons w_valid ltab_nil) Tryz.func3 (show Tryz.f3.body = some (fillC T3 m3) by kernel_rfl)⟩
noncomputable def lawQ (q r : Int × Int × Ds) : CTree :=
 bif dec (aD q.2.2 = aD { q.2.2 with rch := [], unr := [] } ∧ aD r.2.2 = aD { q.2.2 with rch := [], unr := [] } ∧ q.2.2.path.length ≤ 100000 ∧ q.2.2.cl.length ≤ 100000 ∧ q.2.2.cm.length ≤ 100000) then
  bif dec (q.2.2.rch = r.2.2.rch ∧ q.2.2.rch.length ≤ 100000) then bif dec (q.2.2.unr = r.2.2.unr ∧ q.2.2.unr.length ≤ 100000) then .ret (.bool (q.1 == r.1 && q.2.1 == r.2.1)) [] else .fail else .fail else .fail
theorem law3_t (b : List SV) : law3_b [.psl 5 b] [] =
 bif decide ((b.length : Int) > 600) then .ret (.bool true) [] else bif dec (b.length ≤ 100000) then bif dec (byl b ∧ b.length = b.length ∧ b.length ≤ 1000000) then bif dec (b.length = b.length ∧ b.length ≤ 100000 ∧ (0 : Int) ≤ 0) then
  bif dec (byl b ∧ b.length ≤ 1000) then lawQ (rdQ b b.length) (rdO lkF (attM b b.length 0 0 f0 zI) b.length) else .fail else .fail else .fail else .fail := by kernel_rfl
end Go.Proofs.YtdgnhaacdpmclaaGreat
