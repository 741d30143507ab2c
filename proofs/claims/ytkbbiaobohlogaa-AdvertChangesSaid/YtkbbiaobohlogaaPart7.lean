/- What is advertised: the keys of a map, collected, known. -/
import Derived.Test.YtkbbiaobohlogaaPart6
import Derived.Test.YtkbbiaobohlogaaMachine9
set_option linter.unusedVariables false
set_option linter.unusedSimpArgs false
namespace Go.Proofs.Ytkbbiaobohlogaa
open Go.Am
set_option maxRecDepth 100000
theorem told_at {H : HpL} {c : Int} {vs : List SV} {ups ups' : List (Nat × Option Chunk)} (h : ∀ x c', updF ups' H.get x = some c' → ∃ c, updF ups H.get x = some c ∧ CoC Try.prog x c c') : ChainL Try.prog H (.tup (.int .i64 c :: vs)) ups (.tup (.int .i64 c :: vs)) ups' :=
 .told ⟨c, vs, vs, rfl, rfl, .rfl', h⟩
theorem gr39_run {m : Nat} {es : List SV} (h1 : m = es.length) (h2 : es.length ≤ 100000) (K : CTree) : crun (gr39 m es K) = crun K := by
 have hb : Try.prog.types[39].bytes = 80 := by kernel_rfl
 unfold gr39
 rw [crun_gd (decide_eq_true h1), crun_gd (by rw [hb]; simp; omega)]
theorem known_pick2 {f : FuncId} {s1 s2 : CSumm} (h1 : Known Try.prog f s1) (h2 : Known Try.prog f s2) (p : List SV → HpL → Bool) : Known Try.prog f (fun args H => bif p args H then s1 args H else s2 args H) := by
 refine ⟨h1.fn, fun args H v ups hr => ?_⟩
 cases hp : p args H with
 | true => rw [hp] at hr; exact h1.ok args H v ups hr
 | false => rw [hp] at hr; exact h2.ok args H v ups hr
theorem leftK_none : ∀ {bs : List Nat} {ks : List SV}, ks.length = bs.length → leftK [] bs ks = ks
 | [], [], _ => rfl
 | [], _ :: _, h => by simp at h
 | _ :: _, [], h => by simp at h
 | b :: bs, k :: ks, h => by simp only [leftK, memN, cond_false, leftK_none (bs := bs) (ks := ks) (by simpa using h)]
theorem noneCh {P : Program} {e : TypeId} {x : Nat} (ω : Nat → Value) (w : World) (Im : Nat → Prop) (θ : Th) (h : θ x = none) : CRel P ω w Im θ x (.ext (.sqm e [])) := ⟨[], .refl _, .inl ⟨rfl, h⟩⟩
def apOk (bs : List Nat) (cl : Nat) (ks : List SV) : Prop := (∀ b ∈ bs, b < cl) ∧ bs.Nodup ∧ ks.length = bs.length ∧ ksOk ks ∧ ks.length ≤ 100000
theorem apOk_co {bs : List Nat} {cl : Nat} {ks : List SV} (h : apOk bs cl ks) : coOk2 [] bs cl cl cl ks := by
 obtain ⟨h1, h2, h3, h4, h5⟩ := h
 refine ⟨?_, Nat.le_refl _, h2, h3, h4, h5⟩
 unfold ageOk
 rw [Bool.and_eq_true, List.all_eq_true]
 exact ⟨fun b hb => by rw [Nat.blt_eq]; exact h1 b hb, by rw [Nat.ble_eq]; exact Nat.le_refl _⟩
theorem co52_valid : ValidL Try.prog e52 := mapLoopU_valid (μ := coM52) ok0 mixTry c52_eq o52_op o52_g (by
 intro N args H v' ups' hb h
 unfold e52 co52_s at h
 simp only [] at h
 split at h
 case h_2 => cases h
 rename_i i
 split at h
 · rename_i since last seen bs cl ks vs hH
   rw [crun_ite] at h
   cases hc : dec _ with
   | false => rw [hc] at h; cases h
   | true =>
    rw [hc, cond_true, crun_ite] at h
    obtain ⟨rfl, rfl, hok⟩ := dec_iff.1 hc
    obtain ⟨a1, a2, a3, a4, a5, a6⟩ := id hok
    have hN : Nat.blt (leftB seen bs).length (N + 1) = true := hb
    rw [Nat.blt_eq] at hN
    refine ⟨ck0_52 since last seen bs cl ks vs, dk0_52 since last seen bs cl ks vs, 4, _, (nx0_52 since last seen bs cl ks vs).trans (by rw [a1]; rfl), fun p hp => ?_⟩
    rcases optsB_mem hp with ⟨hl, rfl⟩ | ⟨b, hbm, rfl⟩
    · rw [leftK_nil hl] at h
      cases h
      exact ⟨_, _, congrArg crun (re0_52 N since last seen bs cl ks vs), .same fun _ => rfl⟩
    · have ht := congrArg crun (rt0_52 N since last b seen bs cl ks vs)
      have hbb := leftB_mem hbm
      have hlt := idxN_lt hbb
      have hperm := leftK_cons a4 a3 hbm
      have hless := leftB_less a3 hbm
      have hsubl := (leftK_sub seen bs ks).length_le
      have hkn := a5 _ (getD_mem (a := ks) (i := idxN bs b) (by omega))
      have hlen := hperm.length_eq
      generalize ks.getD (idxN bs b) .junk = k at *
      rw [List.length_cons] at hlen
      unfold kNrm at hkn
      unfold cg52 at ht
      rw [← hkn] at ht
      rw [crun_gd (by rw [Bool.and_eq_true]; exact ⟨Nat.beq_refl _, (memN_iff2 _ _).2 hbb⟩), crun_gd (by rw [Nat.blt_eq]; omega), crun_gd (dec_iff.2 ⟨rfl, rfl, ⟨ageOk_next a1 a2, a2, a3, a4, a5, a6⟩, rfl, by simp only [List.length_singleton]; omega⟩)] at ht
      rw [decide_eq_false (by omega), cond_false] at h
      cases h
      refine ⟨_, _, ht, told_at fun x c' hx => ?_⟩
      rw [show 1 + (leftK (b :: seen) bs ks).length = (leftK seen bs ks).length by omega]
      simp only [updF] at hx ⊢
      by_cases h4 : x = 4
      · subst h4; simp at hx
      · by_cases h5 : x = 5
        · subst h5
          simp at hx
          subst hx
          exact ⟨_, rfl, coc_sqm hperm⟩
        · by_cases h3 : x = 3
          · subst h3
            simp at hx
            subst hx
            exact ⟨_, rfl, fun _ _ _ _ h => h⟩
          · rw [if_neg h4, if_neg h5, if_neg h3] at hx
            rw [if_neg h5, if_neg h4, if_neg h3]
            by_cases h0 : x = 0
            · subst h0
              rw [if_pos rfl]
              cases hx
              exact ⟨_, rfl, fun _ _ _ _ h => h⟩
            · rw [if_neg h0]
              exact ⟨c', hx, fun _ _ _ _ h => h⟩
 · rename_i since last seen bs cl ks vs m es hH
   rw [crun_ite] at h
   cases hc : dec _ with
   | false => rw [hc] at h; cases h
   | true =>
    rw [hc, cond_true] at h
    obtain ⟨rfl, rfl, hok, hm, hsz⟩ := dec_iff.1 hc
    obtain ⟨a1, a2, a3, a4, a5, a6⟩ := id hok
    subst hm
    have hN : Nat.blt (leftB seen bs).length (N + 1) = true := hb
    rw [Nat.blt_eq] at hN
    cases h
    refine ⟨ck1_52 since last seen bs cl ks vs es.length es, dk1_52 since last seen bs cl ks vs es.length es, 5, _, (nx1_52 since last seen bs cl ks vs es.length es).trans (by rw [a1]; rfl), fun p hp => ?_⟩
    rcases optsB_mem hp with ⟨hl, rfl⟩ | ⟨b, hbm, rfl⟩
    · rw [leftK_nil hl, List.append_nil]
      refine ⟨_, _, congrArg crun (re1_52 N since last seen bs cl ks vs es.length es), .trans (v1 := .tup [.int .i64 2]) (ups1 := [(4, some (.ext (.sqm 39 es))), (5, none)]) (told_at fun x c' hx => ?_) (.ren ⟨4, 6, Nat.le_refl _, by simp [namesS, namesL], fun x c hx => ?_, rfl, fun x => ?_⟩)⟩
      · simp only [updF] at hx ⊢
        by_cases h5 : x = 5
        · subst h5; simp at hx
        · rw [if_neg h5] at hx ⊢
          by_cases h4 : x = 4
          · subst h4
            rw [if_pos rfl] at hx
            cases hx
            exact ⟨_, rfl, coc_seq_sqm (.refl _)⟩
          · rw [if_neg h4] at hx
            exact ⟨c', hx, fun _ _ _ _ h => h⟩
      · simp only [updF] at hx
        by_cases h5 : x = 5
        · subst h5; simp at hx
        · rw [if_neg h5] at hx
          by_cases h4 : x = 4
          · subst h4
            rw [if_pos rfl] at hx
            cases hx
            simp [namesC]
          · rw [if_neg h4] at hx
            have := HpL_get_some _ _ _ hx
            simp only [HS1_52, List.mem_cons, Prod.mk.injEq, List.not_mem_nil, or_false] at this
            rcases this with ⟨-, rfl⟩ | ⟨-, rfl⟩ | ⟨-, rfl⟩ | ⟨-, rfl⟩ | ⟨-, rfl⟩ | ⟨-, rfl⟩ <;> simp [namesC, lr62, vs62, namesL, namesS]
      · match x with
        | 0 => rfl
        | 1 => rfl
        | 2 => rfl
        | 3 => rfl
        | 4 => rfl
        | 5 => rfl
        | 6 => rfl
        | n + 7 => rfl
    · have ht := congrArg crun (rt1_52 N since last b seen bs cl ks vs es.length es)
      have hbb := leftB_mem hbm
      have hlt := idxN_lt hbb
      have hperm := leftK_cons a4 a3 hbm
      have hless := leftB_less a3 hbm
      have hkn := a5 _ (getD_mem (a := ks) (i := idxN bs b) (by omega))
      have hlen := hperm.length_eq
      generalize ks.getD (idxN bs b) .junk = k at *
      rw [List.length_cons] at hlen
      unfold kNrm at hkn
      unfold cg52 at ht
      rw [← hkn] at ht
      rw [crun_gd (by rw [Bool.and_eq_true]; exact ⟨Nat.beq_refl _, (memN_iff2 _ _).2 hbb⟩), gr39_run rfl (by omega), crun_gd (by rw [Nat.blt_eq]; omega), crun_gd (dec_iff.2 ⟨rfl, rfl, ⟨ageOk_next a1 a2, a2, a3, a4, a5, a6⟩, by simp, by simp only [List.length_append, List.length_singleton]; omega⟩)] at ht
      refine ⟨_, _, ht, told_at fun x c' hx => ?_⟩
      rw [show (es ++ [k]).length + (leftK (b :: seen) bs ks).length = es.length + (leftK seen bs ks).length by simp only [List.length_append, List.length_singleton]; omega]
      simp only [updF] at hx ⊢
      by_cases h5 : x = 5
      · subst h5; simp at hx
      · by_cases h6 : x = 6
        · subst h6
          simp at hx
          subst hx
          exact ⟨_, rfl, coc_sqm (by rw [List.append_assoc]; exact List.Perm.append_left _ hperm)⟩
        · by_cases h4 : x = 4
          · subst h4; simp at hx
          · by_cases h3 : x = 3
            · subst h3
              simp at hx
              subst hx
              exact ⟨_, rfl, fun _ _ _ _ h => h⟩
            · rw [if_neg h5, if_neg h6, if_neg h4, if_neg h3] at hx
              rw [if_neg h6, if_neg h5]
              by_cases h0 : x = 0
              · subst h0
                rw [if_pos rfl]
                cases hx
                exact ⟨_, rfl, fun _ _ _ _ h => h⟩
              · rw [if_neg h0, if_neg h4, if_neg h3]
                exact ⟨c', hx, fun _ _ _ _ h => h⟩
 · cases h)
noncomputable abbrev Tk52 : LTab := ltab [("m", e52)]
noncomputable abbrev Mk52 : Nat → Option Code := mtab [(52, m52)]
noncomputable def as52_b : CSumm := bodyCM Try.prog (openT Try.prog (tbl []) 300 5) (fun g => inl (tbl []) g && hasBody Try.prog g) Tk52 Mk52 true 300 Try.f62 body62
theorem as52_k0 : Known Try.prog 62 as52_b :=
 ⟨⟨Try.f62, Try.func62, noNum_at noNumTry Try.func62, rfl⟩, bodyM_valid (openT_ok noNumTry mixTry ok0 300 5) mixTry (ltab_cons co52_valid ltab_nil) (mtab_cons Try.func52 (show Try.f52.body = some (fillC Tk52 m52) by kernel_rfl) mtab_nil) Try.func62 (show Try.f62.body = some (fillC Tk52 body62) by kernel_rfl)⟩
theorem as52_t (bs : List Nat) (cl : Nat) (ks vs : List SV) : as52_b [.nils, .fn (.func 52) [] [.ptr 0 0]] [(0, .cells 61 [.mp 1]), (1, .ext (.mpo 39 48 bs cl ks vs))] =
 gd (dec (4 = 4 ∧ HS0_52 cl cl [] bs cl ks vs = HS0_52 cl cl [] bs cl ks vs ∧ coOk2 [] bs cl cl cl ks)) (bif decide ((leftK [] bs ks).length = 0) then .ret .nils [] else .ret (.qs 2 21 0 (leftK [] bs ks).length) [(2, some (.ext (.sqm 39 (leftK [] bs ks))))]) := by kernel_rfl
noncomputable def as52_s0 : CSumm := fun args H => match args, H with
 | [.nils, .fn (.func 52) [] [.ptr 0 0]], [(0, .cells 61 [.mp 1]), (1, .ext (.mpo 39 48 bs cl ks _))] => .ite (dec (apOk bs cl ks)) (.ite (decide (ks.length = 0)) (.ret .nils []) (.ret (.qs 2 21 0 ks.length) [(2, some (.ext (.sqm 39 ks)))])) .fail
 | _, _ => .fail
theorem as52_k1 : Known Try.prog 62 as52_s0 := as52_k0.weak (by
 intro args H v ups h
 unfold as52_s0 at h
 split at h
 · rename_i bs cl ks vs
   rw [crun_ite] at h
   cases hc : dec _ with
   | false => rw [hc] at h; cases h
   | true =>
    rw [hc, cond_true, crun_ite] at h
    have hok := dec_iff.1 hc
    refine (congrArg crun (as52_t bs cl ks vs)).trans ?_
    rw [crun_gd (dec_iff.2 ⟨rfl, rfl, apOk_co hok⟩), leftK_none hok.2.2.1, crun_cond]
    exact h
 · cases h)
noncomputable def as52_s : CSumm := fun args H => match args, H with
 | [.nils, .fn (.func 52) [] [.ptr 0 0]], [(0, .cells 61 [.mp 1]), (1, .ext (.mpo 39 48 bs cl ks _))] => .ite (dec (apOk bs cl ks)) (.ret (.qs 2 21 0 ks.length) [(2, some (.ext (.sqm 39 ks)))]) .fail
 | _, _ => .fail
theorem as52_k : Known Try.prog 62 as52_s := known_grownC as52_k1 (by
 intro args H v ups h
 unfold as52_s at h
 split at h
 · rename_i bs cl ks vs
   rw [crun_ite] at h
   cases hc : dec _ with
   | false => rw [hc] at h; cases h
   | true =>
    rw [hc, cond_true] at h
    by_cases hl : ks.length = 0
    · right
      have hk : ks = [] := List.length_eq_zero_iff.1 hl
      subst hk
      cases h
      refine ⟨21, _, noneCh, rfl, rfl, fun x c hx => ?_, ?_⟩
      · have := HpL_get_some _ _ _ hx
        simp only [List.mem_cons, Prod.mk.injEq, List.not_mem_nil, or_false] at this
        rcases this with ⟨rfl, rfl⟩ | ⟨rfl, rfl⟩ <;> simp [namesC, namesL, namesS]
      · show crun (.ite (dec _) _ _) = _
        rw [crun_ite, hc]; rfl
    · left
      show crun (.ite (dec _) _ _) = _
      rw [crun_ite, hc, cond_true, crun_ite, decide_eq_false hl]
      exact h
 · cases h)
theorem co61_valid : ValidL Try.prog e61 := mapLoopU_valid (μ := coM61) ok0 mixTry c61_eq o61_op o61_g (by
 intro N args H v' ups' hb h
 unfold e61 co61_s at h
 simp only [] at h
 split at h
 case h_2 => cases h
 rename_i i
 split at h
 · rename_i since last seen bs cl ks vs hH
   rw [crun_ite] at h
   cases hc : dec _ with
   | false => rw [hc] at h; cases h
   | true =>
    rw [hc, cond_true, crun_ite] at h
    obtain ⟨rfl, rfl, hok⟩ := dec_iff.1 hc
    obtain ⟨a1, a2, a3, a4, a5, a6⟩ := id hok
    have hN : Nat.blt (leftB seen bs).length (N + 1) = true := hb
    rw [Nat.blt_eq] at hN
    refine ⟨ck0_61 since last seen bs cl ks vs, dk0_61 since last seen bs cl ks vs, 4, _, (nx0_61 since last seen bs cl ks vs).trans (by rw [a1]; rfl), fun p hp => ?_⟩
    rcases optsB_mem hp with ⟨hl, rfl⟩ | ⟨b, hbm, rfl⟩
    · rw [leftK_nil hl] at h
      cases h
      exact ⟨_, _, congrArg crun (re0_61 N since last seen bs cl ks vs), .same fun _ => rfl⟩
    · have ht := congrArg crun (rt0_61 N since last b seen bs cl ks vs)
      have hbb := leftB_mem hbm
      have hlt := idxN_lt hbb
      have hperm := leftK_cons a4 a3 hbm
      have hless := leftB_less a3 hbm
      have hsubl := (leftK_sub seen bs ks).length_le
      have hkn := a5 _ (getD_mem (a := ks) (i := idxN bs b) (by omega))
      have hlen := hperm.length_eq
      generalize ks.getD (idxN bs b) .junk = k at *
      rw [List.length_cons] at hlen
      unfold kNrm at hkn
      unfold cg61 at ht
      rw [← hkn] at ht
      rw [crun_gd (by rw [Bool.and_eq_true]; exact ⟨Nat.beq_refl _, (memN_iff2 _ _).2 hbb⟩), crun_gd (by rw [Nat.blt_eq]; omega), crun_gd (dec_iff.2 ⟨rfl, rfl, ⟨ageOk_next a1 a2, a2, a3, a4, a5, a6⟩, rfl, by simp only [List.length_singleton]; omega⟩)] at ht
      rw [decide_eq_false (by omega), cond_false] at h
      cases h
      refine ⟨_, _, ht, told_at fun x c' hx => ?_⟩
      rw [show 1 + (leftK (b :: seen) bs ks).length = (leftK seen bs ks).length by omega]
      simp only [updF] at hx ⊢
      by_cases h4 : x = 4
      · subst h4; simp at hx
      · by_cases h5 : x = 5
        · subst h5
          simp at hx
          subst hx
          exact ⟨_, rfl, coc_sqm hperm⟩
        · by_cases h3 : x = 3
          · subst h3
            simp at hx
            subst hx
            exact ⟨_, rfl, fun _ _ _ _ h => h⟩
          · rw [if_neg h4, if_neg h5, if_neg h3] at hx
            rw [if_neg h5, if_neg h4, if_neg h3]
            by_cases h0 : x = 0
            · subst h0
              rw [if_pos rfl]
              cases hx
              exact ⟨_, rfl, fun _ _ _ _ h => h⟩
            · rw [if_neg h0]
              exact ⟨c', hx, fun _ _ _ _ h => h⟩
 · rename_i since last seen bs cl ks vs m es hH
   rw [crun_ite] at h
   cases hc : dec _ with
   | false => rw [hc] at h; cases h
   | true =>
    rw [hc, cond_true] at h
    obtain ⟨rfl, rfl, hok, hm, hsz⟩ := dec_iff.1 hc
    obtain ⟨a1, a2, a3, a4, a5, a6⟩ := id hok
    subst hm
    have hN : Nat.blt (leftB seen bs).length (N + 1) = true := hb
    rw [Nat.blt_eq] at hN
    cases h
    refine ⟨ck1_61 since last seen bs cl ks vs es.length es, dk1_61 since last seen bs cl ks vs es.length es, 5, _, (nx1_61 since last seen bs cl ks vs es.length es).trans (by rw [a1]; rfl), fun p hp => ?_⟩
    rcases optsB_mem hp with ⟨hl, rfl⟩ | ⟨b, hbm, rfl⟩
    · rw [leftK_nil hl, List.append_nil]
      refine ⟨_, _, congrArg crun (re1_61 N since last seen bs cl ks vs es.length es), .trans (v1 := .tup [.int .i64 2]) (ups1 := [(4, some (.ext (.sqm 39 es))), (5, none)]) (told_at fun x c' hx => ?_) (.ren ⟨4, 6, Nat.le_refl _, by simp [namesS, namesL], fun x c hx => ?_, rfl, fun x => ?_⟩)⟩
      · simp only [updF] at hx ⊢
        by_cases h5 : x = 5
        · subst h5; simp at hx
        · rw [if_neg h5] at hx ⊢
          by_cases h4 : x = 4
          · subst h4
            rw [if_pos rfl] at hx
            cases hx
            exact ⟨_, rfl, coc_seq_sqm (.refl _)⟩
          · rw [if_neg h4] at hx
            exact ⟨c', hx, fun _ _ _ _ h => h⟩
      · simp only [updF] at hx
        by_cases h5 : x = 5
        · subst h5; simp at hx
        · rw [if_neg h5] at hx
          by_cases h4 : x = 4
          · subst h4
            rw [if_pos rfl] at hx
            cases hx
            simp [namesC]
          · rw [if_neg h4] at hx
            have := HpL_get_some _ _ _ hx
            simp only [HS1_61, List.mem_cons, Prod.mk.injEq, List.not_mem_nil, or_false] at this
            rcases this with ⟨-, rfl⟩ | ⟨-, rfl⟩ | ⟨-, rfl⟩ | ⟨-, rfl⟩ | ⟨-, rfl⟩ | ⟨-, rfl⟩ <;> simp [namesC, lr62, vs62, namesL, namesS]
      · match x with
        | 0 => rfl
        | 1 => rfl
        | 2 => rfl
        | 3 => rfl
        | 4 => rfl
        | 5 => rfl
        | 6 => rfl
        | n + 7 => rfl
    · have ht := congrArg crun (rt1_61 N since last b seen bs cl ks vs es.length es)
      have hbb := leftB_mem hbm
      have hlt := idxN_lt hbb
      have hperm := leftK_cons a4 a3 hbm
      have hless := leftB_less a3 hbm
      have hkn := a5 _ (getD_mem (a := ks) (i := idxN bs b) (by omega))
      have hlen := hperm.length_eq
      generalize ks.getD (idxN bs b) .junk = k at *
      rw [List.length_cons] at hlen
      unfold kNrm at hkn
      unfold cg61 at ht
      rw [← hkn] at ht
      rw [crun_gd (by rw [Bool.and_eq_true]; exact ⟨Nat.beq_refl _, (memN_iff2 _ _).2 hbb⟩), gr39_run rfl (by omega), crun_gd (by rw [Nat.blt_eq]; omega), crun_gd (dec_iff.2 ⟨rfl, rfl, ⟨ageOk_next a1 a2, a2, a3, a4, a5, a6⟩, by simp, by simp only [List.length_append, List.length_singleton]; omega⟩)] at ht
      refine ⟨_, _, ht, told_at fun x c' hx => ?_⟩
      rw [show (es ++ [k]).length + (leftK (b :: seen) bs ks).length = es.length + (leftK seen bs ks).length by simp only [List.length_append, List.length_singleton]; omega]
      simp only [updF] at hx ⊢
      by_cases h5 : x = 5
      · subst h5; simp at hx
      · by_cases h6 : x = 6
        · subst h6
          simp at hx
          subst hx
          exact ⟨_, rfl, coc_sqm (by rw [List.append_assoc]; exact List.Perm.append_left _ hperm)⟩
        · by_cases h4 : x = 4
          · subst h4; simp at hx
          · by_cases h3 : x = 3
            · subst h3
              simp at hx
              subst hx
              exact ⟨_, rfl, fun _ _ _ _ h => h⟩
            · rw [if_neg h5, if_neg h6, if_neg h4, if_neg h3] at hx
              rw [if_neg h6, if_neg h5]
              by_cases h0 : x = 0
              · subst h0
                rw [if_pos rfl]
                cases hx
                exact ⟨_, rfl, fun _ _ _ _ h => h⟩
              · rw [if_neg h0, if_neg h4, if_neg h3]
                exact ⟨c', hx, fun _ _ _ _ h => h⟩
 · cases h)
noncomputable abbrev Tk61 : LTab := ltab [("m", e61)]
noncomputable abbrev Mk61 : Nat → Option Code := mtab [(61, m61)]
noncomputable def as61_b : CSumm := bodyCM Try.prog (openT Try.prog (tbl []) 300 5) (fun g => inl (tbl []) g && hasBody Try.prog g) Tk61 Mk61 true 300 Try.f62 body62
theorem as61_k0 : Known Try.prog 62 as61_b :=
 ⟨⟨Try.f62, Try.func62, noNum_at noNumTry Try.func62, rfl⟩, bodyM_valid (openT_ok noNumTry mixTry ok0 300 5) mixTry (ltab_cons co61_valid ltab_nil) (mtab_cons Try.func61 (show Try.f61.body = some (fillC Tk61 m61) by kernel_rfl) mtab_nil) Try.func62 (show Try.f62.body = some (fillC Tk61 body62) by kernel_rfl)⟩
theorem as61_t (bs : List Nat) (cl : Nat) (ks vs : List SV) : as61_b [.nils, .fn (.func 61) [] [.ptr 0 0]] [(0, .cells 63 [.mp 1]), (1, .ext (.mpo 39 65 bs cl ks vs))] =
 gd (dec (4 = 4 ∧ HS0_61 cl cl [] bs cl ks vs = HS0_61 cl cl [] bs cl ks vs ∧ coOk2 [] bs cl cl cl ks)) (bif decide ((leftK [] bs ks).length = 0) then .ret .nils [] else .ret (.qs 2 21 0 (leftK [] bs ks).length) [(2, some (.ext (.sqm 39 (leftK [] bs ks))))]) := by kernel_rfl
noncomputable def as61_s0 : CSumm := fun args H => match args, H with
 | [.nils, .fn (.func 61) [] [.ptr 0 0]], [(0, .cells 63 [.mp 1]), (1, .ext (.mpo 39 65 bs cl ks _))] => .ite (dec (apOk bs cl ks)) (.ite (decide (ks.length = 0)) (.ret .nils []) (.ret (.qs 2 21 0 ks.length) [(2, some (.ext (.sqm 39 ks)))])) .fail
 | _, _ => .fail
theorem as61_k1 : Known Try.prog 62 as61_s0 := as61_k0.weak (by
 intro args H v ups h
 unfold as61_s0 at h
 split at h
 · rename_i bs cl ks vs
   rw [crun_ite] at h
   cases hc : dec _ with
   | false => rw [hc] at h; cases h
   | true =>
    rw [hc, cond_true, crun_ite] at h
    have hok := dec_iff.1 hc
    refine (congrArg crun (as61_t bs cl ks vs)).trans ?_
    rw [crun_gd (dec_iff.2 ⟨rfl, rfl, apOk_co hok⟩), leftK_none hok.2.2.1, crun_cond]
    exact h
 · cases h)
noncomputable def as61_s : CSumm := fun args H => match args, H with
 | [.nils, .fn (.func 61) [] [.ptr 0 0]], [(0, .cells 63 [.mp 1]), (1, .ext (.mpo 39 65 bs cl ks _))] => .ite (dec (apOk bs cl ks)) (.ret (.qs 2 21 0 ks.length) [(2, some (.ext (.sqm 39 ks)))]) .fail
 | _, _ => .fail
theorem as61_k : Known Try.prog 62 as61_s := known_grownC as61_k1 (by
 intro args H v ups h
 unfold as61_s at h
 split at h
 · rename_i bs cl ks vs
   rw [crun_ite] at h
   cases hc : dec _ with
   | false => rw [hc] at h; cases h
   | true =>
    rw [hc, cond_true] at h
    by_cases hl : ks.length = 0
    · right
      have hk : ks = [] := List.length_eq_zero_iff.1 hl
      subst hk
      cases h
      refine ⟨21, _, noneCh, rfl, rfl, fun x c hx => ?_, ?_⟩
      · have := HpL_get_some _ _ _ hx
        simp only [List.mem_cons, Prod.mk.injEq, List.not_mem_nil, or_false] at this
        rcases this with ⟨rfl, rfl⟩ | ⟨rfl, rfl⟩ <;> simp [namesC, namesL, namesS]
      · show crun (.ite (dec _) _ _) = _
        rw [crun_ite, hc]; rfl
    · left
      show crun (.ite (dec _) _ _) = _
      rw [crun_ite, hc, cond_true, crun_ite, decide_eq_false hl]
      exact h
 · cases h)
def isF52 : List SV → Bool
 | [_, .fn (.func 52) _ _] => true
 | _ => false
noncomputable def asq_s : CSumm := fun args H => bif isF52 args then as52_s args H else as61_s args H
theorem asq_k : Known Try.prog 62 asq_s := known_pick2 as52_k as61_k fun args _ => isF52 args
end Go.Proofs.Ytkbbiaobohlogaa
/- What is advertised: the order of keys. -/
namespace Go.Proofs.Ytkbbiaobohlogaa
open Go.Am
set_option maxRecDepth 100000
theorem cI_cases (x y : Int) : (x < y ∧ cI x y = -1) ∨ (x = y ∧ cI x y = 0) ∨ (y < x ∧ cI x y = 1) := by
 unfold cI
 by_cases h1 : x < y
 · rw [decide_eq_true h1]; exact .inl ⟨h1, rfl⟩
 · rw [decide_eq_false h1]
   by_cases h2 : x > y
   · rw [decide_eq_true h2]; exact .inr (.inr ⟨h2, rfl⟩)
   · rw [decide_eq_false h2]; exact .inr (.inl ⟨by omega, rfl⟩)
def cmL (l m : List Int) : Int := orI (List.zipWith cI l m)
theorem cmL_cons (x y : Int) (l m : List Int) : cmL (x :: l) (y :: m) = if x < y then -1 else if y < x then 1 else cmL l m := by
 unfold cmL
 rw [List.zipWith_cons_cons]
 show (bif cI x y != 0 then cI x y else orI (List.zipWith cI l m)) = _
 rcases cI_cases x y with ⟨h1, h2⟩ | ⟨h1, h2⟩ | ⟨h1, h2⟩
 · rw [h2, if_pos h1]; rfl
 · rw [h2, if_neg (by omega), if_neg (by omega)]; rfl
 · rw [h2, if_neg (by omega), if_pos h1]; rfl
theorem cmL_self : ∀ (l : List Int), cmL l l = 0
 | [] => rfl
 | x :: l => by rw [cmL_cons, if_neg (by omega), if_neg (by omega)]; exact cmL_self l
theorem cmL_anti : ∀ (l m : List Int), l.length = m.length → cmL m l = - cmL l m
 | [], [], _ => rfl
 | [], _ :: _, h => by simp at h
 | _ :: _, [], h => by simp at h
 | x :: l, y :: m, h => by
  have ih := cmL_anti l m (by simpa using h)
  rw [cmL_cons, cmL_cons, ih]
  split <;> split <;> omega
theorem cmL_eq : ∀ (l m : List Int), l.length = m.length → cmL l m = 0 → l = m
 | [], [], _, _ => rfl
 | [], _ :: _, h, _ => by simp at h
 | _ :: _, [], h, _ => by simp at h
 | x :: l, y :: m, h, h0 => by
  rw [cmL_cons] at h0
  split at h0
  · omega
  · split at h0
    · omega
    · have := cmL_eq l m (by simpa using h) h0
      rw [this, show x = y by omega]
theorem cmL_trans : ∀ (l m k : List Int), l.length = m.length → m.length = k.length → cmL l m < 0 → cmL m k < 0 → cmL l k < 0
 | [], [], [], _, _, h, _ => by simp [cmL, orI] at h
 | [], _ :: _, _, h, _, _, _ => by simp at h
 | [], [], _ :: _, _, h, _, _ => by simp at h
 | _ :: _, [], _, h, _, _, _ => by simp at h
 | _ :: _, _ :: _, [], _, h, _, _ => by simp at h
 | x :: l, y :: m, z :: k, h1, h2, h3, h4 => by
  rw [cmL_cons] at h3 h4 ⊢
  have ih := cmL_trans l m k (by simpa using h1) (by simpa using h2)
  by_cases a1 : x < y
  · by_cases a2 : y < z
    · rw [if_pos (by omega)]; omega
    · rw [if_neg a2] at h4
      by_cases a3 : z < y
      · rw [if_pos a3] at h4; omega
      · rw [if_pos (by omega)]; omega
  · rw [if_neg a1] at h3
    by_cases a2 : y < x
    · rw [if_pos a2] at h3; omega
    · rw [if_neg a2] at h3
      by_cases a3 : y < z
      · rw [if_pos (by omega)]; omega
      · rw [if_neg a3] at h4
        by_cases a4 : z < y
        · rw [if_pos a4] at h4; omega
        · rw [if_neg a4] at h4
          rw [if_neg (by omega), if_neg (by omega)]
          exact ih h3 h4
def ov (n : Nk) : List Int := [n.a 0, n.a 1, n.a 2, n.a 3, n.a 4, n.a 5, n.a 6, n.a 7, n.a 8, n.a 9, n.a 10, n.a 11, n.a 12, n.a 13, b2i n.hb, n.a 14, n.a 16, n.a 17, n.a 18]
theorem orI_apps : ∀ (l r : List Int), orI (l ++ r) = bif orI l == 0 then orI r else orI l
 | [], r => rfl
 | x :: l, r => by
  show (bif x != 0 then x else orI (l ++ r)) = bif (bif x != 0 then x else orI l) == 0 then orI r else (bif x != 0 then x else orI l)
  cases h : x != 0 with
  | true =>
   have : (x == 0) = false := by simpa using h
   simp [this]
  | false => simpa using orI_apps l r
theorem orI_mid (A E R : List Int) : orI (A ++ (orI E :: R)) = orI (A ++ (E ++ R)) := by
 rw [orI_apps, orI_apps A (E ++ R), orI_apps E R]
 have : orI (orI E :: R) = bif orI E == 0 then orI R else orI E := by
  show (bif orI E != 0 then orI E else orI R) = _
  cases h : orI E == 0 with
  | true => rw [show (orI E != 0) = false by simp [bne, h]]; rfl
  | false => rw [show (orI E != 0) = true by simp [bne, h]]; rfl
 rw [this]
theorem cmpK_eq (n m : Nk) : cmpK n m = cmL (ov n) (ov m) := by
 unfold cmpK esC
 exact orI_mid [cI (n.a 0) (m.a 0), cI (n.a 1) (m.a 1)] _ [cI (n.a 12) (m.a 12), cI (n.a 13) (m.a 13), cI (b2i n.hb) (b2i m.hb), cI (n.a 14) (m.a 14), cI (n.a 16) (m.a 16), cI (n.a 17) (m.a 17), cI (n.a 18) (m.a 18)]
theorem keyN_cs {n m : Nk} (h : n.cs = m.cs) : (keyN n).cs = (keyN m).cs := by
 have e : (keyN (nOf n.cs)).cs = (keyN (nOf m.cs)).cs := by rw [h]
 exact e
theorem ov_cs {n m : Nk} (h : n.cs = m.cs) : ov n = ov m := by
 have e : ov (nOf n.cs) = ov (nOf m.cs) := by rw [h]
 exact e
theorem b2i_inj {a b : Bool} (h : b2i a = b2i b) : a = b := by cases a <;> cases b <;> simp [b2i] at h ⊢
theorem ov_key {n m : Nk} (h : ov n = ov m) (hn : n.a 19 = 0 ∧ n.a 20 = 0) (hm : m.a 19 = 0 ∧ m.a 20 = 0) : n.cs = m.cs := by
 unfold ov at h
 simp only [List.cons.injEq, and_true] at h
 obtain ⟨h0, h1, h2, h3, h4, h5, h6, h7, h8, h9, h10, h11, h12, h13, h15, h14, h16, h17, h18⟩ := h
 unfold Nk.cs
 rw [h0, h1, h2, h3, h4, h5, h6, h7, h8, h9, h10, h11, h12, h13, b2i_inj h15, h14, h16, h17, h18, hn.1, hn.2, hm.1, hm.2]
theorem key_key (n : Nk) : (keyN (keyN n)).cs = (keyN n).cs := by
 have h0 : (keyN n).a 0 = n.a 0 := by
  unfold keyN kC
  rfl
 have e : keyN (keyN n) = kC (n.a 0 == 5 || n.a 0 == 2) (n.a 0 == 5) (keyN n) := by
  show kC ((keyN n).a 0 == 5 || (keyN n).a 0 == 2) ((keyN n).a 0 == 5) (keyN n) = _
  rw [h0]
 have hz : ∀ i, (keyN (keyN n)).a i = (keyN n).a i := by
  intro i
  rw [e]
  unfold keyN kC
  simp only []
  cases Nat.beq i 19 || Nat.beq i 20 <;> cases Nat.ble 2 i && (Nat.ble i 11 && (n.a 0 == 5 || n.a 0 == 2)) <;> cases Nat.beq i 18 && n.a 0 == 5 <;> rfl
 unfold Nk.cs
 simp only [hz]
 rfl
def KyOk (s : SV) : Prop := s = .agg (nE s).cs ∧ okN (nE s) ∧ (keyN (nE s)).cs = (nE s).cs
theorem nE_agg (n : Nk) : (nE (.agg n.cs)).cs = n.cs := rfl
theorem key_zero {n : Nk} (h : (keyN n).cs = n.cs) : n.a 19 = 0 ∧ n.a 20 = 0 := by
 unfold Nk.cs at h
 simp only [List.cons.injEq, SV.int.injEq, true_and, and_true] at h
 obtain ⟨-, -, -, -, -, -, -, -, -, -, -, -, -, -, -, -, -, -, -, h1, h2⟩ := h
 exact ⟨h1.symm, h2.symm⟩
def cf (x y : SV) : Int := cmpK (keyN (nE x)) (keyN (nE y))
theorem cf_eq (x y : SV) : cf x y = cmL (ov (keyN (nE x))) (ov (keyN (nE y))) := cmpK_eq _ _
theorem cf_self (x : SV) : cf x x = 0 := by rw [cf_eq, cmL_self]
theorem cf_anti (x y : SV) : cf y x = - cf x y := by rw [cf_eq, cf_eq]; exact cmL_anti _ _ rfl
theorem cf_trans {x y z : SV} (h1 : cf x y < 0) (h2 : cf y z < 0) : cf x z < 0 := by
 rw [cf_eq] at *
 exact cmL_trans (ov (keyN (nE x))) (ov (keyN (nE y))) (ov (keyN (nE z))) rfl rfl h1 h2
theorem cf_zero {x y : SV} (h : cf x y = 0) : (keyN (nE x)).cs = (keyN (nE y)).cs := by
 rw [cf_eq] at h
 exact ov_key (cmL_eq _ _ rfl h) (key_zero (key_key _)) (key_zero (key_key _))
theorem cf_key {x y : SV} (hx : KyOk x) (hy : KyOk y) (h : cf x y = 0) : x = y := by
 have := cf_zero h
 rw [hx.2.2, hy.2.2] at this
 rw [hx.1, hy.1, this]
theorem cf_cs {x x' y y' : SV} (hx : (keyN (nE x)).cs = (keyN (nE x')).cs) (hy : (keyN (nE y)).cs = (keyN (nE y')).cs) : cf x y = cf x' y' := by
 rw [cf_eq, cf_eq, ov_cs hx, ov_cs hy]
theorem cf_ntrans {x y z : SV} (h1 : ¬ cf x y < 0) (h2 : ¬ cf y z < 0) : ¬ cf x z < 0 := by
 intro h
 have a1 := cf_anti x y
 have a2 := cf_anti y z
 by_cases e1 : cf x y = 0
 · have := cf_zero e1
   rw [cf_cs (y := z) this rfl] at h
   exact h2 h
 · have : cf y x < 0 := by omega
   exact h2 (cf_trans this h)
def sortK (es : List SV) : List SV := es.mergeSort fun x y => !decide (cf y x < 0)
end Go.Proofs.Ytkbbiaobohlogaa
