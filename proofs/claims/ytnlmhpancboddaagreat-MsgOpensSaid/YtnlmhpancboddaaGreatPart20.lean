/- Messages: the loop over the messages of a stream, valid. -/
import Derived.Test.YtnlmhpancboddaaGreatPart19
import Derived.Test.YtnlmhpancboddaaGreatPart17
set_option linter.unusedVariables false
set_option linter.unusedSimpArgs false
namespace Go.Proofs.YtnlmhpancboddaaGreat
open Go.Am
set_option maxRecDepth 100000
theorem hp1_ren {m : Nat} {es rs : List SV} {a : Int} {c5 c0 : Chunk} (h5 : renC (sw 2 8) c5 = c5) (h0 : renC (sw 2 8) c0 = c0) : ∀ x, updF [(1, some (.cells 25 [.qs 8 25 0 m])), (2, none), (5, some (.cells 3 [.int .i64 a])), (4, some c5), (0, some c0), (8, some (.seq 52 rs))] (HP1 es a m rs).get x =
  if x = 8 then (updF [(4, some c5), (0, some c0)] (HP1 es a m rs).get 2).map (renC (sw 2 8)) else if x = 2 then none else (updF [(4, some c5), (0, some c0)] (HP1 es a m rs).get x).map (renC (sw 2 8))
 | 0 => by show some c0 = some (renC (sw 2 8) c0); rw [h0]
 | 1 => rfl | 2 => rfl | 3 => rfl
 | 4 => by show some c5 = some (renC (sw 2 8) c5); rw [h5]
 | 5 => rfl | 6 => rfl | 7 => rfl | 8 => rfl
 | x + 9 => by
  have h1 : ∀ k, k < 9 → ¬ (x + 9 = k) := fun k hk => by omega
  have h2 : ∀ k, k < 9 → Nat.beq k (x + 9) = false := fun k hk => nb_f (by omega)
  simp only [updF, HP1, HpL.get, h1 8 (by omega), h1 5 (by omega), h1 4 (by omega), h1 2 (by omega), h1 1 (by omega), h1 0 (by omega), if_false, h2 0 (by omega), h2 1 (by omega), h2 1 (by omega), h2 2 (by omega), h2 3 (by omega), h2 4 (by omega), h2 5 (by omega), h2 6 (by omega), h2 7 (by omega), cond_false, Option.map_none]
theorem lrp_ren {es : List SV} {st : LS} : renC (sw 2 8) (lrp 1 st es) = lrp 1 st es := rfl
theorem lrp_no {es : List SV} {st : LS} : 8 ∉ namesC (lrp 1 st es) := by
 have : namesC (lrp 1 st es) = [1, 3, 4, 5, 6, 7] := rfl
 rw [this]; decide
theorem hp1_no {m : Nat} {es rs : List SV} {a : Int} : ∀ x c, (HP1 es a m rs).get x = some c → 8 ∉ namesC c := by
 intro x c hx
 have := HpL_get_some _ _ _ hx
 simp only [HP1, List.mem_cons, Prod.mk.injEq, List.not_mem_nil, or_false] at this
 rcases this with ⟨_, rfl⟩ | ⟨_, rfl⟩ | ⟨_, rfl⟩ | ⟨_, rfl⟩ | ⟨_, rfl⟩ | ⟨_, rfl⟩ | ⟨_, rfl⟩ | ⟨_, rfl⟩
 · exact lrp_no
 all_goals simp [namesC, namesL, namesS]
theorem nonep_ren {m : Nat} {es rs : List SV} {a : Int} : Renamed (HP1 es a m rs) (.tup [.int .i64 1]) [] (.tup [.int .i64 1]) [(1, some (.cells 25 [.qs 8 25 0 m])), (2, none), (5, some (.cells 3 [.int .i64 a])), (8, some (.seq 52 rs))] := by
 refine ⟨2, 8, by simp [HP1], by simp [namesS, namesL], fun x c hx => hp1_no x c hx, rfl, fun x => ?_⟩
 have := hp1_ren (m := m) (es := es) (rs := rs) (a := a) (c5 := .cells 28 [.int .i64 0, .int .i64 0]) (c0 := lrp 1 .ready es) rfl lrp_ren x
 have e : ∀ x, updF [(4, some (.cells 28 [.int .i64 0, .int .i64 0])), (0, some (lrp 1 .ready es))] (HP1 es a m rs).get x = (HP1 es a m rs).get x := by
  intro x
  match x with
  | 0 => rfl | 1 => rfl | 2 => rfl | 3 => rfl | 4 => rfl
  | x + 5 => simp only [updF, show ¬ (x + 5 = 0) by omega, show ¬ (x + 5 = 4) by omega, if_false]
 rw [e, e] at this
 show updF [(1, some (.cells 25 [.qs 8 25 0 m])), (2, none), (5, some (.cells 3 [.int .i64 a])), (8, some (.seq 52 rs))] (HP1 es a m rs).get x = if x = 8 then ((HP1 es a m rs).get 2).map (renC (sw 2 8)) else if x = 2 then none else ((HP1 es a m rs).get x).map (renC (sw 2 8))
 rw [← this]
 match x with
 | 0 => rfl | 1 => rfl | 2 => rfl | 3 => rfl | 4 => rfl
 | x + 5 => simp only [updF, show ¬ (x + 5 = 0) by omega, show ¬ (x + 5 = 4) by omega, if_false]
theorem badp_ren {m : Nat} {es rs : List SV} {e a : Int} : Renamed (HP1 es a m rs) (.tup [.int .i64 1]) [(4, some (.cells 28 [.int .i64 e, .int .i64 a])), (3, some (.cells 22 [.nils])), (1, some (.cells 25 [.qs 2 25 0 m])), (0, some (lrp 1 (.done .ret) es))] (.tup [.int .i64 1])
  [(1, some (.cells 25 [.qs 8 25 0 m])), (2, none), (5, some (.cells 3 [.int .i64 a])), (4, some (.cells 28 [.int .i64 e, .int .i64 a])), (0, some (lrp 1 (.done .ret) es)), (8, some (.seq 52 rs))] := by
 have e' : ∀ x, updF [(4, some (.cells 28 [.int .i64 e, .int .i64 a])), (3, some (.cells 22 [.nils])), (1, some (.cells 25 [.qs 2 25 0 m])), (0, some (lrp 1 (.done .ret) es))] (HP1 es a m rs).get x = updF [(4, some (.cells 28 [.int .i64 e, .int .i64 a])), (0, some (lrp 1 (.done .ret) es))] (HP1 es a m rs).get x := by
  intro x
  match x with
  | 0 => rfl | 1 => rfl | 2 => rfl | 3 => rfl | 4 => rfl
  | x + 5 => simp only [updF, show ¬ (x + 5 = 0) by omega, show ¬ (x + 5 = 1) by omega, show ¬ (x + 5 = 3) by omega, show ¬ (x + 5 = 4) by omega, if_false]
 refine ⟨2, 8, by simp [HP1], by simp [namesS, namesL], fun x c hx => ?_, rfl, fun x => ?_⟩
 · rw [e'] at hx
   simp only [updF] at hx
   by_cases h0 : x = 0
   · rw [if_pos h0] at hx; cases hx; exact lrp_no
   · rw [if_neg h0] at hx
     by_cases h5 : x = 4
     · rw [if_pos h5] at hx; cases hx; simp [namesC, namesL, namesS]
     · rw [if_neg h5] at hx; exact hp1_no x c hx
 · rw [e', e']; exact hp1_ren rfl lrp_ren x
theorem spp_case {args : List SV} {H : HpL} {r : SV × List (Nat × Option Chunk)} (h : crun (spp_s args H) = some r) :
  (∃ es a, args = [.yl 0, .ptr 5 0, .ptr 6 0] ∧ H = HP0 es a ∧ spOp es a [] ∧ crun (sp0p es (spL es a.toNat [])) = some r) ∨
  ∃ es a rs, args = [.yl 0, .ptr 6 0, .ptr 7 0] ∧ H = HP1 es a rs.length rs ∧ spOp es a rs ∧ crun (sp1p es (spL es a.toNat rs)) = some r := by
 unfold spp_s at h
 split at h
 · rename_i b c
   split at h
   · rename_i es a hp
     rw [crun_ite] at h
     cases hc : dec (b = 5 ∧ c = 6 ∧ H = HP0 es a ∧ spOp es a []) with
     | false => rw [hc] at h; cases h
     | true =>
      rw [hc] at h
      obtain ⟨rfl, rfl, rfl, h3⟩ := dec_iff.1 hc
      exact .inl ⟨es, a, rfl, rfl, h3, h⟩
   · rename_i es a m rs hp
     rw [crun_ite] at h
     cases hc : dec (b = 6 ∧ c = 7 ∧ H = HP1 es a m rs ∧ m = rs.length ∧ spOp es a rs) with
     | false => rw [hc] at h; cases h
     | true =>
      rw [hc] at h
      obtain ⟨rfl, rfl, rfl, rfl, h3⟩ := dec_iff.1 hc
      exact .inr ⟨es, a, rs, rfl, rfl, h3, h⟩
   · cases h
 · cases h
theorem spp_valid : ValidL Tryz.prog e31p := loop_valid2 (κ := κsp) (ι := ιsp) (T := ltab []) (sp := true) (fuel := 300) (c := c31) (μ := sppM) spOk2 mixTry ltab_nil (show fillC (ltab []) c31 = c31 by kernel_rfl) (by
 intro N args H v' ups' hbt hr
 rcases spp_case hr with ⟨es, a, rfl, rfl, ho, hr⟩ | ⟨es, a, rs, rfl, rfl, ho, hr⟩
 · have hN : Nat.blt (es.length - a.toNat) (N + 1) = true := hbt
   rw [Nat.blt_eq] at hN
   obtain ⟨hb, hl, h0, h1, hz⟩ := ho
   have hrd := spp_t0 N es a
   rw [hdCp_ok hb hl h0 h1] at hrd
   rw [spL_step] at hr
   have hcs := hdP_cases (es.drop a.toNat)
   have hdl : (es.drop a.toNat).length = es.length - a.toNat := List.length_drop
   generalize hh : hdP (es.drop a.toNat) = q at *
   by_cases e2 : q.2 = 0
   · rw [show (q.2 == 0) = true by simpa using e2, cond_true, cond_true] at hrd
     rw [show (q.2 != 0) = false by simpa using e2, cond_false] at hr
     by_cases e1 : q.1 = 0
     · rw [show (q.1 == 0) = true by simpa using e1, cond_true] at hrd hr
       cases hr
       exact .inl ⟨_, congrArg crun hrd, fun x => rfl⟩
     · rw [show (q.1 == 0) = false by simpa using e1, cond_false] at hrd hr
       obtain ⟨s1, s2, s3⟩ := (hcs e2).resolve_left e1
       rw [rdCp_ok (byl_dr hb _) (by omega) s1 s2] at hrd
       generalize rdP (dg (es.drop a.toNat) 18) (sl (es.drop a.toNat) 19 (q.1.toNat - 19)) = w at *
       by_cases e3 : w.2 = 0
       · rw [show (w.2 != 0) = false by simpa using e3, cond_false] at hrd hr
         have hw : w64 (a + q.1) = a + q.1 := w64_id (by omega) (by omega)
         have ht : (a + q.1).toNat = a.toNat + q.1.toNat := by omega
         unfold spT0p at hrd
         rw [hw, ht, show Nat.blt (es.length - (a.toNat + q.1.toNat)) N = true by rw [Nat.blt_eq]; omega, cond_true, dec_iff.2 ⟨rfl, rfl, rfl, rfl, hb, hl, by omega, by omega, by simp; omega⟩, cond_true] at hrd
         rw [List.nil_append] at hr
         have hlen : 1 ≤ (spL es (a.toNat + q.1.toNat) [mgV w.1]).2.2.length := spF_len _ _ _ [mgV w.1]
         generalize spL es (a.toNat + q.1.toNat) [mgV w.1] = r at *
         simp only [] at hrd
         unfold sp0p at hr
         rw [crun_ite, decide_eq_false (show ¬ r.2.2.length = 0 by omega), cond_false, crun_ite] at hr
         cases he : r.1 == 0 with
         | true =>
          rw [he] at hr hrd
          cases hr
          refine .inl ⟨_, congrArg crun hrd, sp_low 8 rfl rfl (fun i hi => ?_)⟩
          match i with
          | 0 => rfl | 1 => rfl | 2 => rfl | 3 => rfl | 4 => rfl | 5 => rfl | 6 => rfl | 7 => rfl
          | i + 8 => omega
         | false =>
          rw [he] at hr hrd
          cases hr
          refine .inl ⟨_, congrArg crun hrd, sp_low 8 rfl rfl (fun i hi => ?_)⟩
          match i with
          | 0 => rfl | 1 => rfl | 2 => rfl | 3 => rfl | 4 => rfl | 5 => rfl | 6 => rfl | 7 => rfl
          | i + 8 => omega
       · rw [show (w.2 != 0) = true by simpa using e3, cond_true] at hrd hr
         unfold badRp at hrd
         rw [show (w.2 != 0) = true by simpa using e3, cond_true] at hrd
         unfold sp0p at hr
         rw [crun_ite, decide_eq_true (show (([] : List SV).length = 0) from rfl), cond_true, crun_ite, show (w.2 == 0) = false by simpa using e3] at hr
         cases hr
         refine .inl ⟨_, congrArg crun hrd, sp_low 8 rfl rfl (fun i hi => ?_)⟩
         have ha : ((a.toNat : Nat) : Int) = a := by omega
         match i with
         | 0 => rfl | 1 => rfl | 2 => rfl
         | 3 => show some (Chunk.cells 28 [SV.int .i64 w.2, SV.int .i64 ((a.toNat : Nat) : Int)]) = _; rw [ha]; rfl
         | 4 => rfl | 5 => rfl | 6 => rfl | 7 => rfl
         | i + 8 => omega
   · rw [show (q.2 == 0) = false by simpa using e2, cond_false, cond_false] at hrd
     rw [show (q.2 != 0) = true by simpa using e2, cond_true] at hr hrd
     unfold badRp at hrd
     rw [show (q.2 != 0) = true by simpa using e2, cond_true] at hrd
     unfold sp0p at hr
     rw [crun_ite, decide_eq_true (show (([] : List SV).length = 0) from rfl), cond_true, crun_ite, show (q.2 == 0) = false by simpa using e2] at hr
     cases hr
     refine .inl ⟨_, congrArg crun hrd, sp_low 8 rfl rfl (fun i hi => ?_)⟩
     have ha : ((a.toNat : Nat) : Int) = a := by omega
     match i with
     | 0 => rfl | 1 => rfl | 2 => rfl
     | 3 => show some (Chunk.cells 28 [SV.int .i64 q.2, SV.int .i64 ((a.toNat : Nat) : Int)]) = _; rw [ha]; rfl
     | 4 => rfl | 5 => rfl | 6 => rfl | 7 => rfl
     | i + 8 => omega
 · have hN : Nat.blt (es.length - a.toNat) (N + 1) = true := hbt
   rw [Nat.blt_eq] at hN
   obtain ⟨hb, hl, h0, h1, hz⟩ := ho
   have hrd := spp_t1 N rs.length es rs a
   have ha : ((a.toNat : Nat) : Int) = a := by omega
   rw [hdCp_ok hb hl h0 h1] at hrd
   rw [spL_step] at hr
   have hcs := hdP_cases (es.drop a.toNat)
   have hdl : (es.drop a.toNat).length = es.length - a.toNat := List.length_drop
   generalize hh : hdP (es.drop a.toNat) = q at *
   by_cases e2 : q.2 = 0
   · rw [show (q.2 == 0) = true by simpa using e2, cond_true, cond_true] at hrd
     rw [show (q.2 != 0) = false by simpa using e2, cond_false] at hr
     by_cases e1 : q.1 = 0
     · rw [show (q.1 == 0) = true by simpa using e1, cond_true] at hrd hr
       unfold sp1p at hr
       rw [crun_ite, show ((0 : Int) == 0) = true from rfl] at hr
       simp only [ha] at hr
       cases hr
       exact .inr ⟨_, _, congrArg crun hrd, nonep_ren⟩
     · rw [show (q.1 == 0) = false by simpa using e1, cond_false] at hrd hr
       obtain ⟨s1, s2, s3⟩ := (hcs e2).resolve_left e1
       rw [rdCp_ok (byl_dr hb _) (by omega) s1 s2] at hrd
       generalize rdP (dg (es.drop a.toNat) 18) (sl (es.drop a.toNat) 19 (q.1.toNat - 19)) = w at *
       by_cases e3 : w.2 = 0
       · rw [show (w.2 != 0) = false by simpa using e3, cond_false] at hrd hr
         have hw : w64 (a + q.1) = a + q.1 := w64_id (by omega) (by omega)
         have ht : (a + q.1).toNat = a.toNat + q.1.toNat := by omega
         unfold spT1p at hrd
         rw [gr9_ok rfl (by omega), hw, ht, show Nat.blt (es.length - (a.toNat + q.1.toNat)) N = true by rw [Nat.blt_eq]; omega, cond_true, dec_iff.2 ⟨rfl, rfl, rfl, by simp, hb, hl, by omega, by omega, by simp; omega⟩, cond_true] at hrd
         generalize spL es (a.toNat + q.1.toNat) (rs ++ [mgV w.1]) = r at *
         simp only [] at hrd
         unfold sp1p at hr
         rw [crun_ite] at hr
         cases he : r.1 == 0 with
         | true =>
          rw [he] at hr hrd
          cases hr
          refine .inl ⟨_, congrArg crun hrd, sp_low 9 rfl rfl (fun i hi => ?_)⟩
          match i with
          | 0 => rfl | 1 => rfl | 2 => rfl | 3 => rfl | 4 => rfl | 5 => rfl | 6 => rfl | 7 => rfl | 8 => rfl
          | i + 9 => omega
         | false =>
          rw [he] at hr hrd
          cases hr
          refine .inl ⟨_, congrArg crun hrd, sp_low 9 rfl rfl (fun i hi => ?_)⟩
          match i with
          | 0 => rfl | 1 => rfl | 2 => rfl | 3 => rfl | 4 => rfl | 5 => rfl | 6 => rfl | 7 => rfl | 8 => rfl
          | i + 9 => omega
       · rw [show (w.2 != 0) = true by simpa using e3, cond_true] at hrd hr
         unfold badRp at hrd
         rw [show (w.2 != 0) = true by simpa using e3, cond_true] at hrd
         unfold sp1p at hr
         rw [crun_ite, show (w.2 == 0) = false by simpa using e3] at hr
         simp only [ha] at hr
         cases hr
         exact .inr ⟨_, _, congrArg crun hrd, badp_ren⟩
   · rw [show (q.2 == 0) = false by simpa using e2, cond_false, cond_false] at hrd
     rw [show (q.2 != 0) = true by simpa using e2, cond_true] at hr hrd
     unfold badRp at hrd
     rw [show (q.2 != 0) = true by simpa using e2, cond_true] at hrd
     unfold sp1p at hr
     rw [crun_ite, show (q.2 == 0) = false by simpa using e2] at hr
     simp only [ha] at hr
     cases hr
     exact .inr ⟨_, _, congrArg crun hrd, badp_ren⟩)
end Go.Proofs.YtnlmhpancboddaaGreat
/- Messages: Split of what is known by content. -/
namespace Go.Proofs.YtnlmhpancboddaaGreat
open Go.Am
set_option maxRecDepth 100000
noncomputable abbrev Tpp : LTab := ltab [("m", e31p)]
noncomputable def splitp_b : CSumm := bodyCM Tryz.prog κsp ιsp Tpp Msp true 300 Tryz.f9 b9
theorem splitp_k0 : Known Tryz.prog 9 splitp_b :=
 ⟨⟨Tryz.f9, Tryz.func9, noNum_at noNumTry Tryz.func9, rfl⟩, bodyM_valid spOk2 mixTry (ltab_cons spp_valid ltab_nil) (mtab_cons Tryz.func31 (show Tryz.f31.body = some (fillC Tpp m31) by kernel_rfl) mtab_nil) Tryz.func9 (show Tryz.f9.body = some (fillC Tpp b9) by kernel_rfl)⟩
noncomputable def restCp (es : List SV) (e : Int) (K : Nat → List SV → CTree) : CTree := slI es e es.length fun q => (bif lenO (([] : List SV).length + q.length) then K (([] : List SV).length + q.length) ([] ++ q) else .fail)
noncomputable def splitKp (es : List SV) (r : Int × Nat × List SV) : CTree :=
 bif decide (r.2.2.length = 0) then (bif r.1 == 0 then restCp es 0 fun k xs => .ret (.tup [.nils, .qs 0 1 0 k, fl0]) [(0, some (.seq 5 xs))] else .ret (.tup [.nils, .nils, .agg [.int .i64 r.1, .int .i64 r.2.1]]) [])
 else bif r.1 == 0 then restCp es r.2.1 fun k xs => .ret (.tup [.qs 0 25 0 r.2.2.length, .qs 1 1 0 k, fl0]) [(0, some (.seq 52 r.2.2)), (1, some (.seq 5 xs))] else .ret (.tup [.qs 0 25 0 r.2.2.length, .nils, .agg [.int .i64 r.1, .int .i64 r.2.1]]) [(0, some (.seq 52 r.2.2))]
theorem splitp_t (es : List SV) : splitp_b [.psl 5 es] [] = bif dec (5 = 5 ∧ 6 = 6 ∧ HP0 es 0 = HP0 es 0 ∧ spOp es 0 []) then splitKp es (spL es (0 : Int).toNat []) else .fail := by kernel_rfl
theorem restCp_ok {es : List SV} {a : Nat} {e : Int} (he : e = a) (hl : es.length ≤ 1000000) (ha : a ≤ es.length) (K : Nat → List SV → CTree) : restCp es e K = K (es.drop a).length (es.drop a) := by
 subst he
 unfold restCp
 rw [slI_ok (a := (a : Int)) (b := (es.length : Int)) (i := a) (j := es.length) rfl rfl ha (Nat.le_refl _), sl_end, List.length_nil, Nat.zero_add, lenO_t (by rw [List.length_drop]; omega), cond_true, List.nil_append]
noncomputable def splitRp (es : List SV) (r : Int × Nat × List SV) : CTree :=
 .ite (r.1 == 0) (.ret (.tup [.psl 52 r.2.2, .qs 0 1 0 (es.drop r.2.1).length, fl0]) [(0, some (.seq 5 (es.drop r.2.1)))]) (.ret (.tup [.psl 52 r.2.2, .nils, .agg [.int .i64 r.1, .int .i64 r.2.1]]) [])
noncomputable def splitTp (es : List SV) (r : Int × Nat × List SV) : CTree :=
 .ite (r.1 == 0) (.ite (decide (r.2.2.length = 0)) (.ret (.tup [.psl 52 r.2.2, .qs 0 1 0 (es.drop r.2.1).length, fl0]) [(0, some (.seq 5 (es.drop r.2.1)))]) (.ret (.tup [.psl 52 r.2.2, .qs 1 1 0 (es.drop r.2.1).length, fl0]) [(1, some (.seq 5 (es.drop r.2.1)))]))
  (.ret (.tup [.psl 52 r.2.2, .nils, .agg [.int .i64 r.1, .int .i64 r.2.1]]) [])
noncomputable def splittp_s : CSumm := fun args H => match args, H with
 | [.psl 5 es], [] => .ite (dec (byl es ∧ es.length ≤ 1000000)) (splitTp es (spL es 0 [])) .fail
 | _, _ => .fail
theorem splittp_k : Known Tryz.prog 9 splittp_s := known_told splitp_k0 (by
 intro args H v' ups' h
 unfold splittp_s at h
 split at h
 · rename_i es
   rw [crun_ite] at h
   cases hc : dec (byl es ∧ es.length ≤ 1000000) with
   | false => rw [hc] at h; cases h
   | true =>
    rw [hc, cond_true] at h
    obtain ⟨hb, hl⟩ := dec_iff.1 hc
    have ht := splitp_t es
    rw [dec_iff.2 ⟨rfl, rfl, rfl, hb, hl, by omega, by omega, by simp; omega⟩, cond_true, show (0 : Int).toNat = 0 from rfl] at ht
    obtain ⟨a1, a2, a3⟩ := spF_at (es.length - 0) es 0 [] (Nat.zero_le _)
    have a3' : (spL es 0 []).2.2.length = 0 → (spL es 0 []).2.1 = 0 := a3
    have a2' : (spL es 0 []).2.1 ≤ es.length := a2
    generalize spL es 0 [] = r at *
    unfold splitKp at ht
    unfold splitTp at h
    rw [crun_ite] at h
    by_cases hk : r.2.2.length = 0
    · rw [decide_eq_true hk, cond_true] at ht
      have hz := a3' hk
      have hr : r.2.2 = [] := List.length_eq_zero_iff.1 hk
      rw [hr] at h
      cases he : r.1 == 0 with
      | true =>
       rw [he, cond_true, restCp_ok (e := 0) (a := 0) (by decide) hl (Nat.zero_le _)] at ht
       rw [he, cond_true, crun_ite, decide_eq_true (show ([] : List SV).length = 0 from rfl), cond_true, hz] at h
       cases h
       exact ⟨_, _, congrArg crun ht, .inr ⟨.tup (.cons .nils .rfl'), fun x c' hx => ⟨c', hx, .rfl'⟩⟩⟩
      | false =>
       rw [he, cond_false] at ht
       rw [he, cond_false] at h
       cases h
       exact ⟨_, _, congrArg crun ht, .inr ⟨.tup (.cons .nils .rfl'), fun x c' hx => ⟨c', hx, .rfl'⟩⟩⟩
    · rw [decide_eq_false hk, cond_false] at ht
      cases he : r.1 == 0 with
      | true =>
       rw [he, cond_true, restCp_ok (a := r.2.1) rfl hl a2'] at ht
       rw [he, cond_true, crun_ite, decide_eq_false hk, cond_false] at h
       cases h
       refine ⟨_, _, congrArg crun ht, .inl ⟨0, 52, r.2.2, rfl, .tup (.cons (.qs rfl) .rfl'), fun x c' hx => ?_⟩⟩
       simp only [updF] at hx
       by_cases h2 : x = 1
       · subst h2; exact ⟨by decide, c', hx, .rfl'⟩
       · rw [if_neg h2] at hx
         simp [HpL.get] at hx
      | false =>
       rw [he, cond_false] at ht
       rw [he, cond_false] at h
       cases h
       refine ⟨_, _, congrArg crun ht, .inl ⟨0, 52, r.2.2, rfl, .tup (.cons (.qs rfl) .rfl'), fun x c' hx => ?_⟩⟩
       simp [updF, HpL.get] at hx
 · cases h)
noncomputable def splitp_s : CSumm := fun args H => match args, H with
 | [.psl 5 es], [] => .ite (dec (byl es ∧ es.length ≤ 1000000)) (splitRp es (spL es 0 [])) .fail
 | _, _ => .fail
theorem splitp_ren {xs rs : List SV} {k : Nat} : Renamed [] (.tup [.psl 52 rs, .qs 1 1 0 k, fl0]) [(1, some (.seq 5 xs))] (.tup [.psl 52 rs, .qs 0 1 0 k, fl0]) [(0, some (.seq 5 xs))] := by
 refine ⟨1, 0, by simp, by simp [namesS, namesL, fl0], fun x c hx => ?_, rfl, fun x => ?_⟩
 · simp only [updF] at hx
   by_cases h2 : x = 1
   · rw [if_pos h2] at hx; cases hx; simp [namesC]
   · rw [if_neg h2] at hx
     simp [HpL.get] at hx
 · match x with
   | 0 => rfl | 1 => rfl
   | x + 2 =>
    simp only [updF, HpL.get, show ¬ (x + 2 = 1) by omega, show ¬ (x + 2 = 0) by omega, if_false, Option.map_none]
theorem splitp_k : Known Tryz.prog 9 splitp_s := known_ren splittp_k (by
 intro args H v' ups' h
 unfold splitp_s at h
 split at h
 · rename_i es
   rw [crun_ite] at h
   cases hc : dec (byl es ∧ es.length ≤ 1000000) with
   | false => rw [hc] at h; cases h
   | true =>
    rw [hc, cond_true] at h
    have run : ∀ t, crun (splitTp es (spL es 0 [])) = t → crun (splittp_s [.psl 5 es] []) = t := fun t ht => by
     show crun (.ite (dec (byl es ∧ es.length ≤ 1000000)) (splitTp es (spL es 0 [])) .fail) = _
     rw [crun_ite, hc]; exact ht
    generalize spL es 0 [] = r at *
    unfold splitRp at h
    unfold splitTp at run
    rw [crun_ite] at h run
    cases he : r.1 == 0 with
    | true =>
     rw [he, cond_true] at h run
     rw [crun_ite] at run
     by_cases hk : r.2.2.length = 0
     · rw [decide_eq_true hk] at run
       exact .inl ⟨_, run _ h, fun x => rfl⟩
     · rw [decide_eq_false hk] at run
       cases h
       exact .inr ⟨_, _, run _ rfl, splitp_ren⟩
    | false =>
     rw [he, cond_false] at h run
     exact .inl ⟨_, run _ h, fun x => rfl⟩
 · cases h)
noncomputable def split2_s : CSumm := fun args H => match args, H with
 | [.qs 0 1 0 n], [(0, .seq 5 es)] => .ite (dec (byl es ∧ n = es.length ∧ es.length ≤ 1000000)) (splitR es (spL es 0 [])) .fail
 | [.psl 5 es], [] => .ite (dec (byl es ∧ es.length ≤ 1000000)) (splitRp es (spL es 0 [])) .fail
 | _, _ => .fail
theorem split2_k : Known Tryz.prog 9 split2_s := known_or split_k splitp_k (by
 intro args H v ups h
 unfold split2_s at h
 split at h
 · exact .inl h
 · exact .inr h
 · cases h)
end Go.Proofs.YtnlmhpancboddaaGreat
/- MsgPieces: its loop: what it comes to; a round. -/
namespace Go.Proofs.YtnlmhpancboddaaGreat
open Go.Am
set_option maxRecDepth 100000
def pckB (x n : Int) : Bool := decide (x.tmod n < 0)
def pck (x n : Int) : Int := bif pckB x n then w64 (x.tmod n + n) else x.tmod n
theorem pick_t (x n : Int) : opn (tbl []) Tryz.f12 [.int .i64 x, .int .i64 n] [] = bif n == 0 then .fail else bif pckB x n then .ret (.int .i64 (w64 (x.tmod n + n))) [] else .ret (.int .i64 (x.tmod n)) [] := by kernel_rfl
def pick_s : CSumm := fun args H => match args, H with
 | [.int .i64 x, .int .i64 n], [] => .ite (decide (0 < n)) (.ret (.int .i64 (pck x n)) []) .fail
 | _, _ => .fail
theorem pick_k : Known Tryz.prog 12 pick_s := (openKnown ok0 Tryz.func12 rfl).weak (by
 intro args H v ups h
 unfold pick_s at h
 split at h
 · rename_i x n
   rw [crun_ite] at h
   cases hc : decide (0 < n) with
   | false => rw [hc] at h; cases h
   | true =>
    rw [hc] at h
    have h1 := of_decide_eq_true hc
    rw [pick_t, show (n == 0) = false by rw [beq_eq_false_iff_ne]; omega, cond_false]
    unfold pck at h
    generalize pckB x n = q at *
    cases q <;> exact h
 · cases h)
theorem pck_rng {x n : Int} (h0 : 0 < n) (h1 : n ≤ 1000000) : 0 ≤ pck x n ∧ pck x n < n := by
 have h2 : x.tmod n < n := Int.tmod_lt_of_pos x h0
 have h3 : -n < x.tmod n := by
  have := Int.tmod_lt_of_pos (-x) h0
  rw [Int.neg_tmod] at this
  omega
 unfold pck pckB
 by_cases h : x.tmod n < 0
 · rw [decide_eq_true h, cond_true, show w64 (x.tmod n + n) = x.tmod n + n from w64_id (by omega) (by omega)]; omega
 · rw [decide_eq_false h, cond_false]; omega
noncomputable def body4 : Code := Tryz.f4.body.getD .skip
noncomputable def c4 : Code := (loopAt 10 body4).getD .skip
noncomputable def fltA (r : Int × Nat × List SV) : Int := bif r.1 == 0 then 0 else r.2.1
def mpInv (b sz ms : List SV) (fe fa : Int) (gs hs : List SV) (at_ dn i : Int) : Prop :=
 byl b ∧ b.length ≤ 9000 ∧ sz.length ≤ 40 ∧ ms = (spL b 0 []).2.2 ∧ fe = (spL b 0 []).1 ∧ fa = fltA (spL b 0 []) ∧ 0 ≤ i ∧ i ≤ (sz.length : Int) + 1 ∧ 0 ≤ at_ ∧ at_ ≤ b.length ∧ 0 ≤ dn ∧
 spL (b.take at_.toNat) 0 [] = (0, dn.toNat, gs) ∧ hs = (b.take at_.toNat).drop dn.toNat ∧ (i = (sz.length : Int) + 1 → at_ = b.length)
noncomputable def mp_s : CSumm := fun args H => match args, H with
 | [.psl 5 b, .psl 3 sz, .psl 52 ms, .ptr 0 0, .qs 1 25 0 g, .qs 2 1 0 h, .int .i64 at_, .int .i64 dn, .int .i64 i], [(0, .cells 28 [.int .i64 fe, .int .i64 fa]), (1, .seq 52 gs), (2, .seq 5 hs)] =>
  .ite (dec (g = gs.length ∧ h = hs.length ∧ mpInv b sz ms fe fa gs hs at_ dn i)) (.ite ((spL b 0 []).1 == 0)
  (.ret (.tup [.int .i64 2, .junk, .psl 52 ms, .ptr 0 0, .qs 3 25 0 ms.length, .qs 4 1 0 (b.drop (spL b 0 []).2.1).length]) [(1, none), (2, none), (3, some (.seq 52 ms)), (4, some (.seq 5 (b.drop (spL b 0 []).2.1)))])
  (.ret (.tup [.int .i64 1, .bool true, .junk, .junk, .junk, .junk]) [(0, none), (1, none), (2, none)])) .fail
 | _, _ => .fail
noncomputable def e4 : LEnt := { ins := [0, 1, 5, 7, 8, 9, 10, 11, 12], outs := [4, 5, 7, 8, 9], keep := [6], size := 141, code := c4, s := mp_s }
end Go.Proofs.YtnlmhpancboddaaGreat
/- MsgPieces: a round of its loop. -/
namespace Go.Proofs.YtnlmhpancboddaaGreat
open Go.Am
set_option maxRecDepth 100000
noncomputable def elC (l m : Nat) (es : List SV) (K : List SV → CTree) : CTree := bif decide (l = 0) && decide (m = es.length) then K es else bif decide (l + m ≤ es.length) then K ((es.drop l).take m) else .fail
end Go.Proofs.YtnlmhpancboddaaGreat
/- MsgPieces: its loop: what is read is small, and not too much. -/
namespace Go.Proofs.YtnlmhpancboddaaGreat
open Go.Am
set_option maxRecDepth 100000
theorem elC_at {l m : Nat} {es : List SV} (h : l + m ≤ es.length) (K : List SV → CTree) : elC l m es K = K ((es.drop l).take m) := by
 unfold elC
 by_cases h0 : l = 0 ∧ m = es.length
 · obtain ⟨rfl, rfl⟩ := h0
   rw [decide_eq_true rfl, decide_eq_true rfl, List.drop_zero, List.take_length]; rfl
 · rw [decide_eq_true h]
   by_cases h1 : l = 0
   · rw [decide_eq_false (show ¬ m = es.length from fun h2 => h0 ⟨h1, h2⟩), Bool.and_false]; rfl
   · rw [decide_eq_false h1, Bool.false_and]; rfl
end Go.Proofs.YtnlmhpancboddaaGreat
/- MsgOpens: an OPEN's bytes, as a summary; the loop over the capabilities that are added. -/
namespace Go.Proofs.YtnlmhpancboddaaGreat
open Go.Am
set_option maxRecDepth 100000
def opMsg (s : Cs) : List SV := ffs ++ be (19 + ((opnL s).length : Int)) 2 ++ be 1 1 ++ opnL s
noncomputable def byO_s : CSumm := fun args H => match args, H with
 | [x], [] => match opOf x with
  | some s => .ite (dec (opOk s)) (.ret (.tup [.qs 0 1 0 (opMsg s).length, .int .i64 0]) [(0, some (.seq 5 (opMsg s)))]) .fail
  | none => .fail
 | _, _ => .fail
theorem ffs_len : ffs.length = 16 := rfl
theorem oWF_ok (K : Nat → List SV → CTree) : oWF 16 ffs K = K ffs.length ffs := by
 unfold oWF; rw [decide_eq_true ffs_len.symm, cond_true, decide_eq_true (by rw [ffs_len]; decide), cond_true]
theorem byO_k : Known Tryz.prog 13 byO_s := (openKnown byOk Tryz.func13 rfl).weak (by
 intro args H v ups h
 unfold byO_s at h
 split at h
 · rename_i x
   split at h
   · rename_i s hs
     rw [crun_ite] at h
     cases hc : dec (opOk s) with
     | false => rw [hc] at h; cases h
     | true =>
      rw [hc, cond_true] at h
      rw [opOf_h hs]
      refine (congrArg crun (by_t s)).trans ?_
      obtain ⟨l0, l1⟩ := capL_le s
      have hl := opnL_len s
      unfold byT
      rw [hc, cond_true, cond_true, ← h]
      simp only []
      unfold opMsg
      generalize opnL s = B at *
      have hw : w64 (19 + (B.length : Int)) = 19 + B.length := w64_id (by omega) (by omega)
      rw [oWF_ok, hw, wu64_id (show 0 ≤ 19 + (B.length : Int) by omega) (by omega), oWB_ok (by omega) (by omega) (by rw [ffs_len]; decide) (by decide), oWB_ok (by decide) (by decide) (by simp only [List.length_append, be_len, ffs_len]; decide) (by decide), oWP_ok (by simp only [List.length_append, be_len, ffs_len]; omega), oWO_ok (by simp only [List.length_append, be_len, ffs_len]; omega)]
   · cases h
 · cases h)
/- The loop. -/
noncomputable def body5 : Code := Tryz.f5.body.getD .skip
noncomputable def c5 : Code := (loopAt 11 body5).getD .skip
def adH (c : SV) (v : List SV) : List SV := [.int .u8 (w8 (w64 (100 + pck (asI c) 100))), .int .u8 (w8 (v.length : Int))]
def adF : Nat → List SV → List SV → Nat → List SV → Option (List SV)
 | 0, _, _, _, hs => some hs
 | f + 1, cs, bs, i, hs => bif decide (((asL (bs.getD i .junk)).length : Int) > 20) then none else adF f cs bs (i + 1) (hs ++ adH (cs.getD i .junk) (asL (bs.getD i .junk)) ++ asL (bs.getD i .junk))
def adOk (cs bs : List SV) (i : Int) (hs : List SV) : Prop := cs.length ≤ 6 ∧ cs.length ≤ bs.length ∧ 0 ≤ i ∧ i ≤ cs.length ∧ (hs.length : Int) ≤ 22 * i
noncomputable def ad_s : CSumm := fun args H => match args, H with
 | [.psl 3 cs, .psl 22 bs, .qs 0 1 0 n, .int .i64 i], [(0, .seq 5 hs)] => .ite (dec (n = hs.length ∧ adOk cs bs i hs)) (.ite (adF (cs.length - i.toNat) cs bs i.toNat hs).isSome
   (.ret (.tup [.int .i64 2, .junk, .qs 1 1 0 ((adF (cs.length - i.toNat) cs bs i.toNat hs).getD []).length]) [(0, none), (1, some (.seq 5 ((adF (cs.length - i.toNat) cs bs i.toNat hs).getD [])))])
   (.ret (.tup [.int .i64 1, .bool true, .junk]) [(0, none)])) .fail
 | _, _ => .fail
def adM : List SV → HpL → Nat
 | [.psl _ cs, _, _, .int _ i], _ => cs.length - i.toNat
 | _, _ => 0
noncomputable def e5 : LEnt := { ins := [1, 2, 11, 12], outs := [8, 11], keep := [3, 4, 9], size := 162, code := c5, s := ad_s }
noncomputable abbrev κad := openT Tryz.prog (tbl [(12, pick_s)]) 300 5
noncomputable abbrev ιad : Nat → Bool := fun g => inl (tbl [(12, pick_s)]) g && hasBody Tryz.prog g
theorem adOk2 : KOk Tryz.prog κad := openT_ok noNumTry mixTry (tbl_cons pick_k ok0) 300 5
noncomputable def adN (N : Nat) (cs bs hs : List SV) (n : Nat) (i : Int) : CTree :=
 bif Nat.blt (cs.length - i.toNat) N then bif dec (n = hs.length ∧ adOk cs bs i hs) then
  (bif (adF (cs.length - i.toNat) cs bs i.toNat hs).isSome then .ret (.tup [.int .i64 2, .junk, .qs 1 1 0 ((adF (cs.length - i.toNat) cs bs i.toNat hs).getD []).length]) [(0, none), (1, some (.seq 5 ((adF (cs.length - i.toNat) cs bs i.toNat hs).getD [])))]
  else .ret (.tup [.int .i64 1, .bool true, .junk]) [(0, none)]) else .fail else .fail
theorem ad_t (N : Nat) (cs bs hs : List SV) (n : Nat) (i : Int) : loopOnce Tryz.prog κad ιad (ltab []) true 300 e5 { e5 with s := boundT adM ad_s N } c5 [.psl 3 cs, .psl 22 bs, .qs 0 1 0 n, .int .i64 i] [(0, .seq 5 hs)] =
 bif decide (i < cs.length) then bif inB i bs.length then bif decide (((asL (bs.getD i.toNat .junk)).length : Int) > 20) then .ret (.tup [.int .i64 1, .bool true, .qs 0 1 0 n]) [] else
  bif inB i cs.length then bif inB i bs.length then bif decide (n = hs.length) then bif lenO (hs.length + 2) then bif inB i bs.length then bif decide (hs.length + 2 = (hs ++ adH (cs.getD i.toNat .junk) (asL (bs.getD i.toNat .junk))).length) then bif lenO ((hs ++ adH (cs.getD i.toNat .junk) (asL (bs.getD i.toNat .junk))).length + (asL (bs.getD i.toNat .junk)).length) then
   adN N cs bs (hs ++ adH (cs.getD i.toNat .junk) (asL (bs.getD i.toNat .junk)) ++ asL (bs.getD i.toNat .junk)) ((hs ++ adH (cs.getD i.toNat .junk) (asL (bs.getD i.toNat .junk))).length + (asL (bs.getD i.toNat .junk)).length) (w64 (i + 1)) else .fail else .fail else .fail else .fail else .fail else .fail else .fail else .fail
 else .ret (.tup [.int .i64 2, .junk, .qs 0 1 0 n]) [] := by kernel_rfl
end Go.Proofs.YtnlmhpancboddaaGreat
/- MsgPieces: its loop, valid. -/
namespace Go.Proofs.YtnlmhpancboddaaGreat
open Go.Am
set_option maxRecDepth 100000
theorem CoL.junk (P : Program) : ∀ (vs : List SV), CoL P vs (vs.map fun _ => .junk)
 | [] => .nil
 | _ :: vs => .cons (fun _ _ _ _ _ _ => .junk) (CoL.junk P vs)
end Go.Proofs.YtnlmhpancboddaaGreat
