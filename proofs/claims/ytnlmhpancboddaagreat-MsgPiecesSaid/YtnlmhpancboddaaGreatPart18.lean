/- Messages: the loop over the messages of a stream, valid. -/
import Derived.Test.YtnlmhpancboddaaGreatPart17
set_option linter.unusedVariables false
set_option linter.unusedSimpArgs false
namespace Go.Proofs.YtnlmhpancboddaaGreat
open Go.Am
set_option maxRecDepth 100000
theorem hs1_ren {n m : Nat} {es rs : List SV} {a : Int} {c5 c0 : Chunk} (h5 : renC (sw 3 9) c5 = c5) (h0 : renC (sw 3 9) c0 = c0) : ∀ x, updF [(2, some (.cells 25 [.qs 9 25 0 m])), (3, none), (6, some (.cells 3 [.int .i64 a])), (5, some c5), (0, some c0), (9, some (.seq 52 rs))] (HS1 n es a m rs).get x =
  if x = 9 then (updF [(5, some c5), (0, some c0)] (HS1 n es a m rs).get 3).map (renC (sw 3 9)) else if x = 3 then none else (updF [(5, some c5), (0, some c0)] (HS1 n es a m rs).get x).map (renC (sw 3 9))
 | 0 => by show some c0 = some (renC (sw 3 9) c0); rw [h0]
 | 1 => rfl | 2 => rfl | 3 => rfl | 4 => rfl
 | 5 => by show some c5 = some (renC (sw 3 9) c5); rw [h5]
 | 6 => rfl | 7 => rfl | 8 => rfl | 9 => rfl
 | x + 10 => by
  have h1 : ∀ k, k < 10 → ¬ (x + 10 = k) := fun k hk => by omega
  have h2 : ∀ k, k < 10 → Nat.beq k (x + 10) = false := fun k hk => nb_f (by omega)
  simp only [updF, HS1, HpL.get, h1 9 (by omega), h1 6 (by omega), h1 5 (by omega), h1 3 (by omega), h1 2 (by omega), h1 0 (by omega), if_false, h2 0 (by omega), h2 1 (by omega), h2 2 (by omega), h2 3 (by omega), h2 4 (by omega), h2 5 (by omega), h2 6 (by omega), h2 7 (by omega), h2 8 (by omega), cond_false, Option.map_none]
theorem lr9_ren {n : Nat} {st : LS} : renC (sw 3 9) (lr9 1 st n) = lr9 1 st n := rfl
theorem lr9_no {n : Nat} {st : LS} : 9 ∉ namesC (lr9 1 st n) := by
 have : namesC (lr9 1 st n) = [1, 2, 4, 5, 6, 1, 7, 8] := rfl
 rw [this]; decide
theorem hs1_no {n m : Nat} {es rs : List SV} {a : Int} : ∀ x c, (HS1 n es a m rs).get x = some c → 9 ∉ namesC c := by
 intro x c hx
 have := HpL_get_some _ _ _ hx
 simp only [HS1, List.mem_cons, Prod.mk.injEq, List.not_mem_nil, or_false] at this
 rcases this with ⟨_, rfl⟩ | ⟨_, rfl⟩ | ⟨_, rfl⟩ | ⟨_, rfl⟩ | ⟨_, rfl⟩ | ⟨_, rfl⟩ | ⟨_, rfl⟩ | ⟨_, rfl⟩ | ⟨_, rfl⟩
 · exact lr9_no
 all_goals simp [namesC, namesL, namesS]
theorem none9_ren {n m : Nat} {es rs : List SV} {a : Int} : Renamed (HS1 n es a m rs) (.tup [.int .i64 1]) [] (.tup [.int .i64 1]) [(2, some (.cells 25 [.qs 9 25 0 m])), (3, none), (6, some (.cells 3 [.int .i64 a])), (9, some (.seq 52 rs))] := by
 refine ⟨3, 9, by simp [HS1], by simp [namesS, namesL], fun x c hx => hs1_no x c hx, rfl, fun x => ?_⟩
 have := hs1_ren (n := n) (m := m) (es := es) (rs := rs) (a := a) (c5 := .cells 28 [.int .i64 0, .int .i64 0]) (c0 := lr9 1 .ready n) rfl lr9_ren x
 have e : ∀ x, updF [(5, some (.cells 28 [.int .i64 0, .int .i64 0])), (0, some (lr9 1 .ready n))] (HS1 n es a m rs).get x = (HS1 n es a m rs).get x := by
  intro x
  match x with
  | 0 => rfl | 1 => rfl | 2 => rfl | 3 => rfl | 4 => rfl | 5 => rfl
  | x + 6 => simp only [updF, show ¬ (x + 6 = 0) by omega, show ¬ (x + 6 = 5) by omega, if_false]
 rw [e, e] at this
 show updF [(2, some (.cells 25 [.qs 9 25 0 m])), (3, none), (6, some (.cells 3 [.int .i64 a])), (9, some (.seq 52 rs))] (HS1 n es a m rs).get x = if x = 9 then ((HS1 n es a m rs).get 3).map (renC (sw 3 9)) else if x = 3 then none else ((HS1 n es a m rs).get x).map (renC (sw 3 9))
 rw [← this]
 match x with
 | 0 => rfl | 1 => rfl | 2 => rfl | 3 => rfl | 4 => rfl | 5 => rfl
 | x + 6 => simp only [updF, show ¬ (x + 6 = 0) by omega, show ¬ (x + 6 = 5) by omega, if_false]
theorem bad9_ren {n m : Nat} {es rs : List SV} {e a : Int} : Renamed (HS1 n es a m rs) (.tup [.int .i64 1]) [(5, some (.cells 28 [.int .i64 e, .int .i64 a])), (4, some (.cells 22 [.nils])), (2, some (.cells 25 [.qs 3 25 0 m])), (0, some (lr9 1 (.done .ret) n))] (.tup [.int .i64 1])
  [(2, some (.cells 25 [.qs 9 25 0 m])), (3, none), (6, some (.cells 3 [.int .i64 a])), (5, some (.cells 28 [.int .i64 e, .int .i64 a])), (0, some (lr9 1 (.done .ret) n)), (9, some (.seq 52 rs))] := by
 have e' : ∀ x, updF [(5, some (.cells 28 [.int .i64 e, .int .i64 a])), (4, some (.cells 22 [.nils])), (2, some (.cells 25 [.qs 3 25 0 m])), (0, some (lr9 1 (.done .ret) n))] (HS1 n es a m rs).get x = updF [(5, some (.cells 28 [.int .i64 e, .int .i64 a])), (0, some (lr9 1 (.done .ret) n))] (HS1 n es a m rs).get x := by
  intro x
  match x with
  | 0 => rfl | 1 => rfl | 2 => rfl | 3 => rfl | 4 => rfl | 5 => rfl
  | x + 6 => simp only [updF, show ¬ (x + 6 = 0) by omega, show ¬ (x + 6 = 2) by omega, show ¬ (x + 6 = 4) by omega, show ¬ (x + 6 = 5) by omega, if_false]
 refine ⟨3, 9, by simp [HS1], by simp [namesS, namesL], fun x c hx => ?_, rfl, fun x => ?_⟩
 · rw [e'] at hx
   simp only [updF] at hx
   by_cases h0 : x = 0
   · rw [if_pos h0] at hx; cases hx; exact lr9_no
   · rw [if_neg h0] at hx
     by_cases h5 : x = 5
     · rw [if_pos h5] at hx; cases hx; simp [namesC, namesL, namesS]
     · rw [if_neg h5] at hx; exact hs1_no x c hx
 · rw [e', e']; exact hs1_ren rfl lr9_ren x
theorem sps_case {args : List SV} {H : HpL} {r : SV × List (Nat × Option Chunk)} (h : crun (sps_s args H) = some r) :
  (∃ n es a, args = [.yl 0, .ptr 6 0, .ptr 7 0] ∧ H = HS0 n es a ∧ spO n es a [] ∧ crun (sp0 n (spL es a.toNat [])) = some r) ∨
  ∃ n es a rs, args = [.yl 0, .ptr 7 0, .ptr 8 0] ∧ H = HS1 n es a rs.length rs ∧ spO n es a rs ∧ crun (sp1 n (spL es a.toNat rs)) = some r := by
 unfold sps_s at h
 split at h
 · rename_i b c
   split at h
   · rename_i n es a hp
     rw [crun_ite] at h
     cases hc : dec (b = 6 ∧ c = 7 ∧ H = HS0 n es a ∧ spO n es a []) with
     | false => rw [hc] at h; cases h
     | true =>
      rw [hc] at h
      obtain ⟨rfl, rfl, rfl, h3⟩ := dec_iff.1 hc
      exact .inl ⟨n, es, a, rfl, rfl, h3, h⟩
   · rename_i n es a m rs hp
     rw [crun_ite] at h
     cases hc : dec (b = 7 ∧ c = 8 ∧ H = HS1 n es a m rs ∧ m = rs.length ∧ spO n es a rs) with
     | false => rw [hc] at h; cases h
     | true =>
      rw [hc] at h
      obtain ⟨rfl, rfl, rfl, rfl, h3⟩ := dec_iff.1 hc
      exact .inr ⟨n, es, a, rs, rfl, rfl, h3, h⟩
   · cases h
 · cases h
theorem sp_low {H : HpL} {u v : List (Nat × Option Chunk)} (k : Nat) (hu : u.all (fun p => decide (p.1 < k)) = true) (hv : v.all (fun p => decide (p.1 < k)) = true) (h : ∀ i, i < k → updF u H.get i = updF v H.get i) : ∀ x, updF u H.get x = updF v H.get x := fun x => by
 by_cases hx : x < k
 · exact h x hx
 · obtain ⟨y, rfl⟩ : ∃ y, x = y + k := ⟨x - k, by omega⟩
   rw [upd_hi u _ hu, upd_hi v _ hv]
theorem sps_valid : ValidL Tryz.prog e31 := loop_valid2 (κ := κsp) (ι := ιsp) (T := ltab []) (sp := true) (fuel := 300) (c := c31) (μ := spsM) spOk2 mixTry ltab_nil (show fillC (ltab []) c31 = c31 by kernel_rfl) (by
 intro N args H v' ups' hbt hr
 rcases sps_case hr with ⟨n, es, a, rfl, rfl, ho, hr⟩ | ⟨n, es, a, rs, rfl, rfl, ho, hr⟩
 · have hN : Nat.blt (n - a.toNat) (N + 1) = true := hbt
   rw [Nat.blt_eq] at hN
   obtain ⟨hb, rfl, hl, h0, h1, hz⟩ := ho
   have hrd := sps_t0 N es.length es a
   rw [hdC_ok hb rfl hl h0 h1] at hrd
   rw [spL_step] at hr
   have hcs := hdP_cases (es.drop a.toNat)
   have hdl : (es.drop a.toNat).length = es.length - a.toNat := List.length_drop
   generalize hh : hdP (es.drop a.toNat) = q at *
   by_cases e2 : q.2 = 0
   · rw [show (q.2 == 0) = true by simpa using e2, cond_true, cond_true] at hrd
     rw [show (q.2 != 0) = false by simpa using e2, cond_false] at hr
     by_cases e1 : q.1 = 0
     · rw [show (q.1 == 0) = true by simpa using e1, cond_true] at hrd hr
       cases hr
       exact .inl ⟨_, congrArg crun hrd, fun x => rfl⟩
     · rw [show (q.1 == 0) = false by simpa using e1, cond_false] at hrd hr
       obtain ⟨s1, s2, s3⟩ := (hcs e2).resolve_left e1
       rw [rdC2_ok hb rfl hl h0 h1 s1 s2] at hrd
       generalize rdP (dg (es.drop a.toNat) 18) (sl (es.drop a.toNat) 19 (q.1.toNat - 19)) = w at *
       by_cases e3 : w.2 = 0
       · rw [show (w.2 != 0) = false by simpa using e3, cond_false] at hrd hr
         have hw : w64 (a + q.1) = a + q.1 := w64_id (by omega) (by omega)
         have ht : (a + q.1).toNat = a.toNat + q.1.toNat := by omega
         unfold spT0 at hrd
         rw [hw, ht, show Nat.blt (es.length - (a.toNat + q.1.toNat)) N = true by rw [Nat.blt_eq]; omega, cond_true, dec_iff.2 ⟨rfl, rfl, rfl, rfl, hb, rfl, hl, by omega, by omega, by simp; omega⟩, cond_true] at hrd
         rw [List.nil_append] at hr
         have hlen : 1 ≤ (spL es (a.toNat + q.1.toNat) [mgV w.1]).2.2.length := spF_len _ _ _ [mgV w.1]
         generalize spL es (a.toNat + q.1.toNat) [mgV w.1] = r at *
         simp only [] at hrd
         unfold sp0 at hr
         rw [crun_ite, decide_eq_false (show ¬ r.2.2.length = 0 by omega), cond_false, crun_ite] at hr
         cases he : r.1 == 0 with
         | true =>
          rw [he] at hr hrd
          cases hr
          refine .inl ⟨_, congrArg crun hrd, sp_low 9 rfl rfl (fun i hi => ?_)⟩
          match i with
          | 0 => rfl | 1 => rfl | 2 => rfl | 3 => rfl | 4 => rfl | 5 => rfl | 6 => rfl | 7 => rfl | 8 => rfl
          | i + 9 => omega
         | false =>
          rw [he] at hr hrd
          cases hr
          refine .inl ⟨_, congrArg crun hrd, sp_low 9 rfl rfl (fun i hi => ?_)⟩
          match i with
          | 0 => rfl | 1 => rfl | 2 => rfl | 3 => rfl | 4 => rfl | 5 => rfl | 6 => rfl | 7 => rfl | 8 => rfl
          | i + 9 => omega
       · rw [show (w.2 != 0) = true by simpa using e3, cond_true] at hrd hr
         unfold badR at hrd
         rw [show (w.2 != 0) = true by simpa using e3, cond_true] at hrd
         unfold sp0 at hr
         rw [crun_ite, decide_eq_true (show (([] : List SV).length = 0) from rfl), cond_true, crun_ite, show (w.2 == 0) = false by simpa using e3] at hr
         cases hr
         refine .inl ⟨_, congrArg crun hrd, sp_low 9 rfl rfl (fun i hi => ?_)⟩
         have ha : ((a.toNat : Nat) : Int) = a := by omega
         match i with
         | 0 => rfl | 1 => rfl | 2 => rfl | 3 => rfl
         | 4 => show some (Chunk.cells 28 [SV.int .i64 w.2, SV.int .i64 ((a.toNat : Nat) : Int)]) = _; rw [ha]; rfl
         | 5 => rfl | 6 => rfl | 7 => rfl | 8 => rfl
         | i + 9 => omega
   · rw [show (q.2 == 0) = false by simpa using e2, cond_false, cond_false] at hrd
     rw [show (q.2 != 0) = true by simpa using e2, cond_true] at hr hrd
     unfold badR at hrd
     rw [show (q.2 != 0) = true by simpa using e2, cond_true] at hrd
     unfold sp0 at hr
     rw [crun_ite, decide_eq_true (show (([] : List SV).length = 0) from rfl), cond_true, crun_ite, show (q.2 == 0) = false by simpa using e2] at hr
     cases hr
     refine .inl ⟨_, congrArg crun hrd, sp_low 9 rfl rfl (fun i hi => ?_)⟩
     have ha : ((a.toNat : Nat) : Int) = a := by omega
     match i with
     | 0 => rfl | 1 => rfl | 2 => rfl | 3 => rfl
     | 4 => show some (Chunk.cells 28 [SV.int .i64 q.2, SV.int .i64 ((a.toNat : Nat) : Int)]) = _; rw [ha]; rfl
     | 5 => rfl | 6 => rfl | 7 => rfl | 8 => rfl
     | i + 9 => omega
 · have hN : Nat.blt (n - a.toNat) (N + 1) = true := hbt
   rw [Nat.blt_eq] at hN
   obtain ⟨hb, rfl, hl, h0, h1, hz⟩ := ho
   have hrd := sps_t1 N es.length rs.length es rs a
   have ha : ((a.toNat : Nat) : Int) = a := by omega
   rw [hdC_ok hb rfl hl h0 h1] at hrd
   rw [spL_step] at hr
   have hcs := hdP_cases (es.drop a.toNat)
   have hdl : (es.drop a.toNat).length = es.length - a.toNat := List.length_drop
   generalize hh : hdP (es.drop a.toNat) = q at *
   by_cases e2 : q.2 = 0
   · rw [show (q.2 == 0) = true by simpa using e2, cond_true, cond_true] at hrd
     rw [show (q.2 != 0) = false by simpa using e2, cond_false] at hr
     by_cases e1 : q.1 = 0
     · rw [show (q.1 == 0) = true by simpa using e1, cond_true] at hrd hr
       unfold sp1 at hr
       rw [crun_ite, show ((0 : Int) == 0) = true from rfl] at hr
       simp only [ha] at hr
       cases hr
       exact .inr ⟨_, _, congrArg crun hrd, none9_ren⟩
     · rw [show (q.1 == 0) = false by simpa using e1, cond_false] at hrd hr
       obtain ⟨s1, s2, s3⟩ := (hcs e2).resolve_left e1
       rw [rdC2_ok hb rfl hl h0 h1 s1 s2] at hrd
       generalize rdP (dg (es.drop a.toNat) 18) (sl (es.drop a.toNat) 19 (q.1.toNat - 19)) = w at *
       by_cases e3 : w.2 = 0
       · rw [show (w.2 != 0) = false by simpa using e3, cond_false] at hrd hr
         have hw : w64 (a + q.1) = a + q.1 := w64_id (by omega) (by omega)
         have ht : (a + q.1).toNat = a.toNat + q.1.toNat := by omega
         unfold spT1 at hrd
         rw [gr9_ok rfl (by omega), hw, ht, show Nat.blt (es.length - (a.toNat + q.1.toNat)) N = true by rw [Nat.blt_eq]; omega, cond_true, dec_iff.2 ⟨rfl, rfl, rfl, by simp, hb, rfl, hl, by omega, by omega, by simp; omega⟩, cond_true] at hrd
         generalize spL es (a.toNat + q.1.toNat) (rs ++ [mgV w.1]) = r at *
         simp only [] at hrd
         unfold sp1 at hr
         rw [crun_ite] at hr
         cases he : r.1 == 0 with
         | true =>
          rw [he] at hr hrd
          cases hr
          refine .inl ⟨_, congrArg crun hrd, sp_low 10 rfl rfl (fun i hi => ?_)⟩
          match i with
          | 0 => rfl | 1 => rfl | 2 => rfl | 3 => rfl | 4 => rfl | 5 => rfl | 6 => rfl | 7 => rfl | 8 => rfl | 9 => rfl
          | i + 10 => omega
         | false =>
          rw [he] at hr hrd
          cases hr
          refine .inl ⟨_, congrArg crun hrd, sp_low 10 rfl rfl (fun i hi => ?_)⟩
          match i with
          | 0 => rfl | 1 => rfl | 2 => rfl | 3 => rfl | 4 => rfl | 5 => rfl | 6 => rfl | 7 => rfl | 8 => rfl | 9 => rfl
          | i + 10 => omega
       · rw [show (w.2 != 0) = true by simpa using e3, cond_true] at hrd hr
         unfold badR at hrd
         rw [show (w.2 != 0) = true by simpa using e3, cond_true] at hrd
         unfold sp1 at hr
         rw [crun_ite, show (w.2 == 0) = false by simpa using e3] at hr
         simp only [ha] at hr
         cases hr
         exact .inr ⟨_, _, congrArg crun hrd, bad9_ren⟩
   · rw [show (q.2 == 0) = false by simpa using e2, cond_false, cond_false] at hrd
     rw [show (q.2 != 0) = true by simpa using e2, cond_true] at hr hrd
     unfold badR at hrd
     rw [show (q.2 != 0) = true by simpa using e2, cond_true] at hrd
     unfold sp1 at hr
     rw [crun_ite, show (q.2 == 0) = false by simpa using e2] at hr
     simp only [ha] at hr
     cases hr
     exact .inr ⟨_, _, congrArg crun hrd, bad9_ren⟩)
end Go.Proofs.YtnlmhpancboddaaGreat
/- Messages: Split. -/
namespace Go.Proofs.YtnlmhpancboddaaGreat
open Go.Am
set_option maxRecDepth 100000
noncomputable abbrev Tsp : LTab := ltab [("m", e31)]
noncomputable abbrev Msp : Nat → Option Code := mtab [(31, m31)]
noncomputable abbrev b9 : Code := Tryz.f9.body.getD .skip
noncomputable def split_b : CSumm := bodyCM Tryz.prog κsp ιsp Tsp Msp true 300 Tryz.f9 b9
theorem split_k0 : Known Tryz.prog 9 split_b :=
 ⟨⟨Tryz.f9, Tryz.func9, noNum_at noNumTry Tryz.func9, rfl⟩, bodyM_valid spOk2 mixTry (ltab_cons sps_valid ltab_nil) (mtab_cons Tryz.func31 (show Tryz.f31.body = some (fillC Tsp m31) by kernel_rfl) mtab_nil) Tryz.func9 (show Tryz.f9.body = some (fillC Tsp b9) by kernel_rfl)⟩
noncomputable def restC (n : Nat) (es : List SV) (e : Int) (K : Nat → List SV → CTree) : CTree :=
 bif decide (0 ≤ e) && decide (e ≤ n) && decide ((n : Int) ≤ n) then
  bif decide (0 + e.toNat = 0) && decide ((n : Int).toNat - e.toNat = es.length) then (bif lenO (([] : List SV).length + es.length) then K (([] : List SV).length + es.length) ([] ++ es) else .fail)
  else bif decide (0 + e.toNat + ((n : Int).toNat - e.toNat) ≤ es.length) then (bif lenO (([] : List SV).length + ((es.drop (0 + e.toNat)).take ((n : Int).toNat - e.toNat)).length) then K (([] : List SV).length + ((es.drop (0 + e.toNat)).take ((n : Int).toNat - e.toNat)).length) ([] ++ ((es.drop (0 + e.toNat)).take ((n : Int).toNat - e.toNat))) else .fail) else .fail else .fail
def fl0 : SV := .agg [.int .i64 0, .int .i64 0]
noncomputable def splitK (n : Nat) (es : List SV) (r : Int × Nat × List SV) : CTree :=
 bif decide (r.2.2.length = 0) then (bif r.1 == 0 then restC n es 0 fun k xs => .ret (.tup [.nils, .qs 1 1 0 k, fl0]) [(1, some (.seq 5 xs))] else .ret (.tup [.nils, .nils, .agg [.int .i64 r.1, .int .i64 r.2.1]]) [])
 else bif r.1 == 0 then restC n es r.2.1 fun k xs => .ret (.tup [.qs 1 25 0 r.2.2.length, .qs 2 1 0 k, fl0]) [(1, some (.seq 52 r.2.2)), (2, some (.seq 5 xs))] else .ret (.tup [.qs 1 25 0 r.2.2.length, .nils, .agg [.int .i64 r.1, .int .i64 r.2.1]]) [(1, some (.seq 52 r.2.2))]
theorem split_t (n : Nat) (es : List SV) : split_b [.qs 0 1 0 n] [(0, .seq 5 es)] = bif dec (6 = 6 ∧ 7 = 7 ∧ HS0 n es 0 = HS0 n es 0 ∧ spO n es 0 []) then splitK n es (spL es (0 : Int).toNat []) else .fail := by kernel_rfl
theorem restC_ok {n : Nat} {es : List SV} {a : Nat} {e : Int} (he : e = a) (hn : n = es.length) (hl : es.length ≤ 1000000) (ha : a ≤ es.length) (K : Nat → List SV → CTree) : restC n es e K = K (es.drop a).length (es.drop a) := by
 subst he hn
 unfold restC
 rw [decide_eq_true (show (0 : Int) ≤ a by omega), decide_eq_true (show (a : Int) ≤ es.length by omega), decide_eq_true (Int.le_refl _), show ((a : Nat) : Int).toNat = a from rfl, show ((es.length : Nat) : Int).toNat = es.length from rfl]
 simp only [Bool.and_self, cond_true, List.length_nil, Nat.zero_add, List.nil_append]
 have hs : (es.drop a).take (es.length - a) = es.drop a := List.take_of_length_le (by rw [List.length_drop]; omega)
 by_cases h0 : a = 0
 · subst h0
   rw [decide_eq_true rfl, decide_eq_true (show es.length - 0 = es.length by omega), lenO_t hl]; rfl
 · rw [decide_eq_false h0, Bool.false_and, cond_false, decide_eq_true (show a + (es.length - a) ≤ es.length by omega), cond_true, hs, lenO_t (by rw [List.length_drop]; omega), cond_true]
theorem spF_at : ∀ (f : Nat) (es : List SV) (a : Nat) (rs : List SV), a ≤ es.length → a ≤ (spF f es a rs).2.1 ∧ (spF f es a rs).2.1 ≤ es.length ∧ ((spF f es a rs).2.2.length = rs.length → (spF f es a rs).2.1 = a)
 | 0, _, a, _, h => ⟨Nat.le_refl _, h, fun _ => rfl⟩
 | f + 1, es, a, rs, h => by
  unfold spF
  cases c1 : (hdP (es.drop a)).2 != 0 with
  | true => exact ⟨Nat.le_refl _, h, fun _ => rfl⟩
  | false =>
   rw [cond_false]
   cases c2 : (hdP (es.drop a)).1 == 0 with
   | true => exact ⟨Nat.le_refl _, h, fun _ => rfl⟩
   | false =>
    rw [cond_false]
    have hc := hdP_cases (es.drop a) (by simpa using c1)
    have h0 : (hdP (es.drop a)).1 ≠ 0 := by simpa using c2
    obtain ⟨h1, h2, h3⟩ := hc.resolve_left h0
    rw [List.length_drop] at h2
    cases (rdP (dg (es.drop a) 18) (sl (es.drop a) 19 ((hdP (es.drop a)).1.toNat - 19))).2 != 0 with
    | true => exact ⟨Nat.le_refl _, h, fun _ => rfl⟩
    | false =>
     rw [cond_false]
     obtain ⟨g1, g2, g3⟩ := spF_at f es (a + (hdP (es.drop a)).1.toNat) (rs ++ [mgV (rdP (dg (es.drop a) 18) (sl (es.drop a) 19 ((hdP (es.drop a)).1.toNat - 19))).1]) (by omega)
     refine ⟨by omega, g2, fun hx => ?_⟩
     have := spF_len f es (a + (hdP (es.drop a)).1.toNat) (rs ++ [mgV (rdP (dg (es.drop a) 18) (sl (es.drop a) 19 ((hdP (es.drop a)).1.toNat - 19))).1])
     rw [List.length_append, List.length_singleton] at this
     omega
noncomputable def splitR (es : List SV) (r : Int × Nat × List SV) : CTree :=
 .ite (r.1 == 0) (.ret (.tup [.psl 52 r.2.2, .qs 1 1 0 (es.drop r.2.1).length, fl0]) [(1, some (.seq 5 (es.drop r.2.1)))]) (.ret (.tup [.psl 52 r.2.2, .nils, .agg [.int .i64 r.1, .int .i64 r.2.1]]) [])
noncomputable def splitT (es : List SV) (r : Int × Nat × List SV) : CTree :=
 .ite (r.1 == 0) (.ite (decide (r.2.2.length = 0)) (.ret (.tup [.psl 52 r.2.2, .qs 1 1 0 (es.drop r.2.1).length, fl0]) [(1, some (.seq 5 (es.drop r.2.1)))]) (.ret (.tup [.psl 52 r.2.2, .qs 2 1 0 (es.drop r.2.1).length, fl0]) [(2, some (.seq 5 (es.drop r.2.1)))]))
  (.ret (.tup [.psl 52 r.2.2, .nils, .agg [.int .i64 r.1, .int .i64 r.2.1]]) [])
noncomputable def splitt_s : CSumm := fun args H => match args, H with
 | [.qs 0 1 0 n], [(0, .seq 5 es)] => .ite (dec (byl es ∧ n = es.length ∧ es.length ≤ 1000000)) (splitT es (spL es 0 [])) .fail
 | _, _ => .fail
theorem splitt_k : Known Tryz.prog 9 splitt_s := known_told split_k0 (by
 intro args H v' ups' h
 unfold splitt_s at h
 split at h
 · rename_i n es
   rw [crun_ite] at h
   cases hc : dec (byl es ∧ n = es.length ∧ es.length ≤ 1000000) with
   | false => rw [hc] at h; cases h
   | true =>
    rw [hc, cond_true] at h
    obtain ⟨hb, rfl, hl⟩ := dec_iff.1 hc
    have ht := split_t es.length es
    rw [dec_iff.2 ⟨rfl, rfl, rfl, hb, rfl, hl, by omega, by omega, by simp; omega⟩, cond_true, show (0 : Int).toNat = 0 from rfl] at ht
    obtain ⟨a1, a2, a3⟩ := spF_at (es.length - 0) es 0 [] (Nat.zero_le _)
    have a3' : (spL es 0 []).2.2.length = 0 → (spL es 0 []).2.1 = 0 := a3
    have a2' : (spL es 0 []).2.1 ≤ es.length := a2
    generalize spL es 0 [] = r at *
    have hg : ∀ x c', HpL.get [(0, .seq 5 es)] x = some c' → x = 0 := fun x c' hx => by
     have := HpL_get_some _ _ _ hx
     simp at this
     exact this.1
    unfold splitK at ht
    unfold splitT at h
    rw [crun_ite] at h
    by_cases hk : r.2.2.length = 0
    · rw [decide_eq_true hk, cond_true] at ht
      have hz := a3' hk
      have hr : r.2.2 = [] := List.length_eq_zero_iff.1 hk
      rw [hr] at h
      cases he : r.1 == 0 with
      | true =>
       rw [he, cond_true, restC_ok (e := 0) (a := 0) (by decide) rfl hl (Nat.zero_le _)] at ht
       rw [he, cond_true, crun_ite, decide_eq_true (show ([] : List SV).length = 0 from rfl), cond_true, hz] at h
       cases h
       exact ⟨_, _, congrArg crun ht, .inr ⟨.tup (.cons .nils .rfl'), fun x c' hx => ⟨c', hx, .rfl'⟩⟩⟩
      | false =>
       rw [he, cond_false] at ht
       rw [he, cond_false] at h
       cases h
       exact ⟨_, _, congrArg crun ht, .inr ⟨.tup (.cons .nils .rfl'), fun x c' hx => ⟨c', hx, .rfl'⟩⟩⟩
    · rw [decide_eq_false hk, cond_false] at ht
      cases he : r.1 == 0 with
      | true =>
       rw [he, cond_true, restC_ok (a := r.2.1) rfl rfl hl a2'] at ht
       rw [he, cond_true, crun_ite, decide_eq_false hk, cond_false] at h
       cases h
       refine ⟨_, _, congrArg crun ht, .inl ⟨1, 52, r.2.2, rfl, .tup (.cons (.qs rfl) .rfl'), fun x c' hx => ?_⟩⟩
       simp only [updF] at hx
       by_cases h2 : x = 2
       · subst h2; exact ⟨by decide, c', hx, .rfl'⟩
       · rw [if_neg h2] at hx
         have h0 := hg x c' hx
         subst h0
         exact ⟨by decide, c', hx, .rfl'⟩
      | false =>
       rw [he, cond_false] at ht
       rw [he, cond_false] at h
       cases h
       refine ⟨_, _, congrArg crun ht, .inl ⟨1, 52, r.2.2, rfl, .tup (.cons (.qs rfl) .rfl'), fun x c' hx => ?_⟩⟩
       have h0 := hg x c' hx
       subst h0
       exact ⟨by decide, c', hx, .rfl'⟩
 · cases h)
noncomputable def split_s : CSumm := fun args H => match args, H with
 | [.qs 0 1 0 n], [(0, .seq 5 es)] => .ite (dec (byl es ∧ n = es.length ∧ es.length ≤ 1000000)) (splitR es (spL es 0 [])) .fail
 | _, _ => .fail
theorem split_ren {es xs rs : List SV} {k : Nat} : Renamed [(0, .seq 5 es)] (.tup [.psl 52 rs, .qs 2 1 0 k, fl0]) [(2, some (.seq 5 xs))] (.tup [.psl 52 rs, .qs 1 1 0 k, fl0]) [(1, some (.seq 5 xs))] := by
 refine ⟨2, 1, by simp, by simp [namesS, namesL, fl0], fun x c hx => ?_, rfl, fun x => ?_⟩
 · simp only [updF] at hx
   by_cases h2 : x = 2
   · rw [if_pos h2] at hx; cases hx; simp [namesC]
   · rw [if_neg h2] at hx
     have := HpL_get_some _ _ _ hx
     simp at this
     obtain ⟨_, rfl⟩ := this
     simp [namesC]
 · match x with
   | 0 => rfl | 1 => rfl | 2 => rfl
   | x + 3 =>
    simp only [updF, HpL.get, show ¬ (x + 3 = 1) by omega, show ¬ (x + 3 = 2) by omega, if_false, show Nat.beq 0 (x + 3) = false from nb_f (by omega), cond_false, Option.map_none]
theorem split_k : Known Tryz.prog 9 split_s := known_ren splitt_k (by
 intro args H v' ups' h
 unfold split_s at h
 split at h
 · rename_i n es
   rw [crun_ite] at h
   cases hc : dec (byl es ∧ n = es.length ∧ es.length ≤ 1000000) with
   | false => rw [hc] at h; cases h
   | true =>
    rw [hc, cond_true] at h
    have run : ∀ t, crun (splitT es (spL es 0 [])) = t → crun (splitt_s [.qs 0 1 0 n] [(0, .seq 5 es)]) = t := fun t ht => by
     show crun (.ite (dec (byl es ∧ n = es.length ∧ es.length ≤ 1000000)) (splitT es (spL es 0 [])) .fail) = _
     rw [crun_ite, hc]; exact ht
    generalize spL es 0 [] = r at *
    unfold splitR at h
    unfold splitT at run
    rw [crun_ite] at h run
    cases he : r.1 == 0 with
    | true =>
     rw [he, cond_true] at h run
     rw [crun_ite] at run
     by_cases hk : r.2.2.length = 0
     · rw [decide_eq_true hk] at run
       exact .inl ⟨_, run _ h, fun x => rfl⟩
     · rw [decide_eq_false hk] at run
       cases h
       exact .inr ⟨_, _, run _ rfl, split_ren⟩
    | false =>
     rw [he, cond_false] at h run
     exact .inl ⟨_, run _ h, fun x => rfl⟩
 · cases h)
end Go.Proofs.YtnlmhpancboddaaGreat
