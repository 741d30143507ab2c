/- split: a round of its loop; the loop; the function. -/
import Derived.Test.YtdgnhaacdpmclaaGreatPart21
set_option linter.unusedVariables false
set_option linter.unusedSimpArgs false
namespace Go.Proofs.YtdgnhaacdpmclaaGreat
open Go.Am
set_option maxRecDepth 100000
def spE1 (b : List SV) (a : Int) : Int := w64 (w64 (a + 3) + w64 (dg b (w64 (a + 2)).toNat))
def spE2 (b : List SV) (a : Int) : Int := w64 (w64 (w64 (a + 4) + w64 (256 * w64 (dg b (w64 (a + 2)).toNat))) + w64 (dg b (w64 (a + 3)).toNat))
def spPc (b : List SV) (a e : Int) : List SV := (b.drop a.toNat).take (e.toNat - a.toNat)
noncomputable def spN (N : Nat) (b : List SV) (m : Nat) (ps : List SV) (a : Int) : CTree :=
 bif Nat.blt (b.length - a.toNat) N then bif dec (spOk b m ps a) then .ret (.tup [.int .i64 2, .junk, .qs 1 1 0 (ps ++ splL b a.toNat).length]) [(0, none), (1, some (.seq 22 (ps ++ splL b a.toNat)))] else .fail else .fail
noncomputable def spK (N : Nat) (b : List SV) (m : Nat) (ps : List SV) (a e : Int) : CTree :=
 bif decide (e > b.length) then .ret (.tup [.int .i64 1, .qs 0 1 0 m, .qs 0 1 0 m]) [] else bif decide (0 ≤ a) && decide (a ≤ e) && decide (e ≤ b.length) then
  bif decide (m = ps.length) then bif decide (ps.length + 1 ≤ 9223372036854775807) && decide ((ps.length + 1) * 24 ≤ 140737488355328) then spN N b (ps.length + 1) (ps ++ [.psl 5 (spPc b a e)]) e else .fail else .fail else .fail
theorem sp_t (N m : Nat) (b ps : List SV) (a : Int) : loopOnce Tryz.prog (openT Tryz.prog (tbl []) 300 5) (fun _ => false) (ltab []) true 300 e15 { e15 with s := boundT spM sp_s N } c15 [.psl 5 b, .qs 0 1 0 m, .int .i64 a] [(0, .seq 22 ps)] =
 bif decide (w64 (a + 3) < b.length) then bif inB (w64 (a + 2)) b.length then bif inB a b.length then bif andI .u8 (dg b a.toNat) 16 != 0 then
  bif inB (w64 (a + 2)) b.length then bif inB (w64 (a + 3)) b.length then spK N b m ps a (spE2 b a) else .fail else .fail
 else spK N b m ps a (spE1 b a) else .fail else .fail
 else .ret (.tup [.int .i64 2, .junk, .qs 0 1 0 m]) [] := by kernel_rfl
noncomputable def spKn (N : Nat) (b : List SV) (a e : Int) : CTree :=
 bif decide (e > b.length) then .ret (.tup [.int .i64 1, .nils, .nils]) [] else bif decide (0 ≤ a) && decide (a ≤ e) && decide (e ≤ b.length) then
  bif decide (0 + 1 ≤ 9223372036854775807) && decide ((0 + 1) * 24 ≤ 140737488355328) then
   (bif Nat.blt (b.length - e.toNat) N then bif dec (spOk b 1 [.psl 5 (spPc b a e)] e) then .ret (.tup [.int .i64 2, .junk, .qs 0 1 0 (SV.psl 5 (spPc b a e) :: splL b e.toNat).length]) [(0, some (.seq 22 (SV.psl 5 (spPc b a e) :: splL b e.toNat)))] else .fail else .fail) else .fail else .fail
theorem sp_n (N : Nat) (b : List SV) (a : Int) : loopOnce Tryz.prog (openT Tryz.prog (tbl []) 300 5) (fun _ => false) (ltab []) true 300 e15 { e15 with s := boundT spM sp_s N } c15 [.psl 5 b, .nils, .int .i64 a] [] =
 bif decide (w64 (a + 3) < b.length) then bif inB (w64 (a + 2)) b.length then bif inB a b.length then bif andI .u8 (dg b a.toNat) 16 != 0 then
  bif inB (w64 (a + 2)) b.length then bif inB (w64 (a + 3)) b.length then spKn N b a (spE2 b a) else .fail else .fail
 else spKn N b a (spE1 b a) else .fail else .fail
 else .ret (.tup [.int .i64 2, .junk, .nils]) [] := by kernel_rfl
theorem spE_eq {b : List SV} (hb : byl b) (hl : b.length ≤ 100000) {a : Int} (h0 : 0 ≤ a) (h3 : a + 3 < b.length) : (bif andI .u8 (dg b a.toNat) 16 != 0 then spE2 b a else spE1 b a) = (vE b a.toNat : Nat) := by
 obtain ⟨r1, r2⟩ := hb.ok (a.toNat + 2)
 obtain ⟨q1, q2⟩ := hb.ok (a.toNat + 3)
 have w2 : w64 (a + 2) = a + 2 := w64_id (by omega) (by omega)
 have w3 : w64 (a + 3) = a + 3 := w64_id (by omega) (by omega)
 have w4 : w64 (a + 4) = a + 4 := w64_id (by omega) (by omega)
 have t2 : (a + 2).toNat = a.toNat + 2 := by omega
 have t3 : (a + 3).toNat = a.toNat + 3 := by omega
 by_cases hf : andI .u8 (dg b a.toNat) 16 = 0
 · rw [show (andI .u8 (dg b a.toNat) 16 != 0) = false by simpa using hf, cond_false]
   have hh : hdN b a.toNat = 3 := by unfold hdN; rw [if_neg (by simpa using hf)]
   have hln : (lnN b a.toNat : Int) = dg b (a.toNat + 2) := by
    unfold lnN; rw [hh, show 3 - 2 = 1 from rfl, tk1]; omega
   unfold spE1 vE
   rw [w2, w3, t2, show w64 (dg b (a.toNat + 2)) = dg b (a.toNat + 2) from w64_id (by omega) (by omega), show w64 (a + 3 + dg b (a.toNat + 2)) = a + 3 + dg b (a.toNat + 2) from w64_id (by omega) (by omega), hh]
   omega
 · rw [show (andI .u8 (dg b a.toNat) 16 != 0) = true by simpa using hf, cond_true]
   have hh : hdN b a.toNat = 4 := by unfold hdN; rw [if_pos hf]
   have hln : (lnN b a.toNat : Int) = 256 * dg b (a.toNat + 2) + dg b (a.toNat + 3) := by
    unfold lnN; rw [hh, show 4 - 2 = 2 from rfl]
    have : tkN b (a.toNat + 2) 2 = 256 * dg b (a.toNat + 2) + dg b (a.toNat + 3) := by
     show (0 * 256 + dg b (a.toNat + 2 + 0)) * 256 + dg b (a.toNat + 2 + 1) = _
     rw [Nat.add_zero, show a.toNat + 2 + 1 = a.toNat + 3 from rfl]; omega
    rw [this]; omega
   unfold spE2 vE
   rw [w2, w3, w4, t2, t3, show w64 (dg b (a.toNat + 2)) = dg b (a.toNat + 2) from w64_id (by omega) (by omega), show w64 (dg b (a.toNat + 3)) = dg b (a.toNat + 3) from w64_id (by omega) (by omega), show w64 (256 * dg b (a.toNat + 2)) = 256 * dg b (a.toNat + 2) from w64_id (by omega) (by omega), show w64 (a + 4 + 256 * dg b (a.toNat + 2)) = a + 4 + 256 * dg b (a.toNat + 2) from w64_id (by omega) (by omega), show w64 (a + 4 + 256 * dg b (a.toNat + 2) + dg b (a.toNat + 3)) = a + 4 + 256 * dg b (a.toNat + 2) + dg b (a.toNat + 3) from w64_id (by omega) (by omega), hh]
   omega
theorem sp_ren {ps : List SV} {m : Nat} : Renamed (spH ps) (.tup [.int .i64 2, .junk, .qs 0 1 0 m]) [] (.tup [.int .i64 2, .junk, .qs 1 1 0 m]) [(0, none), (1, some (.seq 22 ps))] := by
 refine ⟨0, 1, by simp [spH], by simp [namesS, namesL], fun x c hx => ?_, rfl, fun x => ?_⟩
 · have := HpL_get_some _ _ _ hx
   simp only [spH, List.mem_cons, Prod.mk.injEq, List.not_mem_nil, or_false] at this
   obtain ⟨_, rfl⟩ := this
   simp [namesC]
 · match x with
   | 0 => rfl
   | 1 => rfl
   | x + 2 =>
    simp only [updF, spH, HpL.get, show ¬ (x + 2 = 1) by omega, show ¬ (x + 2 = 0) by omega, if_false, show Nat.beq 0 (x + 2) = false from nb_f (by omega), cond_false, Option.map_none]
theorem sp_valid : ValidL Tryz.prog e15 := loop_valid2 (κ := openT Tryz.prog (tbl []) 300 5) (ι := fun _ => false) (T := ltab []) (sp := true) (fuel := 300) (c := c15) (μ := spM) (openT_ok noNumTry mixTry ok0 300 5) mixTry ltab_nil (show fillC (ltab []) c15 = c15 by kernel_rfl) (by
 intro N args H v' ups' hbt h
 unfold e15 sp_s at h
 simp only [] at h
 split at h
 · rename_i b a
   rw [crun_ite] at h
   cases hc : dec (spOk b 0 [] a ∧ a.toNat + 3 < b.length) with
   | false => rw [hc] at h; cases h
   | true =>
    rw [hc, cond_true] at h
    obtain ⟨⟨hg, hb, hl, -, h0, ha, hz⟩, hlt⟩ := dec_iff.1 hc
    have hrd := sp_n N b a
    have hN : Nat.blt (b.length - a.toNat) (N + 1) = true := hbt
    rw [Nat.blt_eq] at hN
    have hw : ∀ k : Int, 0 ≤ k → k ≤ 4 → w64 (a + k) = a + k := fun k _ _ => w64_id (by omega) (by omega)
    have hE := spE_eq hb hl h0 (show a + 3 < b.length by omega)
    have hEl : vE b a.toNat ≤ b.length := by
     rw [splG, if_pos hlt] at hg
     by_cases hx : vE b a.toNat ≤ b.length
     · exact hx
     · rw [if_neg hx] at hg; cases hg
    have hge : a.toNat + 3 ≤ vE b a.toNat := by have := hdN_ge (es := b) (a := a.toNat); unfold vE; omega
    rw [hw 3 (by omega) (by omega), hw 2 (by omega) (by omega), decide_eq_true (show a + 3 < (b.length : Int) by omega), cond_true, show inB (a + 2) b.length = true by unfold inB; simp; omega, cond_true, show inB a b.length = true by unfold inB; simp; omega, cond_true, show inB (a + 3) b.length = true by unfold inB; simp; omega, cond_true, cond_true] at hrd
    have hone : loopOnce Tryz.prog (openT Tryz.prog (tbl []) 300 5) (fun _ => false) (ltab []) true 300 e15 { e15 with s := boundT spM sp_s N } c15 [.psl 5 b, .nils, .int .i64 a] [] = spKn N b a ((vE b a.toNat : Nat) : Int) := by
     rw [hrd, ← hE]
     cases andI .u8 (dg b a.toNat) 16 != 0 <;> rfl
    have hpc : spPc b a ((vE b a.toNat : Nat) : Int) = vl b a.toNat (vE b a.toNat) := by unfold spPc vl sl; rw [Int.toNat_natCast]
    have hs : splG b (vE b a.toNat) = true ∧ splL b a.toNat = .psl 5 (vl b a.toNat (vE b a.toNat)) :: splL b (vE b a.toNat) := by
     rw [splG, if_pos hlt, if_pos hEl] at hg
     refine ⟨hg, ?_⟩
     rw [splL, if_pos hlt, if_pos hEl]
    unfold spKn at hone
    rw [decide_eq_false (show ¬ ((vE b a.toNat : Nat) : Int) > b.length by omega), cond_false, decide_eq_true h0, decide_eq_true (show a ≤ ((vE b a.toNat : Nat) : Int) by omega), decide_eq_true (show ((vE b a.toNat : Nat) : Int) ≤ (b.length : Int) by omega), decide_eq_true (show 0 + 1 ≤ 9223372036854775807 by omega), decide_eq_true (show (0 + 1) * 24 ≤ 140737488355328 by omega), hpc] at hone
    simp only [Bool.and_self, cond_true] at hone
    rw [show Nat.blt (b.length - ((vE b a.toNat : Nat) : Int).toNat) N = true by rw [Nat.blt_eq, Int.toNat_natCast]; omega, cond_true, dec_iff.2 ⟨by rw [Int.toNat_natCast]; exact hs.1, hb, hl, rfl, by omega, by omega, by rw [Int.toNat_natCast]; simp; omega⟩, cond_true, Int.toNat_natCast, ← hs.2] at hone
    cases h
    exact .inl ⟨_, congrArg crun hone, fun x => rfl⟩
 · rename_i b m a ps
   rw [crun_ite] at h
   cases hc : dec (spOk b m ps a) with
   | false => rw [hc] at h; cases h
   | true =>
    rw [hc, cond_true] at h
    obtain ⟨hg, hb, hl, rfl, h0, ha, hz⟩ := dec_iff.1 hc
    have hrd := sp_t N ps.length b ps a
    have hN : Nat.blt (b.length - a.toNat) (N + 1) = true := hbt
    rw [Nat.blt_eq] at hN
    by_cases hlt : a.toNat + 3 < b.length
    · have hw : ∀ k : Int, 0 ≤ k → k ≤ 4 → w64 (a + k) = a + k := fun k _ _ => w64_id (by omega) (by omega)
      have hE := spE_eq hb hl h0 (show a + 3 < b.length by omega)
      have hEl : vE b a.toNat ≤ b.length := by
       rw [splG, if_pos hlt] at hg
       by_cases hx : vE b a.toNat ≤ b.length
       · exact hx
       · rw [if_neg hx] at hg; cases hg
      have hge : a.toNat + 3 ≤ vE b a.toNat := by have := hdN_ge (es := b) (a := a.toNat); unfold vE; omega
      rw [hw 3 (by omega) (by omega), hw 2 (by omega) (by omega), decide_eq_true (show a + 3 < (b.length : Int) by omega), cond_true, show inB (a + 2) b.length = true by unfold inB; simp; omega, cond_true, show inB a b.length = true by unfold inB; simp; omega, cond_true, show inB (a + 3) b.length = true by unfold inB; simp; omega, cond_true, cond_true] at hrd
      have hone : loopOnce Tryz.prog (openT Tryz.prog (tbl []) 300 5) (fun _ => false) (ltab []) true 300 e15 { e15 with s := boundT spM sp_s N } c15 [.psl 5 b, .qs 0 1 0 ps.length, .int .i64 a] [(0, .seq 22 ps)] = spK N b ps.length ps a ((vE b a.toNat : Nat) : Int) := by
       rw [hrd, ← hE]
       cases andI .u8 (dg b a.toNat) 16 != 0 <;> rfl
      have hpc : spPc b a ((vE b a.toNat : Nat) : Int) = vl b a.toNat (vE b a.toNat) := by unfold spPc vl sl; rw [Int.toNat_natCast]
      have hs : splG b (vE b a.toNat) = true ∧ splL b a.toNat = .psl 5 (vl b a.toNat (vE b a.toNat)) :: splL b (vE b a.toNat) := by
       rw [splG, if_pos hlt, if_pos hEl] at hg
       refine ⟨hg, ?_⟩
       rw [splL, if_pos hlt, if_pos hEl]
      unfold spK at hone
      rw [decide_eq_false (show ¬ ((vE b a.toNat : Nat) : Int) > b.length by omega), cond_false, decide_eq_true h0, decide_eq_true (show a ≤ ((vE b a.toNat : Nat) : Int) by omega), decide_eq_true (show ((vE b a.toNat : Nat) : Int) ≤ (b.length : Int) by omega), decide_eq_true rfl, decide_eq_true (show ps.length + 1 ≤ 9223372036854775807 by omega), decide_eq_true (show (ps.length + 1) * 24 ≤ 140737488355328 by omega), hpc] at hone
      simp only [Bool.and_self, cond_true] at hone
      unfold spN at hone
      rw [show Nat.blt (b.length - ((vE b a.toNat : Nat) : Int).toNat) N = true by rw [Nat.blt_eq, Int.toNat_natCast]; omega, cond_true, dec_iff.2 ⟨by rw [Int.toNat_natCast]; exact hs.1, hb, hl, by simp, by omega, by omega, by rw [Int.toNat_natCast]; simp; omega⟩, cond_true, Int.toNat_natCast, List.append_assoc, List.singleton_append, ← hs.2] at hone
      cases h
      exact .inl ⟨_, congrArg crun hone, fun x => rfl⟩
    · rw [show w64 (a + 3) = a + 3 from w64_id (by omega) (by omega), decide_eq_false (show ¬ a + 3 < (b.length : Int) by omega), cond_false] at hrd
      rw [show splL b a.toNat = [] by rw [splL, if_neg hlt], List.append_nil] at h
      cases h
      exact .inr ⟨_, _, congrArg crun hrd, sp_ren⟩
 · cases h)
noncomputable abbrev T15 : LTab := ltab [("s", e15)]
noncomputable abbrev m15 : Code := markC [(3, "s")] body15
noncomputable def split_b : CSumm := bodyCL Tryz.prog (openT Tryz.prog (tbl []) 300 5) (fun _ => false) T15 true 300 Tryz.f15 m15
theorem split_k0 : Known Tryz.prog 15 split_b := ⟨⟨Tryz.f15, Tryz.func15, noNum_at noNumTry Tryz.func15, rfl⟩, bodyL_valid (openT_ok noNumTry mixTry ok0 300 5) mixTry (ltab_cons sp_valid ltab_nil) Tryz.func15 (show Tryz.f15.body = some (fillC T15 m15) by kernel_rfl)⟩
theorem split_t (b : List SV) : split_b [.psl 5 b] [] = bif dec (spOk b 0 [] 0 ∧ (0 : Int).toNat + 3 < b.length) then .ret (.qs 0 1 0 (splL b (0 : Int).toNat).length) [(0, some (.seq 22 (splL b (0 : Int).toNat)))] else .fail := by kernel_rfl
noncomputable def split_s : CSumm := fun args H => match args, H with
 | [.psl 5 b], [] => .ite (dec (splG b 0 = true ∧ byl b ∧ b.length ≤ 100000 ∧ 3 < b.length)) (.ret (.qs 0 1 0 (splL b 0).length) [(0, some (.seq 22 (splL b 0)))]) .fail
 | _, _ => .fail
theorem split_k : Known Tryz.prog 15 split_s := split_k0.weak (by
 intro args H v ups h
 unfold split_s at h
 split at h
 · rename_i b
   rw [crun_ite] at h
   cases hc : dec _ with
   | false => rw [hc] at h; cases h
   | true =>
    rw [hc, cond_true] at h
    obtain ⟨h1, h2, h3, h4⟩ := dec_iff.1 hc
    refine (congrArg crun (split_t b)).trans ?_
    rw [dec_iff.2 ⟨⟨h1, h2, h3, rfl, by omega, by omega, by simp; omega⟩, by simpa using h4⟩]
    exact h
 · cases h)
end Go.Proofs.YtdgnhaacdpmclaaGreat
