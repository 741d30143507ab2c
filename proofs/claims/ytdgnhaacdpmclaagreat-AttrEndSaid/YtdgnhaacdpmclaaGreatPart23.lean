/- split: a round of its loop; the loop; the function. -/
import Derived.Test.YtdgnhaacdpmclaaGreatPart22
import Derived.Test.YtdgnhaacdpmclaaGreatPart21
set_option linter.unusedVariables false
set_option linter.unusedSimpArgs false
namespace Go.Proofs.YtdgnhaacdpmclaaGreat
open Go.Am
set_option maxRecDepth 100000
def spE1 (b : List SV) (a : Int) : Int := w64 (w64 (a + 3) + w64 (dg b (w64 (a + 2)).toNat))
def spE2 (b : List SV) (a : Int) : Int := w64 (w64 (w64 (a + 4) + w64 (256 * w64 (dg b (w64 (a + 2)).toNat))) + w64 (dg b (w64 (a + 3)).toNat))
def spPc (b : List SV) (a e : Int) : List SV := (b.drop a.toNat).take (e.toNat - a.toNat)
noncomputable def spN (N : Nat) (b : List SV) (m : Nat) (ps : List SV) (a : Int) : CTree :=
 bif Nat.blt (b.length - a.toNat) N then bif dec (spOk b m ps a) then .ret (.tup [.int .i64 2, .junk, .qs 1 1 0 (ps ++ splL b a.toNat).length]) [(0, none), (1, some (.seq 22 (ps ++ splL b a.toNat)))] else .fail else .fail
noncomputable def spK (N : Nat) (b : List SV) (m : Nat) (ps : List SV) (a e : Int) : CTree :=
 bif decide (e > b.length) then .ret (.tup [.int .i64 1, .qs 0 1 0 m, .qs 0 1 0 m]) [] else bif decide (0 ≤ a) && decide (a ≤ e) && decide (e ≤ b.length) then
  bif decide (m = ps.length) then bif decide (ps.length + 1 ≤ 9223372036854775807) && decide ((ps.length + 1) * 24 ≤ 140737488355328) then spN N b (ps.length + 1) (ps ++ [.psl 5 (spPc b a e)]) e else .fail else .fail else .fail
theorem sp_t (N m : Nat) (b ps : List SV) (a : Int) : loopOnce Tryz.prog (openT Tryz.prog (tbl []) 300 5) (fun _ => false) (ltab []) true 300 e15 { e15 with s := boundT spM sp_s N } c15 [.psl 5 b, .qs 0 1 0 m, .int .i64 a] [(0, .seq 22 ps)] =
 bif decide (w64 (a + 3) < b.length) then bif inB (w64 (a + 2)) b.length then bif inB a b.length then bif andI .u8 (dg b a.toNat) 16 != 0 then
  bif inB (w64 (a + 2)) b.length then bif inB (w64 (a + 3)) b.length then spK N b m ps a (spE2 b a) else .fail else .fail
 else spK N b m ps a (spE1 b a) else .fail else .fail
 else .ret (.tup [.int .i64 2, .junk, .qs 0 1 0 m]) [] := by kernel_rfl
noncomputable def spKn (N : Nat) (b : List SV) (a e : Int) : CTree :=
 bif decide (e > b.length) then .ret (.tup [.int .i64 1, .nils, .nils]) [] else bif decide (0 ≤ a) && decide (a ≤ e) && decide (e ≤ b.length) then
  bif decide (0 + 1 ≤ 9223372036854775807) && decide ((0 + 1) * 24 ≤ 140737488355328) then
   (bif Nat.blt (b.length - e.toNat) N then bif dec (spOk b 1 [.psl 5 (spPc b a e)] e) then .ret (.tup [.int .i64 2, .junk, .qs 0 1 0 (SV.psl 5 (spPc b a e) :: splL b e.toNat).length]) [(0, some (.seq 22 (SV.psl 5 (spPc b a e) :: splL b e.toNat)))] else .fail else .fail) else .fail else .fail
theorem sp_n (N : Nat) (b : List SV) (a : Int) : loopOnce Tryz.prog (openT Tryz.prog (tbl []) 300 5) (fun _ => false) (ltab []) true 300 e15 { e15 with s := boundT spM sp_s N } c15 [.psl 5 b, .nils, .int .i64 a] [] =
 bif decide (w64 (a + 3) < b.length) then bif inB (w64 (a + 2)) b.length then bif inB a b.length then bif andI .u8 (dg b a.toNat) 16 != 0 then
  bif inB (w64 (a + 2)) b.length then bif inB (w64 (a + 3)) b.length then spKn N b a (spE2 b a) else .fail else .fail
 else spKn N b a (spE1 b a) else .fail else .fail
 else .ret (.tup [.int .i64 2, .junk, .nils]) [] := by kernel_rfl
theorem spE_eq {b : List SV} (hb : byl b) (hl : b.length ≤ 100000) {a : Int} (h0 : 0 ≤ a) (h3 : a + 3 < b.length) : (bif andI .u8 (dg b a.toNat) 16 != 0 then spE2 b a else spE1 b a) = (vE b a.toNat : Nat) := by
 obtain ⟨r1, r2⟩ := hb.ok (a.toNat + 2)
 obtain ⟨q1, q2⟩ := hb.ok (a.toNat + 3)
 have w2 : w64 (a + 2) = a + 2 := w64_id (by omega) (by omega)
 have w3 : w64 (a + 3) = a + 3 := w64_id (by omega) (by omega)
 have w4 : w64 (a + 4) = a + 4 := w64_id (by omega) (by omega)
 have t2 : (a + 2).toNat = a.toNat + 2 := by omega
 have t3 : (a + 3).toNat = a.toNat + 3 := by omega
 by_cases hf : andI .u8 (dg b a.toNat) 16 = 0
 · rw [show (andI .u8 (dg b a.toNat) 16 != 0) = false by simpa using hf, cond_false]
   have hh : hdN b a.toNat = 3 := by unfold hdN; rw [if_neg (by simpa using hf)]
   have hln : (lnN b a.toNat : Int) = dg b (a.toNat + 2) := by
    unfold lnN; rw [hh, show 3 - 2 = 1 from rfl, tk1]; omega
   unfold spE1 vE
   rw [w2, w3, t2, show w64 (dg b (a.toNat + 2)) = dg b (a.toNat + 2) from w64_id (by omega) (by omega), show w64 (a + 3 + dg b (a.toNat + 2)) = a + 3 + dg b (a.toNat + 2) from w64_id (by omega) (by omega), hh]
   omega
 · rw [show (andI .u8 (dg b a.toNat) 16 != 0) = true by simpa using hf, cond_true]
   have hh : hdN b a.toNat = 4 := by unfold hdN; rw [if_pos hf]
   have hln : (lnN b a.toNat : Int) = 256 * dg b (a.toNat + 2) + dg b (a.toNat + 3) := by
    unfold lnN; rw [hh, show 4 - 2 = 2 from rfl]
    have : tkN b (a.toNat + 2) 2 = 256 * dg b (a.toNat + 2) + dg b (a.toNat + 3) := by
     show (0 * 256 + dg b (a.toNat + 2 + 0)) * 256 + dg b (a.toNat + 2 + 1) = _
     rw [Nat.add_zero, show a.toNat + 2 + 1 = a.toNat + 3 from rfl]; omega
    rw [this]; omega
   unfold spE2 vE
   rw [w2, w3, w4, t2, t3, show w64 (dg b (a.toNat + 2)) = dg b (a.toNat + 2) from w64_id (by omega) (by omega), show w64 (dg b (a.toNat + 3)) = dg b (a.toNat + 3) from w64_id (by omega) (by omega), show w64 (256 * dg b (a.toNat + 2)) = 256 * dg b (a.toNat + 2) from w64_id (by omega) (by omega), show w64 (a + 4 + 256 * dg b (a.toNat + 2)) = a + 4 + 256 * dg b (a.toNat + 2) from w64_id (by omega) (by omega), show w64 (a + 4 + 256 * dg b (a.toNat + 2) + dg b (a.toNat + 3)) = a + 4 + 256 * dg b (a.toNat + 2) + dg b (a.toNat + 3) from w64_id (by omega) (by omega), hh]
   omega
theorem sp_ren {ps : List SV} {m : Nat} : Renamed (spH ps) (.tup [.int .i64 2, .junk, .qs 0 1 0 m]) [] (.tup [.int .i64 2, .junk, .qs 1 1 0 m]) [(0, none), (1, some (.seq 22 ps))] := by
 refine ⟨0, 1, by simp [spH], by simp [namesS, namesL], fun x c hx => ?_, rfl, fun x => ?_⟩
 · have := HpL_get_some _ _ _ hx
   simp only [spH, List.mem_cons, Prod.mk.injEq, List.not_mem_nil, or_false] at this
   obtain ⟨_, rfl⟩ := this
   simp [namesC]
 · match x with
   | 0 => rfl
   | 1 => rfl
   | x + 2 =>
    simp only [updF, spH, HpL.get, show ¬ (x + 2 = 1) by omega, show ¬ (x + 2 = 0) by omega, if_false, show Nat.beq 0 (x + 2) = false from nb_f (by omega), cond_false, Option.map_none]
theorem sp_valid : ValidL Tryz.prog e15 := loop_valid2 (κ := openT Tryz.prog (tbl []) 300 5) (ι := fun _ => false) (T := ltab []) (sp := true) (fuel := 300) (c := c15) (μ := spM) (openT_ok noNumTry mixTry ok0 300 5) mixTry ltab_nil (show fillC (ltab []) c15 = c15 by kernel_rfl) (by
 intro N args H v' ups' hbt h
 unfold e15 sp_s at h
 simp only [] at h
 split at h
 · rename_i b a
   rw [crun_ite] at h
   cases hc : dec (spOk b 0 [] a ∧ a.toNat + 3 < b.length) with
   | false => rw [hc] at h; cases h
   | true =>
    rw [hc, cond_true] at h
    obtain ⟨⟨hg, hb, hl, -, h0, ha, hz⟩, hlt⟩ := dec_iff.1 hc
    have hrd := sp_n N b a
    have hN : Nat.blt (b.length - a.toNat) (N + 1) = true := hbt
    rw [Nat.blt_eq] at hN
    have hw : ∀ k : Int, 0 ≤ k → k ≤ 4 → w64 (a + k) = a + k := fun k _ _ => w64_id (by omega) (by omega)
    have hE := spE_eq hb hl h0 (show a + 3 < b.length by omega)
    have hEl : vE b a.toNat ≤ b.length := by
     rw [splG, if_pos hlt] at hg
     by_cases hx : vE b a.toNat ≤ b.length
     · exact hx
     · rw [if_neg hx] at hg; cases hg
    have hge : a.toNat + 3 ≤ vE b a.toNat := by have := hdN_ge (es := b) (a := a.toNat); unfold vE; omega
    rw [hw 3 (by omega) (by omega), hw 2 (by omega) (by omega), decide_eq_true (show a + 3 < (b.length : Int) by omega), cond_true, show inB (a + 2) b.length = true by unfold inB; simp; omega, cond_true, show inB a b.length = true by unfold inB; simp; omega, cond_true, show inB (a + 3) b.length = true by unfold inB; simp; omega, cond_true, cond_true] at hrd
    have hone : loopOnce Tryz.prog (openT Tryz.prog (tbl []) 300 5) (fun _ => false) (ltab []) true 300 e15 { e15 with s := boundT spM sp_s N } c15 [.psl 5 b, .nils, .int .i64 a] [] = spKn N b a ((vE b a.toNat : Nat) : Int) := by
     rw [hrd, ← hE]
     cases andI .u8 (dg b a.toNat) 16 != 0 <;> rfl
    have hpc : spPc b a ((vE b a.toNat : Nat) : Int) = vl b a.toNat (vE b a.toNat) := by unfold spPc vl sl; rw [Int.toNat_natCast]
    have hs : splG b (vE b a.toNat) = true ∧ splL b a.toNat = .psl 5 (vl b a.toNat (vE b a.toNat)) :: splL b (vE b a.toNat) := by
     rw [splG, if_pos hlt, if_pos hEl] at hg
     refine ⟨hg, ?_⟩
     rw [splL, if_pos hlt, if_pos hEl]
    unfold spKn at hone
    rw [decide_eq_false (show ¬ ((vE b a.toNat : Nat) : Int) > b.length by omega), cond_false, decide_eq_true h0, decide_eq_true (show a ≤ ((vE b a.toNat : Nat) : Int) by omega), decide_eq_true (show ((vE b a.toNat : Nat) : Int) ≤ (b.length : Int) by omega), decide_eq_true (show 0 + 1 ≤ 9223372036854775807 by omega), decide_eq_true (show (0 + 1) * 24 ≤ 140737488355328 by omega), hpc] at hone
    simp only [Bool.and_self, cond_true] at hone
    rw [show Nat.blt (b.length - ((vE b a.toNat : Nat) : Int).toNat) N = true by rw [Nat.blt_eq, Int.toNat_natCast]; omega, cond_true, dec_iff.2 ⟨by rw [Int.toNat_natCast]; exact hs.1, hb, hl, rfl, by omega, by omega, by rw [Int.toNat_natCast]; simp; omega⟩, cond_true, Int.toNat_natCast, ← hs.2] at hone
    cases h
    exact .inl ⟨_, congrArg crun hone, fun x => rfl⟩
 · rename_i b m a ps
   rw [crun_ite] at h
   cases hc : dec (spOk b m ps a) with
   | false => rw [hc] at h; cases h
   | true =>
    rw [hc, cond_true] at h
    obtain ⟨hg, hb, hl, rfl, h0, ha, hz⟩ := dec_iff.1 hc
    have hrd := sp_t N ps.length b ps a
    have hN : Nat.blt (b.length - a.toNat) (N + 1) = true := hbt
    rw [Nat.blt_eq] at hN
    by_cases hlt : a.toNat + 3 < b.length
    · have hw : ∀ k : Int, 0 ≤ k → k ≤ 4 → w64 (a + k) = a + k := fun k _ _ => w64_id (by omega) (by omega)
      have hE := spE_eq hb hl h0 (show a + 3 < b.length by omega)
      have hEl : vE b a.toNat ≤ b.length := by
       rw [splG, if_pos hlt] at hg
       by_cases hx : vE b a.toNat ≤ b.length
       · exact hx
       · rw [if_neg hx] at hg; cases hg
      have hge : a.toNat + 3 ≤ vE b a.toNat := by have := hdN_ge (es := b) (a := a.toNat); unfold vE; omega
      rw [hw 3 (by omega) (by omega), hw 2 (by omega) (by omega), decide_eq_true (show a + 3 < (b.length : Int) by omega), cond_true, show inB (a + 2) b.length = true by unfold inB; simp; omega, cond_true, show inB a b.length = true by unfold inB; simp; omega, cond_true, show inB (a + 3) b.length = true by unfold inB; simp; omega, cond_true, cond_true] at hrd
      have hone : loopOnce Tryz.prog (openT Tryz.prog (tbl []) 300 5) (fun _ => false) (ltab []) true 300 e15 { e15 with s := boundT spM sp_s N } c15 [.psl 5 b, .qs 0 1 0 ps.length, .int .i64 a] [(0, .seq 22 ps)] = spK N b ps.length ps a ((vE b a.toNat : Nat) : Int) := by
       rw [hrd, ← hE]
       cases andI .u8 (dg b a.toNat) 16 != 0 <;> rfl
      have hpc : spPc b a ((vE b a.toNat : Nat) : Int) = vl b a.toNat (vE b a.toNat) := by unfold spPc vl sl; rw [Int.toNat_natCast]
      have hs : splG b (vE b a.toNat) = true ∧ splL b a.toNat = .psl 5 (vl b a.toNat (vE b a.toNat)) :: splL b (vE b a.toNat) := by
       rw [splG, if_pos hlt, if_pos hEl] at hg
       refine ⟨hg, ?_⟩
       rw [splL, if_pos hlt, if_pos hEl]
      unfold spK at hone
      rw [decide_eq_false (show ¬ ((vE b a.toNat : Nat) : Int) > b.length by omega), cond_false, decide_eq_true h0, decide_eq_true (show a ≤ ((vE b a.toNat : Nat) : Int) by omega), decide_eq_true (show ((vE b a.toNat : Nat) : Int) ≤ (b.length : Int) by omega), decide_eq_true rfl, decide_eq_true (show ps.length + 1 ≤ 9223372036854775807 by omega), decide_eq_true (show (ps.length + 1) * 24 ≤ 140737488355328 by omega), hpc] at hone
      simp only [Bool.and_self, cond_true] at hone
      unfold spN at hone
      rw [show Nat.blt (b.length - ((vE b a.toNat : Nat) : Int).toNat) N = true by rw [Nat.blt_eq, Int.toNat_natCast]; omega, cond_true, dec_iff.2 ⟨by rw [Int.toNat_natCast]; exact hs.1, hb, hl, by simp, by omega, by omega, by rw [Int.toNat_natCast]; simp; omega⟩, cond_true, Int.toNat_natCast, List.append_assoc, List.singleton_append, ← hs.2] at hone
      cases h
      exact .inl ⟨_, congrArg crun hone, fun x => rfl⟩
    · rw [show w64 (a + 3) = a + 3 from w64_id (by omega) (by omega), decide_eq_false (show ¬ a + 3 < (b.length : Int) by omega), cond_false] at hrd
      rw [show splL b a.toNat = [] by rw [splL, if_neg hlt], List.append_nil] at h
      cases h
      exact .inr ⟨_, _, congrArg crun hrd, sp_ren⟩
 · cases h)
noncomputable abbrev T15 : LTab := ltab [("s", e15)]
noncomputable abbrev m15 : Code := markC [(3, "s")] body15
noncomputable def split_b : CSumm := bodyCL Tryz.prog (openT Tryz.prog (tbl []) 300 5) (fun _ => false) T15 true 300 Tryz.f15 m15
theorem split_k0 : Known Tryz.prog 15 split_b := ⟨⟨Tryz.f15, Tryz.func15, noNum_at noNumTry Tryz.func15, rfl⟩, bodyL_valid (openT_ok noNumTry mixTry ok0 300 5) mixTry (ltab_cons sp_valid ltab_nil) Tryz.func15 (show Tryz.f15.body = some (fillC T15 m15) by kernel_rfl)⟩
theorem split_t (b : List SV) : split_b [.psl 5 b] [] = bif dec (spOk b 0 [] 0 ∧ (0 : Int).toNat + 3 < b.length) then .ret (.qs 0 1 0 (splL b (0 : Int).toNat).length) [(0, some (.seq 22 (splL b (0 : Int).toNat)))] else .fail := by kernel_rfl
noncomputable def split_s : CSumm := fun args H => match args, H with
 | [.psl 5 b], [] => .ite (dec (splG b 0 = true ∧ byl b ∧ b.length ≤ 100000 ∧ 3 < b.length)) (.ret (.qs 0 1 0 (splL b 0).length) [(0, some (.seq 22 (splL b 0)))]) .fail
 | _, _ => .fail
theorem split_k : Known Tryz.prog 15 split_s := split_k0.weak (by
 intro args H v ups h
 unfold split_s at h
 split at h
 · rename_i b
   rw [crun_ite] at h
   cases hc : dec _ with
   | false => rw [hc] at h; cases h
   | true =>
    rw [hc, cond_true] at h
    obtain ⟨h1, h2, h3, h4⟩ := dec_iff.1 hc
    refine (congrArg crun (split_t b)).trans ?_
    rw [dec_iff.2 ⟨⟨h1, h2, h3, rfl, by omega, by omega, by simp; omega⟩, by simpa using h4⟩]
    exact h
 · cases h)
end Go.Proofs.YtdgnhaacdpmclaaGreat
/- The pieces of what Bytes writes; reading some of them, in any order. -/
namespace Go.Proofs.YtdgnhaacdpmclaaGreat
open Go.Am
set_option maxRecDepth 100000
theorem splG_end {es : List SV} {a : Nat} (h : ¬ a + 3 < es.length) : splG es a = true := by rw [splG, if_neg h]
theorem splL_end {es : List SV} {a : Nat} (h : ¬ a + 3 < es.length) : splL es a = [] := by rw [splL, if_neg h]
theorem splG_go {es : List SV} {a : Nat} (h : a + 3 < es.length) (hE : vE es a ≤ es.length) : splG es a = splG es (vE es a) := by rw [splG, if_pos h, if_pos hE]
theorem splL_go {es : List SV} {a : Nat} (h : a + 3 < es.length) (hE : vE es a ≤ es.length) : splL es a = .psl 5 (vl es a (vE es a)) :: splL es (vE es a) := by rw [splL, if_pos h, if_pos hE]
theorem atB_ge (f c : Int) (v : List SV) : 3 + v.length ≤ (atB f c v).length := by
 unfold atB
 cases decide ((v.length : Int) > 255) <;> simp [hdL, hdS, be_len] <;> omega
def pcK (a : At) (R U : List SV) (k : Nat) : SV := .psl 5 (putB k a R U)
def lastK (a : At) (R U : List SV) : List Nat → Prop
 | [] => True
 | k :: ks => (wrB k a R U = true → valB k a R U ≠ [] ∨ rowsB a R U ks ≠ []) ∧ lastK a R U ks
theorem spl_row {pre post es : List SV} {r : Nat} {a : At} {R U : List SV} (hr : r ≤ 9) (hw : wrB r a R U = true) (hes : es = pre ++ (putB r a R U ++ post)) (hv : (valB r a R U).length ≤ 65535) (hl : valB r a R U ≠ [] ∨ post ≠ []) :
  splG es pre.length = splG es (pre ++ putB r a R U).length ∧ splL es pre.length = pcK a R U r :: splL es (pre ++ putB r a R U).length := by
 have hp : putB r a R U = atB (flagR r) (codeR r) (valB r a R U) := by unfold putB; rw [hw]; rfl
 obtain ⟨p1, p2, p3, p4, p5, p6⟩ := at_parts (hp ▸ hes) (fit_row r hr).1 hv
 rw [← hp] at p3
 have hge := atB_ge (flagR r) (codeR r) (valB r a R U)
 rw [← hp] at hge
 have hL : es.length = pre.length + ((putB r a R U).length + post.length) := by rw [hes, List.length_append, List.length_append]
 have h3 : pre.length + 3 < es.length := by
  rcases hl with h | h
  · have := List.length_pos_iff.2 h; omega
  · have := List.length_pos_iff.2 h; omega
 have hE : vE es pre.length ≤ es.length := by omega
 have hvl : vl es pre.length (vE es pre.length) = putB r a R U := by
  unfold vl sl
  rw [p3, hes, List.drop_left, show pre.length + (putB r a R U).length - pre.length = (putB r a R U).length by omega, List.take_left]
 rw [splG_go h3 hE, splL_go h3 hE, hvl, p3, List.length_append]
 exact ⟨rfl, rfl⟩
theorem spl_rows {a : At} {R U es : List SV} (hv : ∀ r, (valB r a R U).length ≤ 65535) : ∀ (ks : List Nat) (pre : List SV), es = pre ++ rowsB a R U ks → (∀ r ∈ ks, r ≤ 9) → lastK a R U ks →
  splG es pre.length = true ∧ splL es pre.length = (ks.filter (fun k => wrB k a R U)).map (pcK a R U)
 | [], pre, hes, _, _ => by
  have hl : es.length = pre.length := by rw [hes, rowsB, List.append_nil]
  exact ⟨splG_end (by omega), splL_end (by omega)⟩
 | k :: ks, pre, hes, h9, ⟨hk, hl⟩ => by
  have hes2 : es = (pre ++ putB k a R U) ++ rowsB a R U ks := by rw [hes, rowsB, List.append_assoc]
  obtain ⟨i1, i2⟩ := spl_rows hv ks (pre ++ putB k a R U) hes2 (fun r hr => h9 r (by simp [hr])) hl
  cases hw : wrB k a R U with
  | true =>
   obtain ⟨s1, s2⟩ := spl_row (es := es) (pre := pre) (post := rowsB a R U ks) (h9 k (by simp)) hw (by rw [hes, rowsB]) (hv k) (hk hw)
   rw [s1, s2, i1, i2, List.filter_cons, if_pos hw]
   exact ⟨rfl, rfl⟩
  | false =>
   have hp : putB k a R U = [] := by unfold putB; rw [hw]; rfl
   rw [hp, List.append_nil] at i1 i2
   rw [List.filter_cons, if_neg (by rw [hw]; decide)]
   exact ⟨i1, i2⟩
def wk (a : At) (R U : List SV) : List Nat := allK.filter (fun k => wrB k a R U)
theorem val_ne {a : At} {R U : List SV} : ∀ k, k ≠ 1 → k ≤ 9 → wrB k a R U = true → valB k a R U ≠ []
 | 0, _, _, _ => by show be _ 1 ≠ []; simp [be]
 | 1, h, _, _ => absurd rfl h
 | 2, _, _, _ => by show be _ 4 ≠ []; simp [be]
 | 3, _, _, _ => by show be _ 4 ≠ []; simp [be]
 | 4, _, _, _ => by show be _ 4 ≠ []; simp [be]
 | 5, _, _, h => by
  have h : ((a.cl.length : Int) > 0) := of_decide_eq_true h
  intro e
  have := wds_len a.cl a.cl.length 0
  rw [show wds a.cl.length a.cl 0 = [] from e, List.length_nil] at this
  omega
 | 6, _, _, _ => by
  intro e
  have : (reachB a R).length = 0 := by rw [show reachB a R = [] from e]; rfl
  simp [reachB, fam, be_len] at this
 | 7, _, _, _ => by
  intro e
  have : (unreachB U).length = 0 := by rw [show unreachB U = [] from e]; rfl
  simp [unreachB, fam, be_len] at this
 | 8, _, _, h => by
  have h : ((a.cm.length : Int) > 0) := of_decide_eq_true h
  intro e
  have := cmBs_len a.cm a.cm.length 0
  rw [show cmBs a.cm.length a.cm 0 = [] from e, List.length_nil] at this
  omega
 | 9, _, _, _ => by
  intro e
  have : (tunA a).length = 0 := by rw [show tunA a = [] from e]; rfl
  unfold tunA at this
  cases hk : a.tk == 3 <;> rw [hk] at this <;> simp [tunB, tunG, be_len] at this
 | k + 10, _, h, _ => by omega
theorem putB_ne {a : At} {R U : List SV} {k : Nat} (h : wrB k a R U = true) : putB k a R U ≠ [] := by
 unfold putB
 rw [h, cond_true]
 intro e
 have := atB_ge (flagR k) (codeR k) (valB k a R U)
 rw [e, List.length_nil] at this
 omega
theorem rowsB_app (a : At) (R U : List SV) : ∀ ks ls, rowsB a R U (ks ++ ls) = rowsB a R U ks ++ rowsB a R U ls
 | [], _ => rfl
 | k :: ks, ls => by rw [List.cons_append, rowsB, rowsB, rowsB_app a R U ks ls, List.append_assoc]
theorem last_all (a : At) (R U : List SV) : lastK a R U allK := by
 have hne : ∀ k ks, k ≠ 1 → k ≤ 9 → (wrB k a R U = true → valB k a R U ≠ [] ∨ rowsB a R U ks ≠ []) := fun k ks h h9 hw => .inl (val_ne k h h9 hw)
 refine ⟨hne 0 _ (by decide) (by decide), fun hw => .inr ?_, hne 2 _ (by decide) (by decide), hne 3 _ (by decide) (by decide), hne 4 _ (by decide) (by decide), hne 5 _ (by decide) (by decide), hne 6 _ (by decide) (by decide), hne 7 _ (by decide) (by decide), hne 8 _ (by decide) (by decide), hne 9 _ (by decide) (by decide), trivial⟩
 have h6 : wrB 6 a R U = true := hw
 have := putB_ne h6
 intro e
 rw [show [2, 3, 4, 5, 6, 7, 8, 9] = [2, 3, 4, 5] ++ (6 :: [7, 8, 9]) from rfl, rowsB_app] at e
 have e2 := (List.append_eq_nil_iff.1 e).2
 rw [rowsB] at e2
 exact this (List.append_eq_nil_iff.1 e2).1
theorem spl_all {a : At} {R U : List SV} (hv : ∀ r, (valB r a R U).length ≤ 65535) : splG (allB a R U) 0 = true ∧ splL (allB a R U) 0 = (wk a R U).map (pcK a R U) :=
 spl_rows (es := allB a R U) hv allK [] (by rw [rowsB_all]; rfl) (by decide) (last_all a R U)
theorem dg_code {a : At} {R U : List SV} {k : Nat} (h : wrB k a R U = true) : dg (putB k a R U) 1 = codeR k := by
 unfold putB
 rw [h, cond_true]
 unfold atB
 cases decide (((valB k a R U).length : Int) > 255) <;> rfl
def fP (p : Int → Bool) : List SV → List SV
 | [] => []
 | x :: xs => (bif p (dg (asL x) 1) then asL x else []) ++ fP p xs
theorem fP_rows {a : At} {R U : List SV} (p : Int → Bool) : ∀ ks : List Nat, fP p ((ks.filter (fun k => wrB k a R U)).map (pcK a R U)) = rowsB a R U (ks.filter (fun k => p (codeR k)))
 | [] => rfl
 | k :: ks => by
  have ih := fP_rows (a := a) (R := R) (U := U) p ks
  cases hw : wrB k a R U with
  | true =>
   rw [List.filter_cons, if_pos hw, List.map_cons, fP, ih]
   show (bif p (dg (putB k a R U) 1) then putB k a R U else []) ++ _ = _
   rw [dg_code hw, List.filter_cons]
   cases p (codeR k) <;> rfl
  | false =>
   have hp : putB k a R U = [] := by unfold putB; rw [hw]; rfl
   rw [List.filter_cons, if_neg (by rw [hw]; decide), ih, List.filter_cons]
   cases p (codeR k)
   · rfl
   · show _ = putB k a R U ++ _
     rw [hp]; rfl
section
variable {a : At} {r u : List SV} (h : Vd a r u)
include h
theorem Vd.vl (lr : r.length ≤ 20) (lu : u.length ≤ 20) : ∀ k, (valB k a (nbs r) (nbs u)).length ≤ 65535 := fun k => by
 have l1 := nbs_len r
 have l2 := nbs_len u
 have := valB_len h.va.ok (nbs r) (nbs u) k
 omega
theorem Vd.oks : ∀ k, k ≤ 9 → wrB k a (nbs r) (nbs u) = true → okC (codeR k) (valB k a (nbs r) (nbs u)) = true := ok_all h.va h.gr h.gu h.kr h.ku
theorem Vd.without (lr : r.length ≤ 20) (lu : u.length ≤ 20) : rdQ (rowsB a (nbs r) (nbs u) [0, 1, 2, 3, 4, 5, 7, 8, 9]) (rowsB a (nbs r) (nbs u) [0, 1, 2, 3, 4, 5, 7, 8, 9]).length = (0, 0, { dI0 with unr := u }) := by
 obtain ⟨y, hy⟩ := rows_read (es := rowsB a (nbs r) (nbs u) [0, 1, 2, 3, 4, 5, 7, 8, 9]) (h.vl lr lu) h.oks [0, 1, 2, 3, 4, 5, 7, 8, 9] [] 0 [] zI rfl (by decide) (by decide) (fun _ _ => rfl)
 unfold rdQ rdO
 rw [show ([] : List SV).length = 0 from rfl] at hy
 rw [hy]
 simp only [zF_d]
 rw [show lookB (sF a (nbs r) (nbs u) [0, 1, 2, 3, 4, 5, 7, 8, 9] []) 14 = false by rw [sF_lk]; simp [codeR, lookB]]
 have hd : (dF a (nbs r) (nbs u) [0, 1, 2, 3, 4, 5, 7, 8, 9] zI.d).unr = u := by
  have q0 : ∀ d : Ds, (bif wrB 0 a (nbs r) (nbs u) then gD (codeR 0) (valB 0 a (nbs r) (nbs u)) d else d) = (bif wrB 0 a (nbs r) (nbs u) then u0 a d else d) := fun d => by rw [show gD (codeR 0) (valB 0 a (nbs r) (nbs u)) d = u0 a d from (vlr0 h.va _ _ d).2]
  have q1 : ∀ d : Ds, (bif wrB 1 a (nbs r) (nbs u) then gD (codeR 1) (valB 1 a (nbs r) (nbs u)) d else d) = (bif wrB 1 a (nbs r) (nbs u) then u1 a d else d) := fun d => by rw [show gD (codeR 1) (valB 1 a (nbs r) (nbs u)) d = u1 a d from (vlr1 h.va _ _ d).2]
  rw [dF, q0, dF, q1]
  cases wrB 0 a (nbs r) (nbs u) <;> cases wrB 1 a (nbs r) (nbs u) <;>
  · rw [dF, er2 h.va _ rfl rfl, dF, er3 h.va _ rfl rfl, dF, er4 h.va _ rfl rfl, dF, er5 h.va _ rfl, dF, er7 h.gu h.ku _ rfl, dF_unr h.va]; rfl
 rw [hd]; rfl
theorem Vd.bare (lr : r.length ≤ 20) (lu : u.length ≤ 20) (hn : 0 < r.length) : rdQ (rowsB a (nbs r) (nbs u) [2, 3, 4, 5, 6, 7, 8, 9]) (rowsB a (nbs r) (nbs u) [2, 3, 4, 5, 6, 7, 8, 9]).length = (17, ((rowsB a (nbs r) (nbs u) [2, 3, 4, 5, 6, 7, 8, 9]).length : Int), dI0) := by
 obtain ⟨y, hy⟩ := rows_read (es := rowsB a (nbs r) (nbs u) [2, 3, 4, 5, 6, 7, 8, 9]) (h.vl lr lu) h.oks [2, 3, 4, 5, 6, 7, 8, 9] [] 0 [] zI rfl (by decide) (by decide) (fun _ _ => rfl)
 unfold rdQ rdO
 rw [show ([] : List SV).length = 0 from rfl] at hy
 have hR := nbs_pos.2 hn
 have w6 : wrB 6 a (nbs r) (nbs u) = true := decide_eq_true (by omega)
 rw [hy]
 rw [show lookB (sF a (nbs r) (nbs u) [2, 3, 4, 5, 6, 7, 8, 9] []) 14 = true by rw [sF_lk]; simp [codeR, lookB, w6], show lookB (sF a (nbs r) (nbs u) [2, 3, 4, 5, 6, 7, 8, 9] []) 1 = false by rw [sF_lk]; simp [codeR, lookB]]
 rfl
end
end Go.Proofs.YtdgnhaacdpmclaaGreat
/- AttrEnd: its loop. -/
namespace Go.Proofs.YtdgnhaacdpmclaaGreat
open Go.Am
set_option maxRecDepth 100000
noncomputable def bytesP_s : CSumm := fun args H => match args, H with
 | [x, .psl 49 r, .psl 49 u], [] => match atOf x with
  | some a => .ite (dec (Fit a r u ∧ chkAll a r u = 0)) (.ret (.tup [.psl 5 (allB a (nbs r) (nbs u)), .int .i64 0]) []) .fail
  | none => .fail
 | _, _ => .fail
theorem bytesP_k : Known Tryz.prog 14 bytesP_s := known_told bytesZ_k (by
 intro args H v ups h
 unfold bytesP_s at h
 split at h
 · rename_i x r u
   split at h
   · rename_i a ha
     rw [crun_ite] at h
     cases hc : dec (Fit a r u ∧ chkAll a r u = 0) with
     | false => rw [hc] at h; cases h
     | true =>
      rw [hc] at h
      cases h
      refine ⟨.tup [.qs 0 1 0 (allB a (nbs r) (nbs u)).length, .int .i64 0], [(0, some (.seq 5 (allB a (nbs r) (nbs u))))], ?_, .inl ⟨0, 5, allB a (nbs r) (nbs u), rfl, .tup (.cons (.qs rfl) .rfl'), fun x c' hx => by simp [updF, HpL.get] at hx⟩⟩
      unfold bytesZ_s
      simp only [ha]
      rw [crun_ite, hc]; rfl
   · cases h
 · cases h)
noncomputable def body6 : Code := Tryz.f6.body.getD .skip
noncomputable def c6 : Code := (loopAt 11 body6).getD .skip
def enH (ps W V : List SV) : HpL := [(0, .seq 22 ps), (1, .seq 5 W), (2, .seq 5 V)]
def p14 (c : Int) : Bool := c != 14
def p2b (c : Int) : Bool := decide (c > 2)
def enOk (n w v : Nat) (i : Int) (ps W V : List SV) : Prop := n = ps.length ∧ w = W.length ∧ v = V.length ∧ 0 ≤ i ∧ i ≤ n ∧ n ≤ 1000 ∧ (∀ x ∈ ps, 2 ≤ (asL x).length ∧ (asL x).length ≤ 100000) ∧ W.length + 100000 * (n - i.toNat) ≤ 200000000 ∧ V.length + 100000 * (n - i.toNat) ≤ 200000000
noncomputable def enR (W V : List SV) : CTree := .ret (.tup [.int .i64 2, .qs 3 1 0 W.length, .qs 4 1 0 V.length]) [(1, none), (2, none), (3, some (.seq 5 W)), (4, some (.seq 5 V))]
noncomputable def en_s : CSumm := fun args H => match args, H with
 | [.qs 0 1 0 n, .qs 1 1 0 w, .qs 2 1 0 v, .int .i64 i], [(0, .seq 22 ps), (1, .seq 5 W), (2, .seq 5 V)] => .ite (dec (enOk n w v i ps W V)) (enR (W ++ fP p14 (ps.drop i.toNat)) (V ++ fP p2b (ps.drop i.toNat))) .fail
 | _, _ => .fail
def enM : List SV → HpL → Nat
 | [.qs _ _ _ n, _, _, .int _ i], _ => n - i.toNat
 | _, _ => 0
noncomputable def e6 : LEnt := { ins := [9, 10, 11, 12], outs := [10, 11], keep := [2], size := 126, code := c6, s := en_s }
end Go.Proofs.YtdgnhaacdpmclaaGreat
