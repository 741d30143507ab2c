/- Attributes are read: clusters, the loop known. -/
import Derived.Test.YtnlmhpancboddaaGreatPart11
set_option linter.unusedVariables false
set_option linter.unusedSimpArgs false
namespace Go.Proofs.YtnlmhpancboddaaGreat
open Go.Am
set_option maxRecDepth 100000
theorem klB_no {r : Rd} {n : Nat} {es : List SV} {x : Ax} {b1 b2 : Bool} {d : Ds} {j : Nat} {l : List SV} : ∀ y c, (klB r n es x b1 b2 d j l).get y = some c → 6 ∉ namesC c := by
 intro y c hx
 have := HpL_get_some _ _ _ hx
 simp only [klB, List.mem_cons, Prod.mk.injEq, List.not_mem_nil, or_false] at this
 rcases this with ⟨_, rfl⟩ | ⟨_, rfl⟩ | ⟨_, rfl⟩ | ⟨_, rfl⟩ | ⟨_, rfl⟩ | ⟨_, rfl⟩ <;> cases b1 <;> cases b2 <;> simp [namesC, namesL, namesS, klX, dLx, aC, rCk, nz]
theorem klB_ren {r : Rd} {n : Nat} {es : List SV} {x : Ax} {b1 b2 : Bool} {d : Ds} {j : Nat} {l : List SV} : Renamed (klB r n es x b1 b2 d j l) (.tup [.int .i64 2, .bool true]) [] (.tup [.int .i64 2, .bool true]) [(1, some (klX (.qs 6 1 0 j) b1 b2 d)), (2, none), (4, some (rCk 5 r n)), (6, some (.seq 37 l))] := by
 refine ⟨2, 6, by simp [klB], by simp [namesS, namesL], klB_no, rfl, fun y => ?_⟩
 match y with
 | 0 => rfl
 | 1 => cases b1 <;> cases b2 <;> rfl
 | 2 => rfl
 | 3 => rfl
 | 4 => rfl
 | 5 => rfl
 | 6 => rfl
 | y + 7 =>
  have h2 : ∀ k, k < 7 → Nat.beq k (y + 7) = false := fun k hk => nb_f (by omega)
  have h1 : ∀ k, k < 7 → ¬ (y + 7 = k) := fun k hk => by omega
  simp only [updF, klB, HpL.get, h1 6 (by omega), h1 4 (by omega), h1 2 (by omega), h1 1 (by omega), if_false, h2 0 (by omega), h2 1 (by omega), h2 2 (by omega), h2 3 (by omega), h2 4 (by omega), h2 5 (by omega), cond_false, Option.map_none]
theorem klEl_ok {s t n : Nat} {es : List SV} (h1 : byl es) (h2 : n = es.length) (hr : OkRd (RD s t) es) (hq : s + 4 ≤ t) {K : SV → CTree} : klEl (RD s t) n es K = K (.int .u32 (tkN es s 4)) := by
 obtain ⟨k1, k2⟩ := tkN_rng h1.ok s 4
 unfold klEl
 rw [dec_iff.2 ⟨hr, h2⟩, cond_true, num_RD hq, w3_id k1 (Int.lt_of_lt_of_le k2 (by decide))]
theorem klNx_ok {N q s t n : Nat} {es : List SV} {x : Ax} {b1 b2 : Bool} {d : Ds} {ok : Bool} {m i : Int} {j : Nat} {l : List SV} (hN : (m - i).toNat < N) (hj : j = l.length) (hok : ok = true) (hl : l.length + (m - i).toNat ≤ 2000) (h : pOk 4 s t n es m i) (K : Chunk → Rd → List SV → CTree) :
  klNx N q (RD s t) n es x b1 b2 d ok m i j l K = K (klX (.qs q 1 0 (l.length + (m - i).toNat)) b1 b2 d) (RD (s + 4 * (m - i).toNat) t) (l ++ wd es s (m - i).toNat) := by
 unfold klNx
 rw [show Nat.blt (m - i).toNat N = true by rw [Nat.blt_eq]; exact hN, dec_iff.2 ⟨by subst hj; rfl, hok, by simpa [RD] using h, hl⟩]
 rfl
theorem kl_valid : ValidL Tryz.prog e58 := loop_valid2 (κ := κy) (ι := ιy) (T := ltab []) (sp := true) (fuel := 300) (c := c58) (μ := klM) (openT_ok noNumTry mixTry pttOk 300 5) mixTry ltab_nil (show fillC (ltab []) c58 = c58 by kernel_rfl) (by
 intro N args H v' ups' hbt h
 unfold e58 kl_s at h
 simp only [] at h
 split at h
 · rename_i m ok i x0 cs x1 off fl cd a e n x2 x3 x4 es
   split at h
   · rename_i y1 y2 y3 d hd
     rw [crun_ite] at h
     cases hc : dec _ with
     | false => rw [hc] at h; cases h
     | true =>
      rw [hc, cond_true, crun_ite] at h
      have hH := dec_iff.1 hc
      rw [hH]
      have hrd := kl_a N (RD a.toNat e.toNat) n es ⟨off, fl, cd⟩ y1 y3 d ok m i
      generalize a.toNat = s at *
      generalize e.toNat = t at *
      cases ok with
      | false =>
       rw [cond_false, cond_false] at hrd
       rw [cond_false] at h
       cases h
       exact .inl ⟨_, congrArg crun hrd, fun x => rfl⟩
      | true =>
       rw [cond_true, crun_ite] at h
       cases hc2 : dec (pOk 4 s t n es m i ∧ i < m) with
       | false => rw [hc2] at h; cases h
       | true =>
        rw [hc2, cond_true] at h
        obtain ⟨hp, hlt⟩ := dec_iff.1 hc2
        obtain ⟨q1, q2, q3⟩ := hp.next hlt
        have hr := hp.1.rd
        obtain ⟨⟨h1, h2, h3, h4, h5⟩, h6, h7, h8, h9⟩ := hp
        have hN : Nat.blt (m - i).toNat (N + 1) = true := hbt
        rw [Nat.blt_eq] at hN
        rw [cond_true, decide_eq_true hlt, cond_true, klEl_ok h1 h2 hr q2, adv_RD q2, w64_id (by omega) (by omega), klNx_ok (j := 1) (l := [SV.int IntKind.u32 (tkN es s 4)]) (by omega) rfl rfl (by simp; omega) q1] at hrd
        cases h
        refine .inl ⟨_, congrArg crun hrd, fun x => ?_⟩
        rw [wd_one (j := (m - i).toNat) (by omega), show (m - i).toNat - 1 = (m - (i + 1)).toNat by omega, show (m - i).toNat = (m - (i + 1)).toNat + 1 by omega, show s + 4 * ((m - (i + 1)).toNat + 1) = s + 4 + 4 * (m - (i + 1)).toNat by omega, Nat.add_comm _ 1]
        rfl
   · cases h
 · rename_i m ok i x0 cs l x1 off fl cd a e n x2 x3 x4 es
   split at h
   · rename_i y1 y2 y3 d hd
     rw [crun_ite] at h
     cases hc : dec _ with
     | false => rw [hc] at h; cases h
     | true =>
      rw [hc, cond_true] at h
      obtain ⟨hH, hok, hp, hl⟩ := dec_iff.1 hc
      subst hok
      rw [hH]
      have hrd := kl_b N (RD a.toNat e.toNat) n es ⟨off, fl, cd⟩ y1 y3 d true m i l.length l
      generalize a.toNat = s at *
      generalize e.toNat = t at *
      rw [cond_true] at hrd
      by_cases hlt : i < m
      · obtain ⟨q1, q2, q3⟩ := hp.next hlt
        have hr := hp.1.rd
        obtain ⟨⟨h1, h2, h3, h4, h5⟩, h6, h7, h8, h9⟩ := hp
        have hN : Nat.blt (m - i).toNat (N + 1) = true := hbt
        rw [Nat.blt_eq] at hN
        rw [decide_eq_true hlt, cond_true, klEl_ok h1 h2 hr q2, decide_eq_true rfl, cond_true, decide_eq_true (show l.length + 1 ≤ 9223372036854775807 by omega), decide_eq_true (show (l.length + 1) * 4 ≤ 140737488355328 by omega), Bool.and_self, cond_true, adv_RD q2, w64_id (by omega) (by omega), klNx_ok (j := l.length + 1) (l := l ++ [SV.int IntKind.u32 (tkN es s 4)]) (by omega) (by simp) rfl (by simp; omega) q1] at hrd
        cases h
        refine .inl ⟨_, congrArg crun hrd, fun x => ?_⟩
        rw [wd_one (j := (m - i).toNat) (by omega), show (m - i).toNat - 1 = (m - (i + 1)).toNat by omega, show (m - i).toNat = (m - (i + 1)).toNat + 1 by omega, show s + 4 * ((m - (i + 1)).toNat + 1) = s + 4 + 4 * (m - (i + 1)).toNat by omega, List.length_append, List.append_assoc]
        simp only [List.length_singleton, List.singleton_append, Nat.add_assoc, Nat.add_comm 1]
      · have hm : m = i := by have := hp.2.2.1; omega
        subst hm
        rw [decide_eq_false hlt, cond_false] at hrd
        cases h
        refine .inr ⟨_, _, congrArg crun hrd, ?_⟩
        rw [show (m - m).toNat = 0 by omega]
        simp only [wd, List.append_nil, Nat.add_zero, Nat.mul_zero]
        exact klB_ren
   · cases h
 · cases h)
end Go.Proofs.YtnlmhpancboddaaGreat
/- Attributes are read: communities, the loop known. -/
namespace Go.Proofs.YtnlmhpancboddaaGreat
open Go.Am
set_option maxRecDepth 100000
theorem kmB_no {r : Rd} {n : Nat} {es : List SV} {x : Ax} {b1 b2 : Bool} {d : Ds} {j : Nat} {l : List SV} : ∀ y c, (kmB r n es x b1 b2 d j l).get y = some c → 6 ∉ namesC c := by
 intro y c hx
 have := HpL_get_some _ _ _ hx
 simp only [kmB, List.mem_cons, Prod.mk.injEq, List.not_mem_nil, or_false] at this
 rcases this with ⟨_, rfl⟩ | ⟨_, rfl⟩ | ⟨_, rfl⟩ | ⟨_, rfl⟩ | ⟨_, rfl⟩ | ⟨_, rfl⟩ <;> cases b1 <;> cases b2 <;> simp [namesC, namesL, namesS, kmX, dLx, aC, rCk, nz]
theorem kmB_ren {r : Rd} {n : Nat} {es : List SV} {x : Ax} {b1 b2 : Bool} {d : Ds} {j : Nat} {l : List SV} : Renamed (kmB r n es x b1 b2 d j l) (.tup [.int .i64 2, .bool true]) [] (.tup [.int .i64 2, .bool true]) [(1, some (kmX (.qs 6 8 0 j) b1 b2 d)), (2, none), (4, some (rCk 5 r n)), (6, some (.seq 136 l))] := by
 refine ⟨2, 6, by simp [kmB], by simp [namesS, namesL], kmB_no, rfl, fun y => ?_⟩
 match y with
 | 0 => rfl
 | 1 => cases b1 <;> cases b2 <;> rfl
 | 2 => rfl
 | 3 => rfl
 | 4 => rfl
 | 5 => rfl
 | 6 => rfl
 | y + 7 =>
  have h2 : ∀ k, k < 7 → Nat.beq k (y + 7) = false := fun k hk => nb_f (by omega)
  have h1 : ∀ k, k < 7 → ¬ (y + 7 = k) := fun k hk => by omega
  simp only [updF, kmB, HpL.get, h1 6 (by omega), h1 4 (by omega), h1 2 (by omega), h1 1 (by omega), if_false, h2 0 (by omega), h2 1 (by omega), h2 2 (by omega), h2 3 (by omega), h2 4 (by omega), h2 5 (by omega), cond_false, Option.map_none]
theorem cw_one {es : List SV} {s j : Nat} (h : 0 < j) : cw es s j = .agg (bvals (sl es s 8) 0 8) :: cw es (s + 8) (j - 1) := by
 obtain ⟨k, rfl⟩ : ∃ k, j = k + 1 := ⟨j - 1, by omega⟩
 rfl
theorem kmEl_ok {s t n : Nat} {es : List SV} (h1 : byl es) (h2 : n = es.length) (hr : OkRd (RD s t) es) (hq : s + 8 ≤ t) {K : SV → CTree} : kmEl (RD s t) n es K = K (.agg (bvals (sl es s 8) 0 8)) := by
 unfold kmEl
 have ht : t ≤ es.length := by have := hr.3; simpa [RD] using this
 have hs : (RD s t).sub es 8 = sl es s 8 := sub_RD hq
 rw [dec_iff.2 ⟨hr, h2, by decide, by decide⟩, cond_true, hs, sl_len (by omega), decide_eq_true (by decide), cond_true]
theorem kmNx_ok {N q s t n : Nat} {es : List SV} {x : Ax} {b1 b2 : Bool} {d : Ds} {ok : Bool} {m i : Int} {j : Nat} {l : List SV} (hN : (m - i).toNat < N) (hj : j = l.length) (hok : ok = true) (hl : l.length + (m - i).toNat ≤ 2000) (h : pOk 8 s t n es m i) (K : Chunk → Rd → List SV → CTree) :
  kmNx N q (RD s t) n es x b1 b2 d ok m i j l K = K (kmX (.qs q 8 0 (l.length + (m - i).toNat)) b1 b2 d) (RD (s + 8 * (m - i).toNat) t) (l ++ cw es s (m - i).toNat) := by
 unfold kmNx
 rw [show Nat.blt (m - i).toNat N = true by rw [Nat.blt_eq]; exact hN, dec_iff.2 ⟨by subst hj; rfl, hok, by simpa [RD] using h, hl⟩]
 rfl
theorem km_valid : ValidL Tryz.prog e66 := loop_valid2 (κ := κy) (ι := ιy) (T := ltab []) (sp := true) (fuel := 300) (c := c66) (μ := kmM) (openT_ok noNumTry mixTry pttOk 300 5) mixTry ltab_nil (show fillC (ltab []) c66 = c66 by kernel_rfl) (by
 intro N args H v' ups' hbt h
 unfold e66 km_s at h
 simp only [] at h
 split at h
 · rename_i m ok i x0 cs x1 off fl cd a e n x2 x3 x4 es
   split at h
   · rename_i y1 y2 y3 d hd
     rw [crun_ite] at h
     cases hc : dec _ with
     | false => rw [hc] at h; cases h
     | true =>
      rw [hc, cond_true, crun_ite] at h
      have hH := dec_iff.1 hc
      rw [hH]
      have hrd := km_a N (RD a.toNat e.toNat) n es ⟨off, fl, cd⟩ y1 y2 d ok m i
      generalize a.toNat = s at *
      generalize e.toNat = t at *
      cases ok with
      | false =>
       rw [cond_false, cond_false] at hrd
       rw [cond_false] at h
       cases h
       exact .inl ⟨_, congrArg crun hrd, fun x => rfl⟩
      | true =>
       rw [cond_true, crun_ite] at h
       cases hc2 : dec (pOk 8 s t n es m i ∧ i < m) with
       | false => rw [hc2] at h; cases h
       | true =>
        rw [hc2, cond_true] at h
        obtain ⟨hp, hlt⟩ := dec_iff.1 hc2
        obtain ⟨q1, q2, q3⟩ := hp.next hlt
        have hr := hp.1.rd
        obtain ⟨⟨h1, h2, h3, h4, h5⟩, h6, h7, h8, h9⟩ := hp
        have hN : Nat.blt (m - i).toNat (N + 1) = true := hbt
        rw [Nat.blt_eq] at hN
        rw [cond_true, decide_eq_true hlt, cond_true, kmEl_ok h1 h2 hr q2, adv_RD q2, w64_id (by omega) (by omega), kmNx_ok (j := 1) (l := [SV.agg (bvals (sl es s 8) 0 8)]) (by omega) rfl rfl (by simp; omega) q1] at hrd
        cases h
        refine .inl ⟨_, congrArg crun hrd, fun x => ?_⟩
        rw [cw_one (j := (m - i).toNat) (by omega), show (m - i).toNat - 1 = (m - (i + 1)).toNat by omega, show (m - i).toNat = (m - (i + 1)).toNat + 1 by omega, show s + 8 * ((m - (i + 1)).toNat + 1) = s + 8 + 8 * (m - (i + 1)).toNat by omega, Nat.add_comm _ 1]
        rfl
   · cases h
 · rename_i m ok i x0 cs l x1 off fl cd a e n x2 x3 x4 es
   split at h
   · rename_i y1 y2 y3 d hd
     rw [crun_ite] at h
     cases hc : dec _ with
     | false => rw [hc] at h; cases h
     | true =>
      rw [hc, cond_true] at h
      obtain ⟨hH, hok, hp, hl⟩ := dec_iff.1 hc
      subst hok
      rw [hH]
      have hrd := km_b N (RD a.toNat e.toNat) n es ⟨off, fl, cd⟩ y1 y2 d true m i l.length l
      generalize a.toNat = s at *
      generalize e.toNat = t at *
      rw [cond_true] at hrd
      by_cases hlt : i < m
      · obtain ⟨q1, q2, q3⟩ := hp.next hlt
        have hr := hp.1.rd
        obtain ⟨⟨h1, h2, h3, h4, h5⟩, h6, h7, h8, h9⟩ := hp
        have hN : Nat.blt (m - i).toNat (N + 1) = true := hbt
        rw [Nat.blt_eq] at hN
        rw [decide_eq_true hlt, cond_true, kmEl_ok h1 h2 hr q2, decide_eq_true rfl, cond_true, decide_eq_true (show l.length + 1 ≤ 9223372036854775807 by omega), decide_eq_true (show (l.length + 1) * 8 ≤ 140737488355328 by omega), Bool.and_self, cond_true, adv_RD q2, w64_id (by omega) (by omega), kmNx_ok (j := l.length + 1) (l := l ++ [SV.agg (bvals (sl es s 8) 0 8)]) (by omega) (by simp) rfl (by simp; omega) q1] at hrd
        cases h
        refine .inl ⟨_, congrArg crun hrd, fun x => ?_⟩
        rw [cw_one (j := (m - i).toNat) (by omega), show (m - i).toNat - 1 = (m - (i + 1)).toNat by omega, show (m - i).toNat = (m - (i + 1)).toNat + 1 by omega, show s + 8 * ((m - (i + 1)).toNat + 1) = s + 8 + 8 * (m - (i + 1)).toNat by omega, List.length_append, List.append_assoc]
        simp only [List.length_singleton, List.singleton_append, Nat.add_assoc, Nat.add_comm 1]
      · have hm : m = i := by have := hp.2.2.1; omega
        subst hm
        rw [decide_eq_false hlt, cond_false] at hrd
        cases h
        refine .inr ⟨_, _, congrArg crun hrd, ?_⟩
        rw [show (m - m).toNat = 0 by omega]
        simp only [cw, List.append_nil, Nat.add_zero, Nat.mul_zero]
        exact kmB_ren
   · cases h
 · cases h)
end Go.Proofs.YtnlmhpancboddaaGreat
/- Attributes are read: clusters, known. -/
namespace Go.Proofs.YtnlmhpancboddaaGreat
open Go.Am
set_option maxRecDepth 100000
noncomputable abbrev T58 : LTab := ltab [("p", e58)]
noncomputable abbrev m58 : Code := markC [(3, "p")] body58
noncomputable def klF_b : CSumm := bodyCL Tryz.prog κht ιht T58 true 300 Tryz.f118 m58
theorem klF_k0 : Known Tryz.prog 118 klF_b := ⟨⟨Tryz.f118, Tryz.func118, noNum_at noNumTry Tryz.func118, rfl⟩, bodyL_valid (openT_ok noNumTry mixTry gtOk 300 5) mixTry (ltab_cons kl_valid ltab_nil) Tryz.func118 (show Tryz.f118.body = some (fillC T58 m58) by kernel_rfl)⟩
theorem klF_t (r : Rd) (n : Nat) (es : List SV) (off fl cd : Int) (b1 b2 : Bool) (d : Ds) : klF_b (flA off fl cd) (flH r n es b1 true b2 d) =
 bif dec (klA r n es ⟨off, fl, cd⟩ b1 b2 d = klA (RD r.at_.toNat r.end_.toNat) n es ⟨off, fl, cd⟩ b1 b2 d) then bif elB (lfI r) 4 16 then bif dec (pOk 4 r.at_.toNat r.end_.toNat n es (elQ (lfI r) 4) 0 ∧ 0 < elQ (lfI r) 4) then
  .ret (.bool true) [(0, some (rCk 1 (RD (r.at_.toNat + 4 * (elQ (lfI r) 4 - 0).toNat) r.end_.toNat) n)), (3, some (klX (.qs 4 1 0 (elQ (lfI r) 4 - 0).toNat) b1 b2 d)), (4, some (.seq 37 (wd es r.at_.toNat (elQ (lfI r) 4 - 0).toNat)))]
 else .fail else .ret (.bool false) [] else .fail := by cases b1 <;> cases b2 <;> kernel_rfl
def klOk (v : List SV) : Bool := elB (v.length : Int) 4 16
def klG (v : List SV) (d : Ds) : Ds := { d with cl := wd v 0 (v.length / 4) }
theorem klF_k : Known Tryz.prog 118 (fl_s (fun pb cb mb => cb) klOk klG id (fun _ => false) id) := fl_of klF_k0 (by
 intro s t n es off fl cd pb cb mb d ho hp
 have hpb : cb = true := hp
 subst hpb
 have ht := klF_t (RD s t) n es off fl cd pb mb d
 have hl := ho.len
 have hoo := ho
 obtain ⟨h1, h2, h3, h4, h5⟩ := ho
 have hL : lfI (RD s t) = ((t - s : Nat) : Int) := by have := lfI_v (s := s) (t := t) (k := 0) (by omega) (by omega); simpa using this
 simp only [show (RD s t).at_.toNat = s from rfl, show (RD s t).end_.toNat = t from rfl] at ht
 rw [dec_iff.2 trivial, cond_true, hL] at ht
 cases hok : klOk (vl es s t) with
 | false =>
  have hb : elB ((t - s : Nat) : Int) 4 16 = false := by unfold klOk at hok; rw [hl] at hok; exact hok
  rw [hb, cond_false] at ht
  exact ⟨_, _, congrArg crun ht, .inr ⟨.rfl', told3 (c3 := dC pb true mb d) jk_of rfl (fun x h0 h6 => rfl)⟩⟩
 | true =>
  have hb : elB ((t - s : Nat) : Int) 4 16 = true := by unfold klOk at hok; rw [hl] at hok; exact hok
  obtain ⟨b1, b2, b3⟩ := (elB_n (k := t - s) (by omega) (z := 4) (m := 16) (by omega)).1 hb
  have hq : elQ ((t - s : Nat) : Int) 4 = (((t - s) / 4 : Nat) : Int) := elQ_n _ (by omega) 4 (by omega)
  have hG : klG (vl es s t) d = { d with cl := wd es s ((t - s) / 4) } := by
   unfold klG
   rw [hl]
   have := wd_sl (es := es) (s := s) (m := t - s) ((t - s) / 4) 0 (by omega)
   rw [Nat.add_zero] at this
   rw [this]; rfl
  rw [hG, cond_true]
  generalize hk : (t - s) / 4 = k at *
  rw [hb, cond_true, hq, dec_iff.2 ⟨⟨⟨h1, h2, h3, h4, h5⟩, by omega, by omega, by omega, by omega⟩, by omega⟩, cond_true] at ht
  refine ⟨_, _, congrArg crun ht, .inl ⟨4, 37, wd es s k, rfl, .rfl', fun x c' hx => ?_⟩⟩
  simp only [updF] at hx
  by_cases x0 : x = 0
  · rw [if_pos x0] at hx; cases hx
  · rw [if_neg x0] at hx
    by_cases x3 : x = 3
    · subst x3; rw [if_pos rfl] at hx; cases hx
      exact ⟨by decide, _, rfl, .cells (.cons .rfl' (.cons .rfl' (.cons .rfl' (.cons .rfl' (.cons .rfl' (.cons .rfl' (.cons .rfl' (.cons .rfl' (.cons .rfl' (.cons (.qs (by rw [wd_len]; omega)) .rfl'))))))))))⟩
    · rw [if_neg x3] at hx
      have x4 : x ≠ 4 := by rintro rfl; cases hx
      exact ⟨x4, c', by simp only [updF, x0, x3, x4, if_false]; exact hx, .rfl'⟩)
end Go.Proofs.YtnlmhpancboddaaGreat
/- Attributes are read: communities, known. -/
namespace Go.Proofs.YtnlmhpancboddaaGreat
open Go.Am
set_option maxRecDepth 100000
noncomputable abbrev T66 : LTab := ltab [("p", e66)]
noncomputable abbrev m66 : Code := markC [(3, "p")] body66
noncomputable def kmF_b : CSumm := bodyCL Tryz.prog κht ιht T66 true 300 Tryz.f125 m66
theorem kmF_k0 : Known Tryz.prog 125 kmF_b := ⟨⟨Tryz.f125, Tryz.func125, noNum_at noNumTry Tryz.func125, rfl⟩, bodyL_valid (openT_ok noNumTry mixTry gtOk 300 5) mixTry (ltab_cons km_valid ltab_nil) Tryz.func125 (show Tryz.f125.body = some (fillC T66 m66) by kernel_rfl)⟩
theorem kmF_t (r : Rd) (n : Nat) (es : List SV) (off fl cd : Int) (b1 b2 : Bool) (d : Ds) : kmF_b (flA off fl cd) (flH r n es b1 b2 true d) =
 bif dec (kmA r n es ⟨off, fl, cd⟩ b1 b2 d = kmA (RD r.at_.toNat r.end_.toNat) n es ⟨off, fl, cd⟩ b1 b2 d) then bif elB (lfI r) 8 64 then bif dec (pOk 8 r.at_.toNat r.end_.toNat n es (elQ (lfI r) 8) 0 ∧ 0 < elQ (lfI r) 8) then
  .ret (.bool true) [(0, some (rCk 1 (RD (r.at_.toNat + 8 * (elQ (lfI r) 8 - 0).toNat) r.end_.toNat) n)), (3, some (kmX (.qs 4 8 0 (elQ (lfI r) 8 - 0).toNat) b1 b2 d)), (4, some (.seq 136 (cw es r.at_.toNat (elQ (lfI r) 8 - 0).toNat)))]
 else .fail else .ret (.bool false) [] else .fail := by cases b1 <;> cases b2 <;> kernel_rfl
theorem cw_sl {es : List SV} {s m : Nat} : ∀ (k j : Nat), j + 8 * k ≤ m → cw es (s + j) k = cw (sl es s m) j k
 | 0, _, _ => rfl
 | k + 1, j, h => by
  rw [cw, cw, Nat.add_assoc, cw_sl (m := m) k (j + 8) (by omega)]
  congr 3
  unfold sl
  rw [List.drop_take, List.drop_drop, List.take_take, Nat.min_eq_left (by omega)]
def kmOk (v : List SV) : Bool := elB (v.length : Int) 8 64
def kmG (v : List SV) (d : Ds) : Ds := { d with cm := cw v 0 (v.length / 8) }
theorem kmF_k : Known Tryz.prog 125 (fl_s (fun pb cb mb => mb) kmOk kmG id id (fun _ => false)) := fl_of kmF_k0 (by
 intro s t n es off fl cd pb cb mb d ho hp
 have hpb : mb = true := hp
 subst hpb
 have ht := kmF_t (RD s t) n es off fl cd pb cb d
 have hl := ho.len
 have hoo := ho
 obtain ⟨h1, h2, h3, h4, h5⟩ := ho
 have hL : lfI (RD s t) = ((t - s : Nat) : Int) := by have := lfI_v (s := s) (t := t) (k := 0) (by omega) (by omega); simpa using this
 simp only [show (RD s t).at_.toNat = s from rfl, show (RD s t).end_.toNat = t from rfl] at ht
 rw [dec_iff.2 trivial, cond_true, hL] at ht
 cases hok : kmOk (vl es s t) with
 | false =>
  have hb : elB ((t - s : Nat) : Int) 8 64 = false := by unfold kmOk at hok; rw [hl] at hok; exact hok
  rw [hb, cond_false] at ht
  exact ⟨_, _, congrArg crun ht, .inr ⟨.rfl', told3 (c3 := dC pb cb true d) jk_of rfl (fun x h0 h6 => rfl)⟩⟩
 | true =>
  have hb : elB ((t - s : Nat) : Int) 8 64 = true := by unfold kmOk at hok; rw [hl] at hok; exact hok
  obtain ⟨b1, b2, b3⟩ := (elB_n (k := t - s) (by omega) (z := 8) (m := 64) (by omega)).1 hb
  have hq : elQ ((t - s : Nat) : Int) 8 = (((t - s) / 8 : Nat) : Int) := elQ_n _ (by omega) 8 (by omega)
  have hG : kmG (vl es s t) d = { d with cm := cw es s ((t - s) / 8) } := by
   unfold kmG
   rw [hl]
   have := cw_sl (es := es) (s := s) (m := t - s) ((t - s) / 8) 0 (by omega)
   rw [Nat.add_zero] at this
   rw [this]; rfl
  rw [hG, cond_true]
  generalize hk : (t - s) / 8 = k at *
  rw [hb, cond_true, hq, dec_iff.2 ⟨⟨⟨h1, h2, h3, h4, h5⟩, by omega, by omega, by omega, by omega⟩, by omega⟩, cond_true] at ht
  refine ⟨_, _, congrArg crun ht, .inl ⟨4, 136, cw es s k, rfl, .rfl', fun x c' hx => ?_⟩⟩
  simp only [updF] at hx
  by_cases x0 : x = 0
  · rw [if_pos x0] at hx; cases hx
  · rw [if_neg x0] at hx
    by_cases x3 : x = 3
    · subst x3; rw [if_pos rfl] at hx; cases hx
      exact ⟨by decide, _, rfl, .cells (.cons .rfl' (.cons .rfl' (.cons .rfl' (.cons .rfl' (.cons .rfl' (.cons .rfl' (.cons .rfl' (.cons .rfl' (.cons .rfl' (.cons .rfl' (.cons (.qs (by rw [cw_len]; omega)) .rfl')))))))))))⟩
    · rw [if_neg x3] at hx
      have x4 : x ≠ 4 := by rintro rfl; cases hx
      exact ⟨x4, c', by simp only [updF, x0, x3, x4, if_false]; exact hx, .rfl'⟩)
end Go.Proofs.YtnlmhpancboddaaGreat
/- Attributes are read: the next one, by its code. -/
namespace Go.Proofs.YtnlmhpancboddaaGreat
open Go.Am
set_option maxRecDepth 100000
def vS (es : List SV) (a : Nat) : Nat := a + hdN es a
def vE (es : List SV) (a : Nat) : Nat := a + hdN es a + lnN es a
def cdOf (es : List SV) (a : Nat) : Int := dg es (a + 1)
def knC (g : Int) : Bool := bif g == 1 then true else bif g == 2 then true else bif g == 4 then true else bif g == 5 then true else bif g == 9 then true else bif g == 10 then true else bif g == 14 then true else bif g == 15 then true else bif g == 16 then true else g == 22
noncomputable def nx_s (g : Int) : CSumm := fun args H => match args with
 | [.ptr 0 0] => match rOf H with
  | some (r, n, es) => .ite (dec (r = RD r.at_.toNat n ∧ cdN es r.at_.toNat n ∧ okN es r.at_.toNat n ∧ cdOf es r.at_.toNat = g))
    (.ret (.tup [.agg [.ptr 2 0, .int .i64 (r.at_.toNat : Int), .int .u8 (dg es r.at_.toNat), .int .u8 g], .bool true]) [(0, some (rC (RD (vE es r.at_.toNat) n) n)), (2, some (rC (RD (vS es r.at_.toNat) (vE es r.at_.toNat)) n))]) .fail
  | none => .fail
 | _ => .fail
theorem nx_k (g : Int) : Known Tryz.prog 98 (nx_s g) := (openKnown nOk Tryz.func98 rfl).weak (by
 intro args H v ups h
 unfold nx_s at h
 split at h
 · split at h
   · rename_i r n es hr
     rw [crun_ite] at h
     cases hc : dec _ with
     | false => rw [hc] at h; cases h
     | true =>
      rw [hc, cond_true] at h
      obtain ⟨h1, h2, h3, h4⟩ := dec_iff.1 hc
      rw [rOf_h hr, h1]
      subst h4
      exact (congrArg crun (next_ok' h2 h3)).trans h
   · cases h
 · cases h)
noncomputable def nu_s : CSumm := fun args H => match args with
 | [.ptr 0 0] => match rOf H with
  | some (r, n, es) => .ite (dec (r = RD r.at_.toNat n ∧ cdN es r.at_.toNat n ∧ okN es r.at_.toNat n ∧ knC (cdOf es r.at_.toNat) = false))
    (.ret (.tup [.agg [.ptr 2 0, .int .i64 (r.at_.toNat : Int), .int .u8 (dg es r.at_.toNat), .int .u8 (cdOf es r.at_.toNat)], .bool true]) [(0, some (rC (RD (vE es r.at_.toNat) n) n)), (2, some (rC (RD (vS es r.at_.toNat) (vE es r.at_.toNat)) n))]) .fail
  | none => .fail
 | _ => .fail
theorem nu_k : Known Tryz.prog 98 nu_s := (openKnown nOk Tryz.func98 rfl).weak (by
 intro args H v ups h
 unfold nu_s at h
 split at h
 · split at h
   · rename_i r n es hr
     rw [crun_ite] at h
     cases hc : dec _ with
     | false => rw [hc] at h; cases h
     | true =>
      rw [hc, cond_true] at h
      obtain ⟨h1, h2, h3, h4⟩ := dec_iff.1 hc
      rw [rOf_h hr, h1]
      exact (congrArg crun (next_ok' h2 h3)).trans h
   · cases h
 · cases h)
noncomputable def cutQ (es : List SV) (a n : Nat) : Int × Int × Rd := by
 classical
 exact if h : ∃ q : Int × Int × Rd, ∃ c, opn κn Tryz.f98 [.ptr 0 0] (rH (RD a n) n es) = .ret (.tup [.agg [.ptr 2 0, .int .i64 a, .int .u8 q.1, .int .u8 q.2.1], .bool false]) [(0, some (rC q.2.2 n)), (2, some c)] then Classical.choose h else (0, 0, RD 0 0)
theorem cutQ_ok {es : List SV} {a n : Nat} (hc : cdN es a n) (ho : ¬ okN es a n) : ∃ c, opn κn Tryz.f98 [.ptr 0 0] (rH (RD a n) n es) = .ret (.tup [.agg [.ptr 2 0, .int .i64 a, .int .u8 (cutQ es a n).1, .int .u8 (cutQ es a n).2.1], .bool false]) [(0, some (rC (cutQ es a n).2.2 n)), (2, some c)] := by
 have h : ∃ q : Int × Int × Rd, ∃ c, opn κn Tryz.f98 [.ptr 0 0] (rH (RD a n) n es) = .ret (.tup [.agg [.ptr 2 0, .int .i64 a, .int .u8 q.1, .int .u8 q.2.1], .bool false]) [(0, some (rC q.2.2 n)), (2, some c)] := by
  obtain ⟨f, g, c, r', h⟩ := next_no hc ho
  exact ⟨(f, g, r'), c, h⟩
 unfold cutQ
 rw [dif_pos h]
 exact Classical.choose_spec h
noncomputable def nc_s : CSumm := fun args H => match args with
 | [.ptr 0 0] => match rOf H with
  | some (r, n, es) => .ite (dec (r = RD r.at_.toNat n ∧ cdN es r.at_.toNat n ∧ ¬ okN es r.at_.toNat n))
    (.ret (.tup [.agg [.ptr 2 0, .int .i64 (r.at_.toNat : Int), .int .u8 (cutQ es r.at_.toNat n).1, .int .u8 (cutQ es r.at_.toNat n).2.1], .bool false]) [(0, some (rC (cutQ es r.at_.toNat n).2.2 n))]) .fail
  | none => .fail
 | _ => .fail
theorem nc_k : Known Tryz.prog 98 nc_s := known_told (openKnown nOk Tryz.func98 rfl) (by
 intro args H v ups h
 unfold nc_s at h
 split at h
 · split at h
   · rename_i r n es hr
     rw [crun_ite] at h
     cases hc : dec _ with
     | false => rw [hc] at h; cases h
     | true =>
      rw [hc, cond_true] at h
      obtain ⟨h1, h2, h3⟩ := dec_iff.1 hc
      rw [rOf_h hr, h1]
      obtain ⟨c, ht⟩ := cutQ_ok h2 h3
      cases h
      refine ⟨_, _, congrArg crun ht, .inr ⟨.rfl', fun x c' hx => ⟨c', ?_, .rfl'⟩⟩⟩
      simp only [updF] at hx ⊢
      by_cases x2 : x = 2
      · subst x2; rw [if_neg (by decide)] at hx; cases hx
      · rw [if_neg x2]; exact hx
   · cases h
 · cases h)
end Go.Proofs.YtnlmhpancboddaaGreat
