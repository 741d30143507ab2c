/- AttrEnd: its loop, valid. -/
import Derived.Test.YtdgnhaacdpmclaaGreatPart23
set_option linter.unusedVariables false
set_option linter.unusedSimpArgs false
namespace Go.Proofs.YtdgnhaacdpmclaaGreat
open Go.Am
set_option maxRecDepth 100000
noncomputable def elC (n : Nat) (ps : List SV) (i : Int) (K : List SV → CTree) : CTree := bif inB i n then bif decide (0 + i.toNat < ps.length) then K (asL (ps.getD (0 + i.toNat) .junk)) else .fail else .fail
noncomputable def apC (w : Nat) (W p : List SV) (K : Nat → List SV → CTree) : CTree :=
 bif decide (w = W.length) then bif decide (W.length + p.length ≤ 9223372036854775807) && decide ((W.length + p.length) * Tryz.prog.types[5].bytes ≤ 140737488355328) then K (W.length + p.length) (W ++ p) else .fail else .fail
noncomputable def enT (o : Bool) (N n : Nat) (ps : List SV) (i : Int) (w : Nat) (W : List SV) (v : Nat) (V : List SV) : CTree :=
 bif Nat.blt (n - (w64 (i + 1)).toNat) N then bif dec (enOk n w v (w64 (i + 1)) ps W V) then
  .ret (.tup [.int .i64 2, .qs 3 1 0 (W ++ fP p14 (ps.drop (w64 (i + 1)).toNat)).length, .qs 4 1 0 (V ++ fP p2b (ps.drop (w64 (i + 1)).toNat)).length])
   ((bif o then [(2, none), (1, none)] else [(1, none), (2, none)]) ++ [(3, some (.seq 5 (W ++ fP p14 (ps.drop (w64 (i + 1)).toNat)))), (4, some (.seq 5 (V ++ fP p2b (ps.drop (w64 (i + 1)).toNat))))]) else .fail else .fail
noncomputable def enV (o : Bool) (N n : Nat) (ps : List SV) (i : Int) (v : Nat) (V : List SV) (w : Nat) (W : List SV) : CTree :=
 elC n ps i fun p => bif inB 1 p.length then bif p2b (dg p 1) then elC n ps i fun q => apC v V q fun v' V' => enT o N n ps i w W v' V' else enT true N n ps i w W v V else .fail
theorem en_t (N n w v : Nat) (ps W V : List SV) (i : Int) : loopOnce Tryz.prog (openT Tryz.prog (tbl []) 300 5) (fun _ => false) (ltab []) true 300 e6 { e6 with s := boundT enM en_s N } c6 [.qs 0 1 0 n, .qs 1 1 0 w, .qs 2 1 0 v, .int .i64 i] (enH ps W V) =
 bif decide (i < n) then elC n ps i fun p => bif inB 1 p.length then bif p14 (dg p 1) then elC n ps i fun q => apC w W q fun w' W' => enV true N n ps i v V w' W' else enV false N n ps i v V w W else .fail
 else .ret (.tup [.int .i64 2, .qs 1 1 0 w, .qs 2 1 0 v]) [] := by kernel_rfl
theorem inB_ok {i : Int} {n : Nat} (h0 : 0 ≤ i) (h1 : i < n) : inB i n = true := by unfold inB; rw [decide_eq_true h0, decide_eq_true h1]; rfl
theorem elC_ok {n : Nat} {ps : List SV} {i : Int} (hn : n = ps.length) (h0 : 0 ≤ i) (h1 : i < n) (K : List SV → CTree) : elC n ps i K = K (asL (ps.getD i.toNat .junk)) := by
 unfold elC
 rw [inB_ok h0 h1, cond_true, Nat.zero_add, decide_eq_true (show i.toNat < ps.length by omega), cond_true]
theorem apC_ok {w : Nat} {W p : List SV} (hw : w = W.length) (h : W.length + p.length ≤ 300000000) (K : Nat → List SV → CTree) : apC w W p K = K (W ++ p).length (W ++ p) := by
 unfold apC
 rw [decide_eq_true hw, cond_true, types5, decide_eq_true (show W.length + p.length ≤ 9223372036854775807 by omega), decide_eq_true (show (W.length + p.length) * 1 ≤ 140737488355328 by omega), Bool.and_self, cond_true, List.length_append]
theorem fP_drop (p : Int → Bool) {ps : List SV} {i : Nat} (h : i < ps.length) : fP p (ps.drop i) = (bif p (dg (asL (ps.getD i .junk)) 1) then asL (ps.getD i .junk) else []) ++ fP p (ps.drop (i + 1)) := by
 rw [List.drop_eq_getElem_cons h, fP, List.getD_eq_getElem?_getD, List.getElem?_eq_getElem h]; rfl
theorem enR_same {ps W V X Y : List SV} (o : Bool) : ∀ x, updF [(1, none), (2, none), (3, some (.seq 5 X)), (4, some (.seq 5 Y))] (enH ps W V).get x = updF ((bif o then [(2, none), (1, none)] else [(1, none), (2, none)]) ++ [(3, some (.seq 5 X)), (4, some (.seq 5 Y))]) (enH ps W V).get x := by
 intro x
 cases o with
 | false => rfl
 | true =>
  simp only [cond_true, List.cons_append, List.nil_append, updF]
  by_cases h1 : x = 1
  · subst h1; rfl
  · rw [if_neg h1, if_neg h1]
theorem en_no {ps W V : List SV} {k : Nat} : ∀ x c, (enH ps W V).get x = some c → k ∉ namesC c := by
 intro x c hx
 have := HpL_get_some _ _ _ hx
 simp only [enH, List.mem_cons, Prod.mk.injEq, List.not_mem_nil, or_false] at this
 rcases this with ⟨_, rfl⟩ | ⟨_, rfl⟩ | ⟨_, rfl⟩ <;> simp [namesC]
theorem en_ren1 {ps W V : List SV} {w v : Nat} : Renamed (enH ps W V) (.tup [.int .i64 2, .qs 1 1 0 w, .qs 2 1 0 v]) [] (.tup [.int .i64 2, .qs 3 1 0 w, .qs 2 1 0 v]) [(1, none), (3, some (.seq 5 W))] := by
 refine ⟨1, 3, by simp [enH], by simp [namesS, namesL], fun x c hx => en_no x c hx, rfl, fun x => ?_⟩
 match x with
 | 0 => rfl
 | 1 => rfl
 | 2 => rfl
 | 3 => rfl
 | x + 4 =>
  have h1 : ∀ k, k < 4 → ¬ (x + 4 = k) := fun k hk => by omega
  have h2 : ∀ k, k < 4 → Nat.beq k (x + 4) = false := fun k hk => nb_f (by omega)
  simp only [updF, enH, HpL.get, h1 3 (by omega), h1 1 (by omega), if_false, h2 0 (by omega), h2 1 (by omega), h2 2 (by omega), cond_false, Option.map_none]
theorem en_ren2 {ps W V : List SV} {w v : Nat} : Renamed (enH ps W V) (.tup [.int .i64 2, .qs 3 1 0 w, .qs 2 1 0 v]) [(1, none), (3, some (.seq 5 W))] (.tup [.int .i64 2, .qs 3 1 0 w, .qs 4 1 0 v]) [(1, none), (2, none), (3, some (.seq 5 W)), (4, some (.seq 5 V))] := by
 refine ⟨2, 4, by simp [enH], by simp [namesS, namesL], fun x c hx => ?_, rfl, fun x => ?_⟩
 · simp only [updF] at hx
   by_cases h3 : x = 3
   · rw [if_pos h3] at hx; cases hx; simp [namesC]
   · rw [if_neg h3] at hx
     by_cases h1 : x = 1
     · rw [if_pos h1] at hx; cases hx
     · rw [if_neg h1] at hx; exact en_no x c hx
 match x with
 | 0 => rfl
 | 1 => rfl
 | 2 => rfl
 | 3 => rfl
 | 4 => rfl
 | x + 5 =>
  have h1 : ∀ k, k < 5 → ¬ (x + 5 = k) := fun k hk => by omega
  have h2 : ∀ k, k < 5 → Nat.beq k (x + 5) = false := fun k hk => nb_f (by omega)
  simp only [updF, enH, HpL.get, h1 4 (by omega), h1 3 (by omega), h1 2 (by omega), h1 1 (by omega), if_false, h2 0 (by omega), h2 1 (by omega), h2 2 (by omega), cond_false, Option.map_none]
theorem enT_ok {o : Bool} {N n : Nat} {ps : List SV} {i : Int} {w : Nat} {W : List SV} {v : Nat} {V : List SV} (hN : n - i.toNat < N + 1) (hi : i < n) (h0 : 0 ≤ i) (hn : n ≤ 1000) (h : enOk n w v (i + 1) ps W V) :
  enT o N n ps i w W v V = .ret (.tup [.int .i64 2, .qs 3 1 0 (W ++ fP p14 (ps.drop (i.toNat + 1))).length, .qs 4 1 0 (V ++ fP p2b (ps.drop (i.toNat + 1))).length])
   ((bif o then [(2, none), (1, none)] else [(1, none), (2, none)]) ++ [(3, some (.seq 5 (W ++ fP p14 (ps.drop (i.toNat + 1))))), (4, some (.seq 5 (V ++ fP p2b (ps.drop (i.toNat + 1)))))]) := by
 unfold enT
 rw [show w64 (i + 1) = i + 1 from w64_id (by omega) (by omega), dec_iff.2 h, show Nat.blt (n - (i + 1).toNat) N = true by rw [Nat.blt_eq]; omega, cond_true, cond_true, show (i + 1).toNat = i.toNat + 1 by omega]
theorem en_valid : ValidL Tryz.prog e6 := loop_valid5 (T := ltab []) (sp := true) (fuel := 300) (c := c6) (μ := enM) mixTry ltab_nil (show fillC (ltab []) c6 = c6 by kernel_rfl) (by
 intro N args H v' ups' hbt h
 unfold e6 en_s at h
 simp only [] at h
 split at h
 · rename_i n w v i ps W V
   rw [crun_ite] at h
   cases hc : dec (enOk n w v i ps W V) with
   | false => rw [hc] at h; cases h
   | true =>
    rw [hc, cond_true] at h
    obtain ⟨rfl, rfl, rfl, h0, h1, hm, hp, hW, hV⟩ := dec_iff.1 hc
    refine ⟨openT Tryz.prog (tbl []) 300 5, fun _ => false, openT_ok noNumTry mixTry ok0 300 5, ?_⟩
    have ht := en_t N ps.length W.length V.length ps W V i
    have hN : Nat.blt (ps.length - i.toNat) (N + 1) = true := hbt
    rw [Nat.blt_eq] at hN
    by_cases hi : i < ps.length
    · obtain ⟨q1, q2⟩ := hp _ (getD_mem (show i.toNat < ps.length by omega))
      have hB : inB 1 (asL (ps.getD i.toNat .junk)).length = true := inB_ok (by omega) (by omega)
      rw [fP_drop p14 (show i.toNat < ps.length by omega), fP_drop p2b (show i.toNat < ps.length by omega)] at h
      rw [decide_eq_true hi, cond_true, elC_ok rfl h0 hi, hB, cond_true, elC_ok rfl h0 hi] at ht
      have el := fun K => elC_ok (n := ps.length) (ps := ps) rfl h0 hi K
      generalize asL (ps.getD i.toNat .junk) = q at *
      have nx : ∀ W2 V2 : List SV, W2.length ≤ W.length + q.length → V2.length ≤ V.length + q.length → enOk ps.length W2.length V2.length (i + 1) ps W2 V2 := fun W2 V2 h2 h3 => ⟨rfl, rfl, rfl, by omega, by omega, hm, hp, by omega, by omega⟩
      have e14 := fun K => apC_ok (w := W.length) (W := W) (p := q) rfl (by omega) K
      have e2 := fun K => apC_ok (w := V.length) (W := V) (p := q) rfl (by omega) K
      unfold enR at h
      cases c14 : p14 (dg q 1) with
      | true =>
       rw [c14, cond_true, e14] at ht
       unfold enV at ht
       rw [el, hB, cond_true] at ht
       rw [c14, cond_true, ← List.append_assoc] at h
       cases c2 : p2b (dg q 1) with
       | true =>
        rw [c2, cond_true, el, e2, enT_ok hN hi h0 hm (nx _ _ (by simp) (by simp))] at ht
        rw [c2, cond_true, ← List.append_assoc] at h
        cases h
        exact ⟨_, _, congrArg crun ht, .same (enR_same true)⟩
       | false =>
        rw [c2, cond_false, enT_ok hN hi h0 hm (nx _ _ (by simp) (by simp))] at ht
        rw [c2, cond_false, List.nil_append] at h
        cases h
        exact ⟨_, _, congrArg crun ht, .same (enR_same true)⟩
      | false =>
       rw [c14, cond_false] at ht
       unfold enV at ht
       rw [el, hB, cond_true] at ht
       rw [c14, cond_false, List.nil_append] at h
       cases c2 : p2b (dg q 1) with
       | true =>
        rw [c2, cond_true, el, e2, enT_ok hN hi h0 hm (nx _ _ (by simp) (by simp))] at ht
        rw [c2, cond_true, ← List.append_assoc] at h
        cases h
        exact ⟨_, _, congrArg crun ht, .same (enR_same false)⟩
       | false =>
        rw [c2, cond_false, enT_ok hN hi h0 hm (nx _ _ (by simp) (by simp))] at ht
        rw [c2, cond_false, List.nil_append] at h
        cases h
        exact ⟨_, _, congrArg crun ht, .same (enR_same true)⟩
    · rw [decide_eq_false hi, cond_false] at ht
      rw [List.drop_of_length_le (show ps.length ≤ i.toNat by omega)] at h
      unfold fP enR at h
      rw [List.append_nil, List.append_nil] at h
      cases h
      exact ⟨_, _, congrArg crun ht, (ChainL.ren en_ren1).trans (ChainL.ren en_ren2)⟩
 · cases h)
end Go.Proofs.YtdgnhaacdpmclaaGreat
/- AttrEnd: the law's trees. -/
namespace Go.Proofs.YtdgnhaacdpmclaaGreat
open Go.Am
set_option maxRecDepth 100000
noncomputable abbrev κend (s : CSumm) := tbl [(7, lives_s), (14, s), (15, split_s), (9, aread_s), (12, same12_s), (17, azero_s)]
theorem endOk {s : CSumm} (h : Known Tryz.prog 14 s) : KOk Tryz.prog (κend s) := tbl_cons lives_k (tbl_cons h (tbl_cons split_k (tbl_cons aread_k (tbl_cons same12_k (tbl_cons azero_k ok0)))))
noncomputable def e6i : LEnt := { e6 with s := inS [none, some (5, 1), some (5, 1), none] en_s }
theorem en_in : ValidL Tryz.prog e6i := loop_in en_valid (fs := [none, some (5, 1), some (5, 1), none]) ⟨fun _ => ⟨Tryz.underlying5, by kernel_rfl⟩, fun _ => ⟨Tryz.underlying5, by kernel_rfl⟩, trivial⟩
noncomputable abbrev T6 : LTab := ltab [("e", e6i)]
noncomputable abbrev m6 : Code := markC [(11, "e")] body6
noncomputable def law6_b (s : CSumm) : CSumm := bodyCL Tryz.prog (openT Tryz.prog (κend s) 300 5) (fun g => inl (κend s) g && hasBody Tryz.prog g) T6 true 300 Tryz.f6 m6
theorem law6_k0 {s : CSumm} (h : Known Tryz.prog 14 s) : Known Tryz.prog 6 (law6_b s) := ⟨⟨Tryz.f6, Tryz.func6, noNum_at noNumTry Tryz.func6, rfl⟩, bodyL_valid (openT_ok noNumTry mixTry (endOk h) 300 5) mixTry (ltab_cons en_in ltab_nil) Tryz.func6 (show Tryz.f6.body = some (fillC T6 m6) by kernel_rfl)⟩
theorem end_n (a : At) (r u : List SV) : law6_b bytesN_s [a.v, .psl 49 r, .psl 49 u] [] = bif (bif !lightB a r u then true else (r.length : Int) == 0) then .ret (.bool true) [] else bif dec (Fit a r u ∧ chkAll a r u ≠ 0) then
 (bif chkAll a r u != 0 then .ret (.bool true) [] else .fail) else .fail := by kernel_rfl
noncomputable def endF (u : List SV) (k : Nat) (q g : Int × Int × Ds) : CTree :=
 bif (q.1 == 0 && q.2.1 == 0) then bif azero (atD q.2.2) then bif (q.2.2.rch.length : Int) == 0 then bif dec (q.2.2.unr = u ∧ q.2.2.unr.length ≤ 100000) then
  bif (g.1 == 17 && g.2.1 == k) then bif azero (atD g.2.2) then .ret (.bool (w64 (g.2.2.rch.length + g.2.2.unr.length) == 0)) [] else .ret (.bool false) [] else .ret (.bool false) []
 else .fail else .ret (.bool false) [] else .ret (.bool false) [] else .ret (.bool false) []
noncomputable def endK (u B : List SV) (L W V : List SV) : CTree :=
 bif dec (splG B 0 = true ∧ byl B ∧ B.length ≤ 100000 ∧ 3 < B.length) then bif dec (enOk L.length 0 0 0 L [] []) then
  bif dec (byl W ∧ W.length = W.length ∧ W.length ≤ 1000000) then bif dec (byl V ∧ V.length = V.length ∧ V.length ≤ 1000000) then endF u V.length (rdQ W W.length) (rdQ V V.length) else .fail else .fail else .fail else .fail
theorem end_z (a : At) (r u : List SV) : law6_b bytesP_s [a.v, .psl 49 r, .psl 49 u] [] = bif (bif !lightB a r u then true else (r.length : Int) == 0) then .ret (.bool true) [] else bif dec (Fit a r u ∧ chkAll a r u = 0) then
 endK u (allB a (nbs r) (nbs u)) (splL (allB a (nbs r) (nbs u)) 0) ([] ++ fP p14 ((splL (allB a (nbs r) (nbs u)) 0).drop (0 : Int).toNat)) ([] ++ fP p2b ((splL (allB a (nbs r) (nbs u)) 0).drop (0 : Int).toNat)) else .fail := by kernel_rfl
end Go.Proofs.YtdgnhaacdpmclaaGreat
