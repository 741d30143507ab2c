/- AttrAny: the order of the pieces; what they are joined to. -/
import Derived.Test.YtdgnhaacdpmclaaGreatPart25
set_option linter.unusedVariables false
set_option linter.unusedSimpArgs false
namespace Go.Proofs.YtdgnhaacdpmclaaGreat
open Go.Am
set_option maxRecDepth 100000
theorem swap_perm : ∀ (ks : List Nat) (x j : Nat), (x :: ks).Perm ((ks.getD j x) :: (ks.set j x))
 | [], x, j => by simp
 | y :: ks, x, 0 => by simpa using List.Perm.swap y x ks
 | y :: ks, x, j + 1 => by
  have ih := swap_perm ks x j
  have h1 : (x :: y :: ks).Perm (y :: x :: ks) := List.Perm.swap y x ks
  have h2 : (y :: x :: ks).Perm (y :: ks.getD j x :: ks.set j x) := ih.cons y
  have h3 : (y :: ks.getD j x :: ks.set j x).Perm (ks.getD j x :: y :: ks.set j x) := List.Perm.swap (ks.getD j x) y (ks.set j x)
  simpa using (h1.trans h2).trans h3
section
variable {a : At} {R U : List SV}
theorem pce_pc (k : Nat) : pce (pcK a R U k) = pcK a R U k := rfl
theorem map_getD {ks : List Nat} {i : Nat} (h : i < ks.length) : (ks.map (pcK a R U)).getD i .junk = pcK a R U ks[i] := by
 rw [List.getD_eq_getElem?_getD, List.getElem?_map, List.getElem?_eq_getElem h]; rfl
theorem sw1_map {ks : List Nat} {k : Int} (h0 : 0 ≤ k) (h1 : k < ks.length) : ∃ ls : List Nat, sw1 (ks.map (pcK a R U)) k = ls.map (pcK a R U) ∧ ls.Perm ks := by
 have h2 : k.toNat < ks.length := by omega
 have h3 : 0 < ks.length := by omega
 unfold sw1
 generalize k.toNat = m at *
 rw [map_getD h2, map_getD h3, pce_pc, pce_pc, ← List.map_set, ← List.map_set]
 refine ⟨_, rfl, ?_⟩
 match ks, m, h2 with
 | x :: t, 0, _ => simp
 | x :: t, j + 1, h2 =>
  have hjt : j < t.length := by simpa using h2
  have hp := swap_perm t x j
  rw [List.getD_eq_getElem?_getD, List.getElem?_eq_getElem hjt] at hp
  simpa using hp.symm
theorem swF_map {ord : List SV} : ∀ (j : Nat) (i : Int) (ks : List Nat), 0 < ks.length → ks.length ≤ 1000 → ∃ ls : List Nat, swF ord j i (ks.map (pcK a R U)) = ls.map (pcK a R U) ∧ ls.Perm ks
 | 0, _, ks, _, _ => ⟨ks, rfl, .refl _⟩
 | j + 1, i, ks, h, h2 => by
  obtain ⟨k0, k1⟩ := pck_rng (x := asI (ord.getD i.toNat .junk)) (n := ((ks.map (pcK a R U)).length : Int)) (by rw [List.length_map]; omega) (by rw [List.length_map]; omega)
  rw [swF]
  obtain ⟨l1, e1, p1⟩ := sw1_map (a := a) (R := R) (U := U) (ks := ks) k0 (by rw [List.length_map] at k1 ⊢; exact k1)
  rw [e1]
  obtain ⟨l2, e2, p2⟩ := swF_map (ord := ord) j (i + 1) l1 (by rw [p1.length_eq]; exact h) (by rw [p1.length_eq]; exact h2)
  exact ⟨l2, e2, p2.trans p1⟩
theorem drop_pc {ks : List Nat} {i : Nat} (h : i < ks.length) : ks.drop i = ks[i] :: ks.drop (i + 1) ∧ asL ((ks.map (pcK a R U)).getD i .junk) = putB ks[i] a R U :=
 ⟨List.drop_eq_getElem_cons h, by rw [map_getD h]; rfl⟩
theorem mx2_map {ks : List Nat} {i : Nat} {s : Mx} (h : i < ks.length) : mx2 (ks.map (pcK a R U)) i s = ⟨s.M ++ putB ks[i] a R U, s.o⟩ := by
 unfold mx2
 rw [List.length_map, decide_eq_true (show (i : Int) < (ks.length : Int) by omega), cond_true, Int.toNat_natCast, (drop_pc h).2]
theorem mx2_end {ks : List Nat} {i : Nat} {s : Mx} (h : ¬ i < ks.length) : mx2 (ks.map (pcK a R U)) i s = s := by
 unfold mx2
 rw [List.length_map, decide_eq_false (show ¬ (i : Int) < (ks.length : Int) by omega), cond_false]
theorem mxF_past {W : List SV} {t : Nat} {ks : List Nat} : ∀ (k i : Nat) (M : List SV) (o : Int), k = ks.length + 1 - i → t < i → mxF W t (ks.map (pcK a R U)) k i ⟨M, o⟩ = ⟨M ++ rowsB a R U (ks.drop i), o⟩
 | 0, i, M, o, hk, _ => by rw [mxF, List.drop_of_length_le (by omega), show rowsB a R U [] = [] from rfl, List.append_nil]
 | k + 1, i, M, o, hk, ht => by
  rw [mxF, show mx1 W t i ⟨M, o⟩ = ⟨M, o⟩ by unfold mx1; rw [show ((i : Int) == t) = false by rw [beq_eq_false_iff_ne]; omega]; rfl]
  by_cases hi : i < ks.length
  · rw [mx2_map hi, (drop_pc (a := a) (R := R) (U := U) hi).1, rowsB_cons]
    have := mxF_past (W := W) (t := t) (ks := ks) k (i + 1) (M ++ putB ks[i] a R U) o (by omega) (by omega)
    rw [show ((i : Nat) : Int) + 1 = ((i + 1 : Nat) : Int) by omega, this, List.append_assoc]
  · rw [mx2_end hi]
    have := mxF_past (W := W) (t := t) (ks := ks) k (i + 1) M o (by omega) (by omega)
    rw [show ((i : Nat) : Int) + 1 = ((i + 1 : Nat) : Int) by omega, this, List.drop_of_length_le (by omega), List.drop_of_length_le (by omega)]
theorem mxF_all {W : List SV} {t : Nat} {ks : List Nat} (htk : t ≤ ks.length) : ∀ (k i : Nat) (M : List SV) (o : Int), k = ks.length + 1 - i → i ≤ t → mxF W t (ks.map (pcK a R U)) k i ⟨M, o⟩ = ⟨M ++ (rowsB a R U ((ks.drop i).take (t - i)) ++ (W ++ rowsB a R U (ks.drop t))), ((M ++ rowsB a R U ((ks.drop i).take (t - i))).length : Int)⟩
 | 0, i, M, o, hk, h => by omega
 | k + 1, i, M, o, hk, h => by
  rw [mxF]
  by_cases he : i = t
  · subst he
    rw [show mx1 W i i ⟨M, o⟩ = ⟨M ++ W, M.length⟩ by unfold mx1; rw [beq_self_eq_true]; rfl, Nat.sub_self, List.take_zero, show rowsB a R U [] = [] from rfl, List.append_nil, List.nil_append]
    by_cases hi : i < ks.length
    · rw [mx2_map hi, show ((i : Nat) : Int) + 1 = ((i + 1 : Nat) : Int) by omega, mxF_past k (i + 1) _ _ (by omega) (by omega), (drop_pc (a := a) (R := R) (U := U) hi).1, rowsB_cons]
      simp only [List.append_assoc]
    · rw [mx2_end hi, show ((i : Nat) : Int) + 1 = ((i + 1 : Nat) : Int) by omega, mxF_past k (i + 1) _ _ (by omega) (by omega), List.drop_of_length_le (by omega), List.drop_of_length_le (by omega), List.append_assoc]
  · have hi : i < ks.length := by omega
    rw [show mx1 W t i ⟨M, o⟩ = ⟨M, o⟩ by unfold mx1; rw [show ((i : Int) == t) = false by rw [beq_eq_false_iff_ne]; omega]; rfl, mx2_map hi, show ((i : Nat) : Int) + 1 = ((i + 1 : Nat) : Int) by omega,
     mxF_all htk k (i + 1) _ _ (by omega) (by omega), (drop_pc (a := a) (R := R) (U := U) hi).1, show t - i = (t - (i + 1)) + 1 by omega, List.take_succ_cons, rowsB_cons]
    simp only [List.append_assoc]
end
end Go.Proofs.YtdgnhaacdpmclaaGreat
/- AttrAny: the loop that joins the pieces, valid. -/
namespace Go.Proofs.YtdgnhaacdpmclaaGreat
open Go.Am
set_option maxRecDepth 100000
theorem mxB_ok {N : Nat} {c : Int} {v : List SV} {at_ : Int} {ps : List SV} {i : Int} {M1 : List SV} {o : Int} {j : Nat} (hN : ps.length + 1 - i.toNat < N + 1) (hj : ps.length + 1 - i.toNat = j + 1) (hm : ps.length ≤ 100) (h0 : 0 ≤ i) (hi : i ≤ ps.length) (hv : v.length ≤ 100000)
  (hp : ∀ x ∈ ps, 2 ≤ (asL x).length ∧ (asL x).length ≤ 100000) (hM : M1.length + 100000 + 300000 * j ≤ 100000000) : mxB N c v at_ ps.length ps i M1.length M1 o = mxR ps.length (mxF (unk c v) at_ ps j (i + 1) (mx2 ps i ⟨M1, o⟩)) := by
 have hT : ∀ M2 : List SV, M2.length ≤ M1.length + 100000 → mxT N c v at_ ps.length ps (w64 (i + 1)) M2.length M2 o = mxR ps.length (mxF (unk c v) at_ ps j (i + 1) ⟨M2, o⟩) := fun M2 h2 => by
  unfold mxT
  rw [show w64 (i + 1) = i + 1 from w64_id (by omega) (by omega), show ps.length + 1 - (i + 1).toNat = j by omega, show Nat.blt j N = true by rw [Nat.blt_eq]; omega, cond_true, dec_iff.2 ⟨rfl, hm, by omega, by omega, rfl, hv, hp, by omega⟩, cond_true]
 unfold mxB mx2
 by_cases hlt : i < ps.length
 · obtain ⟨q1, q2⟩ := hp _ (getD_mem (show i.toNat < ps.length by omega))
   rw [decide_eq_true hlt, cond_true, elC_ok rfl h0 hlt, apC_ok rfl (by omega), hT _ (by rw [List.length_append]; omega), cond_true]
 · rw [decide_eq_false hlt, cond_false, hT _ (by omega), cond_false]
theorem mx_no {ps M : List SV} {k : Nat} : ∀ x c, (mxH ps M).get x = some c → k ∉ namesC c := by
 intro x c hx
 have := HpL_get_some _ _ _ hx
 simp only [mxH, List.mem_cons, Prod.mk.injEq, List.not_mem_nil, or_false] at this
 rcases this with ⟨_, rfl⟩ | ⟨_, rfl⟩ <;> simp [namesC]
theorem mx_ren {ps M : List SV} {n m : Nat} {o : Int} : Renamed (mxH ps M) (.tup [.int .i64 4, .qs 0 1 0 n, .qs 1 1 0 m, .int .i64 o]) [] (.tup [.int .i64 4, .qs 0 1 0 n, .qs 2 1 0 m, .int .i64 o]) [(1, none), (2, some (.seq 5 M))] := by
 refine ⟨1, 2, by simp [mxH], by simp [namesS, namesL], fun x c hx => mx_no x c hx, rfl, fun x => ?_⟩
 match x with
 | 0 => rfl
 | 1 => rfl
 | 2 => rfl
 | x + 3 =>
  have h1 : ∀ k, k < 3 → ¬ (x + 3 = k) := fun k hk => by omega
  have h2 : ∀ k, k < 3 → Nat.beq k (x + 3) = false := fun k hk => nb_f (by omega)
  simp only [updF, mxH, HpL.get, h1 2 (by omega), h1 1 (by omega), if_false, h2 0 (by omega), h2 1 (by omega), cond_false, Option.map_none]
theorem mx_valid : ValidL Tryz.prog e5m := loop_valid2 (κ := κpk) (ι := ιpk) (T := ltab []) (sp := true) (fuel := 300) (c := c5m) (μ := mxM) pkOk mixTry ltab_nil (show fillC (ltab []) c5m = c5m by kernel_rfl) (by
 intro N args H v' ups' hbt h
 unfold e5m mxs_s at h
 simp only [] at h
 split at h
 · rename_i c v at_ n m o i ps M
   rw [crun_ite] at h
   cases hc : dec (mxOk v n i ps M m) with
   | false => rw [hc] at h; cases h
   | true =>
    rw [hc, cond_true] at h
    obtain ⟨rfl, hm, h0, h1, rfl, hv, hp, hM⟩ := dec_iff.1 hc
    have ht := mx_t N c v at_ ps.length M.length o i ps M
    have hN : Nat.blt (ps.length + 1 - i.toNat) (N + 1) = true := hbt
    rw [Nat.blt_eq] at hN
    by_cases hi : i ≤ ps.length
    · obtain ⟨j, hj⟩ : ∃ j, ps.length + 1 - i.toNat = j + 1 := ⟨ps.length - i.toNat, by omega⟩
      rw [hj, mxF] at h
      rw [hj] at hM
      rw [decide_eq_true hi, cond_true] at ht
      cases ha : i == at_ with
      | true =>
       rw [ha, cond_true, apC_ok rfl (by simp; omega), apC_ok rfl (by simp; omega), mxB_ok hN hj hm h0 hi hv hp (by simp; omega), List.append_assoc] at ht
       rw [show mx1 (unk c v) at_ i ⟨M, o⟩ = ⟨M ++ unk c v, M.length⟩ by unfold mx1; rw [ha]; rfl] at h
       cases h
       exact .inl ⟨_, congrArg crun ht, fun x => rfl⟩
      | false =>
       rw [ha, cond_false, mxB_ok hN hj hm h0 hi hv hp (by omega)] at ht
       rw [show mx1 (unk c v) at_ i ⟨M, o⟩ = ⟨M, o⟩ by unfold mx1; rw [ha]; rfl] at h
       cases h
       exact .inl ⟨_, congrArg crun ht, fun x => rfl⟩
    · rw [decide_eq_false hi, cond_false] at ht
      rw [show ps.length + 1 - i.toNat = 0 by omega, mxF] at h
      cases h
      exact .inr ⟨_, _, congrArg crun ht, mx_ren⟩
 · cases h)
end Go.Proofs.YtdgnhaacdpmclaaGreat
/- AttrAny: the law's trees. -/
namespace Go.Proofs.YtdgnhaacdpmclaaGreat
open Go.Am
set_option maxRecDepth 100000
noncomputable abbrev κany (s : CSumm) := tbl [(7, lives_s), (8, own_s), (14, s), (15, split_s), (16, pick_s), (9, aread2_s), (11, sameA_s), (12, same12_s)]
theorem anyOk {s : CSumm} (h : Known Tryz.prog 14 s) : KOk Tryz.prog (κany s) := tbl_cons lives_k (tbl_cons own_k (tbl_cons h (tbl_cons split_k (tbl_cons pick_k (tbl_cons aread2_k (tbl_cons sameA_k (tbl_cons same12_k ok0)))))))
noncomputable def e5mi : LEnt := { e5m with s := inS [none, none, none, none, some (5, 1), none, none] mxs_s }
theorem mx_in : ValidL Tryz.prog e5mi := loop_in mx_valid (fs := [none, none, none, none, some (5, 1), none, none]) ⟨fun _ => ⟨Tryz.underlying5, by kernel_rfl⟩, trivial⟩
noncomputable abbrev T5 : LTab := ltab [("s", e5s), ("m", e5mi)]
noncomputable abbrev m5 : Code := markC [(10, "s"), (17, "m")] body5
noncomputable def law5_b (s : CSumm) : CSumm := bodyCL Tryz.prog (openT Tryz.prog (κany s) 300 5) (fun g => inl (κany s) g && hasBody Tryz.prog g) T5 true 300 Tryz.f5 m5
theorem law5_k0 {s : CSumm} (h : Known Tryz.prog 14 s) : Known Tryz.prog 5 (law5_b s) := ⟨⟨Tryz.f5, Tryz.func5, noNum_at noNumTry Tryz.func5, rfl⟩, bodyL_valid (openT_ok noNumTry mixTry (anyOk h) 300 5) mixTry (ltab_cons sws_valid (ltab_cons mx_in ltab_nil)) Tryz.func5 (show Tryz.f5.body = some (fillC T5 m5) by kernel_rfl)⟩
def anyA (a : At) (r u ord : List SV) (c : Int) (v : List SV) (at_ : Int) : List SV := [a.v, .psl 49 r, .psl 49 u, .psl 3 ord, .int .i64 c, .psl 5 v, .int .i64 at_]
def anyT (a : At) (r u ord v : List SV) : Bool := bif bif !lightB a r u then true else decide ((ord.length : Int) > 70) then true else decide ((v.length : Int) > 60)
theorem any_n (a : At) (r u ord : List SV) (c : Int) (v : List SV) (at_ : Int) : law5_b bytesN_s (anyA a r u ord c v at_) [] = bif anyT a r u ord v then .ret (.bool true) [] else bif dec (Fit a r u ∧ chkAll a r u ≠ 0) then
 (bif chkAll a r u != 0 then .ret (.bool true) [] else .fail) else .fail := by kernel_rfl
noncomputable def rdCq (M : List SV) (m : Nat) (K : Int × Int × Ds → CTree) : CTree := bif dec (byl M ∧ m = M.length ∧ m ≤ 1000000) then K (rdQ M m) else .fail
noncomputable def rdPq (M : List SV) (K : Int × Int × Ds → CTree) : CTree := bif dec (byl M ∧ M.length ≤ 1000000) then K (rdQ M M.length) else .fail
noncomputable def any4 (B : List SV) (h j : Int × Int × Ds) : CTree := .ret (.bool (bif (h.1 == 11 && h.2.1 == B.length) then (bif j.1 == 4 then decide (j.2.1 < B.length) else false) else false)) []
noncomputable def any3 (B : List SV) (L' : List SV) (n : Nat) : CTree := bif dec (B.length ≤ 100000) then elC n L' 0 fun p => apC B.length B p fun m M => rdCq M m fun h =>
 bif decide (0 ≤ (0 : Int)) && decide (0 ≤ w64 ((B.length : Int) - 1)) && decide (w64 ((B.length : Int) - 1) ≤ (B.length : Int)) then rdPq ((B.drop (0 : Int).toNat).take ((w64 ((B.length : Int) - 1)).toNat - (0 : Int).toNat)) fun j => any4 B h j else .fail else .fail
noncomputable def any2 (B L' : List SV) (n : Nat) (o : Int) (g : Int × Int × Ds) : CTree :=
 bif (bif !(g.1 == 17 && g.2.1 == o) then true else (n : Int) == 0) then
  .ret (.bool (bif bif decide ((n : Int) > 0) then g.1 == 17 else false then g.2.1 == o else false)) []
 else any3 B L' n
noncomputable def any1 (a : At) (r u B L' : List SV) (n : Nat) (s : Mx) (q : Int × Int × Ds) : CTree :=
 bif !(q.1 == 0 && q.2.1 == 0) then .ret (.bool false) [] else
 bif dec (a.v = aD (dA a) ∧ aD q.2.2 = aD (dA a) ∧ a.path.length ≤ 100000 ∧ a.cl.length ≤ 100000 ∧ a.cm.length ≤ 100000) then bif dec (q.2.2.rch = r ∧ q.2.2.rch.length ≤ 100000) then bif dec (q.2.2.unr = u ∧ q.2.2.unr.length ≤ 100000) then
  bif inB s.o s.M.length then bif decide (0 + s.o.toNat < s.M.length) then rdCq (s.M.set (0 + s.o.toNat) (.int .u8 64)) s.M.length fun g => any2 B L' n s.o g else .fail else .fail
 else .fail else .fail else .fail
noncomputable def any0 (a : At) (r u ord : List SV) (c : Int) (v : List SV) (at_ : Int) (B L : List SV) : CTree :=
 bif dec (splG B 0 = true ∧ byl B ∧ B.length ≤ 100000 ∧ 3 < B.length) then bif dec (swOk ord L.length 0 L) then bif decide (0 < w64 ((L.length : Int) + 1)) then
  bif dec (mxOk v L.length 0 (swF ord (ord.length - (0 : Int).toNat) 0 L) [] 0) then
   (fun s : Mx => rdCq s.M s.M.length fun q => any1 a r u B (swF ord (ord.length - (0 : Int).toNat) 0 L) L.length s q) (mxF (unk c v) (pck at_ (w64 ((L.length : Int) + 1))) (swF ord (ord.length - (0 : Int).toNat) 0 L) (L.length + 1 - (0 : Int).toNat) 0 ⟨[], 0⟩)
  else .fail else .fail else .fail else .fail
theorem any_z (a : At) (r u ord : List SV) (c : Int) (v : List SV) (at_ : Int) : law5_b bytesP_s (anyA a r u ord c v at_) [] = bif anyT a r u ord v then .ret (.bool true) [] else bif dec (Fit a r u ∧ chkAll a r u = 0) then
 any0 a r u ord c v at_ (allB a (nbs r) (nbs u)) (splL (allB a (nbs r) (nbs u)) 0) else .fail := by kernel_rfl
end Go.Proofs.YtdgnhaacdpmclaaGreat
